/- This law's functions that are told by hand. -/
import Derived.Test.YtpoamlpahljebaaGreatDoorW27
import Derived.Test.YtpoamlpahljebaaGreatDoorW29
import Derived.Test.YtpoamlpahljebaaGreatDoorW30
import Derived.Shelf.Strconv.Itoa3
import Derived.Shelf.Strings.Search3
import Derived.Shelf.Sort.Plain
import Derived.Shelf.Slices.In.SortNone
import Derived.Shelf.Strconv.Itoa4
import Derived.Test.YtpoamlpahljebaaGreatDoorProg
import Derived.KernelRfl
import Derived.Test.YtpoamlpahljebaaGreatDoorW24
set_option maxRecDepth 100000
namespace Go.TL.H.Hcore
open Go Go.Proofs Go.Shelf
def xj:TL.Spec:=⟨122,2,[.p (.st (.var 0)) true,.p (.st (.var 1)) true],[],[],[⟨-1,[(7,1)]⟩,⟨1,[(7, -1)]⟩],[],⟨0,[]⟩,
 [⟨1,[],[],[],[],[.p (.bl (.var 2)) true]⟩]⟩
def Rw:TL.Spec:=⟨47,2,[.agg [.p (.sl (some 0)) false,.p (.sl (some 1)) false]],[],[(0,96),(1,84)],[],[],⟨0,[]⟩,
 [⟨1,[(2,1000096)],[],[],[(11,.box 90 [.ref 12,.p (.int .i64 ⟨0,[]⟩) true]),(12,.mp (some 4) (some 2) true)],[.ptr 11 0]⟩]⟩
def Pb:TL.Spec:=⟨62,1,[.vec 1000000],[(1000000,.vec 9 1 (some 0) true)],[(0,9)],[],[],⟨0,[]⟩,
 [⟨1,[(1,9)],[⟨0,[(1, -1),(5,1)]⟩,⟨0,[(1,1),(5, -1)]⟩],[],[(1000000,.vec 9 1 (some 1) true)],[]⟩]⟩
def Pc:TL.Spec:=⟨74,1,[.p (.int .i64 ⟨0,[(0,1)]⟩) true],[],[],[],[],⟨0,[]⟩,
 [⟨1,[],[⟨-21,[(7,1)]⟩],[],[],[.p (.st (.var 1)) true]⟩]⟩
def KD:TL.Spec:=⟨134,11,[.ptr 1000000 0],[(1000000,.box 109 [.p (.st (.var 0)) true,.p (.int .i64 ⟨0,[(4,1)]⟩) true,.p (.st (.var 2)) true,.p (.int .i64 ⟨0,[(12,1)]⟩) true,.p (.sl (some 4)) false,.p (.sl (some 5)) false,.p (.sl (some 6)) false,.p (.sl (some 7)) false,.ref 1000001,.ref 1000002,.p (.int .i64 ⟨0,[(40,1)]⟩) true]),(1000002,.mp none (some 9) true),(1000001,.mp none (some 8) true)],[(9,1000004),(8,1000004),(7,152),(6,30),(5,84),(4,9)],[⟨-4194303,[(37,1)]⟩,⟨0,[(40, -1)]⟩,⟨-35184367894528,[(40,1)]⟩],[],⟨0,[]⟩,
 [⟨2,[],[⟨-64,[(51,1)]⟩,⟨0,[(40,1),(44, -1)]⟩,⟨-4194304,[(40, -1),(44,1)]⟩],[],[(1000000,.box 109 [.p (.st (.var 0)) true,.p (.int .i64 ⟨0,[(4,1)]⟩) true,.p (.st (.var 2)) true,.p (.int .i64 ⟨0,[(12,1)]⟩) true,.p (.sl (some 4)) false,.p (.sl (some 5)) false,.p (.sl (some 6)) false,.p (.sl (some 7)) false,.ref 1000001,.ref 1000002,.p (.int .i64 ⟨0,[(44,1)]⟩) true]),(1000002,.mp none (some 9) true),(1000001,.mp none (some 8) true)],[.p (.st (.var 12)) true]⟩]⟩
def mq:TL.Spec:=⟨104,2,[.p (.int .i64 ⟨0,[(0,1)]⟩) true,.p (.int .i64 ⟨0,[(4,1)]⟩) true],[],[],[⟨-10,[(4,1)]⟩,⟨10,[(4, -1)]⟩],[],⟨0,[]⟩,
 [⟨1,[],[⟨-21,[(11,1)]⟩],[],[],[.p (.st (.var 2)) true]⟩]⟩
def yz:TL.Spec:=⟨105,2,[.p (.sl (some 0)) false,.p (.st (.var 1)) true],[],[(0,9)],[⟨-1,[(7,1)]⟩,⟨1,[(7, -1)]⟩,⟨-1073741823,[(2,1)]⟩],[],⟨0,[]⟩,
 [⟨1,[],[⟨0,[(2, -1),(11,1)]⟩],[],[],[.p (.st (.var 2)) true]⟩]⟩
def sY:TL.Spec:=⟨73,1,[.ptr 1000000 0,.p (.st (.var 0)) true],[(1000000,.box 125 [.p (.ej (.pointer none)) true,.p (.nl) true])],[],[⟨-1073741823,[(3,1)]⟩],[],⟨0,[]⟩,
 [⟨2,[(1,3000005)],[⟨0,[(3, -1),(5,1)]⟩,⟨0,[(3,1),(5, -1)]⟩],[],[(1000000,.box 125 [.ptr 1000000 0,.vec 11]),(11,.vec 5 1 (some 1) true)],[.p (.int .i64 ⟨0,[(8,1)]⟩) true,.p (.ej .nilIface) true]⟩]⟩
def sZ:TL.Spec:=⟨73,2,[.ptr 1000000 0,.p (.st (.var 1)) true],[(1000000,.box 125 [.ptr 1000000 0,.vec 1000001]),(1000001,.vec 5 1 (some 0) true)],[(0,3000005)],[⟨-1073741823,[(1,1),(7,1)]⟩],[],⟨0,[]⟩,
 [⟨2,[(2,3000005)],[⟨0,[(1, -1),(7, -1),(9,1)]⟩,⟨0,[(1,1),(7,1),(9, -1)]⟩],[],[(1000000,.box 125 [.ptr 1000000 0,.vec 11]),(11,.vec 5 1 (some 2) true)],[.p (.int .i64 ⟨0,[(12,1)]⟩) true,.p (.ej .nilIface) true]⟩]⟩
def nD:TL.Spec:=⟨72,0,[.ptr 1000000 0],[(1000000,.box 125 [.p (.ej (.pointer none)) true,.p (.nl) true])],[],[],[],⟨0,[]⟩,
 [⟨0,[],[],[],[(1000000,.box 125 [.p (.ej (.pointer none)) true,.p (.nl) true])],[.p (.st (.lit [])) true]⟩]⟩
def nE:TL.Spec:=⟨72,1,[.ptr 1000000 0],[(1000000,.box 125 [.ptr 1000000 0,.vec 1000001]),(1000001,.vec 5 1 (some 0) true)],[(0,3000005)],[⟨-1073741823,[(1,1)]⟩],[],⟨0,[]⟩,
 [⟨1,[],[⟨0,[(1, -1),(7,1)]⟩,⟨0,[(1,1),(7, -1)]⟩],[],[],[.p (.st (.var 1)) true]⟩]⟩
def Rx:Go.Shelf.Ren:=⟨fun|144=>122|143=>139|219=>150|217=>157|225=>158|224=>159|267=>160|266=>163|314=>164|n=>n,fun|9=>9|4=>4|3=>3|5=>5|46=>159|146=>224|51=>196|n=>n,fun|1=>1|n=>n⟩
theorem YN:Lays.n144 Tryz.prog Rx:={mixed:=by kernel_rfl,f143:=Tryz.func139.trans (congrArg some (by kernel_rfl)),f144:=Tryz.func122.trans (congrArg some (by kernel_rfl)),f217:=Tryz.func157.trans (congrArg some (by kernel_rfl)),f219:=Tryz.func150.trans (congrArg some (by kernel_rfl)),f224:=Tryz.func159.trans (congrArg some (by kernel_rfl)),f225:=Tryz.func158.trans (congrArg some (by kernel_rfl)),f266:=Tryz.func163.trans (congrArg some (by kernel_rfl)),f267:=Tryz.func160.trans (congrArg some (by kernel_rfl)),f314:=Tryz.func164.trans (congrArg some (by kernel_rfl)),t3:=Tryz.underlying3,a3:=Tryz.isAgg3,z3:=Tryz.sizeOf3,v3:=Tryz.zeroValue3,t4:=Tryz.underlying4,a4:=Tryz.isAgg4,z4:=Tryz.sizeOf4,v4:=Tryz.zeroValue4,t5:=Tryz.underlying5,a5:=Tryz.isAgg5,z5:=Tryz.sizeOf5,v5:=Tryz.zeroValue5,t9:=Tryz.underlying9,a9:=Tryz.isAgg9,z9:=Tryz.sizeOf9,v9:=Tryz.zeroValue9,t46:=Tryz.underlying159,a46:=Tryz.isAgg159,z46:=Tryz.sizeOf159,v46:=Tryz.zeroValue159,t51:=Tryz.underlying196,a51:=Tryz.isAgg196,z51:=Tryz.sizeOf196,v51:=Tryz.zeroValue196,t146:=Tryz.underlying224,a146:=Tryz.isAgg224,z146:=Tryz.sizeOf224,v146:=Tryz.zeroValue224,g1:=by kernel_rfl}
def Ry:Go.Shelf.Ren:=⟨fun|190=>62|125=>96|258=>95|128=>132|129=>133|302=>124|303=>125|304=>126|305=>127|306=>128|307=>129|308=>87|309=>130|310=>131|333=>140|329=>141|330=>142|334=>143|335=>144|336=>120|344=>151|n=>n,fun|31=>26|9=>9|3=>3|46=>159|0=>0|51=>196|53=>198|4=>4|183=>190|182=>189|131=>183|5=>5|218=>205|222=>113|228=>214|229=>215|n=>n,fun|17=>0|18=>2|19=>3|n=>n⟩
theorem Wl:Lays.n190 Tryz.prog Ry:={mixed:=by kernel_rfl,f125:=Tryz.func96.trans (congrArg some (by kernel_rfl)),f128:=Tryz.func132.trans (congrArg some (by kernel_rfl)),f129:=Tryz.func133.trans (congrArg some (by kernel_rfl)),f190:=Tryz.func62.trans (congrArg some (by kernel_rfl)),f258:=Tryz.func95.trans (congrArg some (by kernel_rfl)),f302:=Tryz.func124.trans (congrArg some (by kernel_rfl)),f303:=Tryz.func125.trans (congrArg some (by kernel_rfl)),f304:=Tryz.func126.trans (congrArg some (by kernel_rfl)),f305:=Tryz.func127.trans (congrArg some (by kernel_rfl)),f306:=Tryz.func128.trans (congrArg some (by kernel_rfl)),f307:=Tryz.func129.trans (congrArg some (by kernel_rfl)),f308:=Tryz.func87.trans (congrArg some (by kernel_rfl)),f309:=Tryz.func130.trans (congrArg some (by kernel_rfl)),f310:=Tryz.func131.trans (congrArg some (by kernel_rfl)),f329:=Tryz.func141.trans (congrArg some (by kernel_rfl)),f330:=Tryz.func142.trans (congrArg some (by kernel_rfl)),f333:=Tryz.func140.trans (congrArg some (by kernel_rfl)),f334:=Tryz.func143.trans (congrArg some (by kernel_rfl)),f335:=Tryz.func144.trans (congrArg some (by kernel_rfl)),f336:=Tryz.func120.trans (congrArg some (by kernel_rfl)),f344:=Tryz.func151.trans (congrArg some (by kernel_rfl)),t0:=Tryz.underlying0,a0:=Tryz.isAgg0,z0:=Tryz.sizeOf0,v0:=Tryz.zeroValue0,t3:=Tryz.underlying3,a3:=Tryz.isAgg3,z3:=Tryz.sizeOf3,v3:=Tryz.zeroValue3,t4:=Tryz.underlying4,a4:=Tryz.isAgg4,z4:=Tryz.sizeOf4,v4:=Tryz.zeroValue4,t5:=Tryz.underlying5,a5:=Tryz.isAgg5,z5:=Tryz.sizeOf5,v5:=Tryz.zeroValue5,t9:=Tryz.underlying9,a9:=Tryz.isAgg9,z9:=Tryz.sizeOf9,v9:=Tryz.zeroValue9,t31:=Tryz.underlying26,a31:=Tryz.isAgg26,z31:=Tryz.sizeOf26,v31:=Tryz.zeroValue26,t46:=Tryz.underlying159,a46:=Tryz.isAgg159,z46:=Tryz.sizeOf159,v46:=Tryz.zeroValue159,t51:=Tryz.underlying196,a51:=Tryz.isAgg196,z51:=Tryz.sizeOf196,v51:=Tryz.zeroValue196,t53:=Tryz.underlying198,a53:=Tryz.isAgg198,z53:=Tryz.sizeOf198,v53:=Tryz.zeroValue198,t131:=Tryz.underlying183,a131:=Tryz.isAgg183,z131:=Tryz.sizeOf183,v131:=Tryz.zeroValue183,t182:=Tryz.underlying189,a182:=Tryz.isAgg189,z182:=Tryz.sizeOf189,v182:=Tryz.zeroValue189,t183:=Tryz.underlying190,a183:=Tryz.isAgg190,z183:=Tryz.sizeOf190,v183:=Tryz.zeroValue190,t218:=Tryz.underlying205,a218:=Tryz.isAgg205,z218:=Tryz.sizeOf205,v218:=Tryz.zeroValue205,t222:=Tryz.underlying113,a222:=Tryz.isAgg113,z222:=Tryz.sizeOf113,v222:=Tryz.zeroValue113,t228:=Tryz.underlying214,a228:=Tryz.isAgg214,z228:=Tryz.sizeOf214,v228:=Tryz.zeroValue214,t229:=Tryz.underlying215,a229:=Tryz.isAgg215,z229:=Tryz.sizeOf215,v229:=Tryz.zeroValue215}
def Rz:Go.Shelf.Ren:=⟨fun|171=>74|243=>108|246=>135|283=>145|284=>146|285=>147|286=>148|129=>133|317=>152|318=>153|319=>154|320=>155|337=>161|338=>162|n=>n,fun|3=>3|9=>9|2=>2|4=>4|171=>210|0=>0|53=>198|37=>123|5=>5|173=>212|212=>219|51=>196|20=>20|213=>220|46=>159|232=>226|233=>227|n=>n,fun|17=>0|18=>2|19=>3|n=>n⟩
theorem YO:LaysM.n171 Tryz.prog Rz:={mixed:=by kernel_rfl,f129:=Tryz.func133.trans (congrArg some (by kernel_rfl)),f171:=Tryz.func74.trans (congrArg some (by kernel_rfl)),f243:=Tryz.func108.trans (congrArg some (by kernel_rfl)),f246:=Tryz.func135.trans (congrArg some (by kernel_rfl)),f283:=Tryz.func145.trans (congrArg some (by kernel_rfl)),f284:=Tryz.func146.trans (congrArg some (by kernel_rfl)),f285:=Tryz.func147.trans (congrArg some (by kernel_rfl)),f286:=Tryz.func148.trans (congrArg some (by kernel_rfl)),f317:=Tryz.func152.trans (congrArg some (by kernel_rfl)),f318:=Tryz.func153.trans (congrArg some (by kernel_rfl)),f319:=Tryz.func154.trans (congrArg some (by kernel_rfl)),f320:=Tryz.func155.trans (congrArg some (by kernel_rfl)),f337:=Tryz.func161.trans (congrArg some (by kernel_rfl)),f338:=Tryz.func162.trans (congrArg some (by kernel_rfl)),t0:=Tryz.underlying0,a0:=Tryz.isAgg0,z0:=Tryz.sizeOf0,v0:=Tryz.zeroValue0,t2:=Tryz.underlying2,a2:=Tryz.isAgg2,z2:=Tryz.sizeOf2,v2:=Tryz.zeroValue2,t3:=Tryz.underlying3,a3:=Tryz.isAgg3,z3:=Tryz.sizeOf3,v3:=Tryz.zeroValue3,t4:=Tryz.underlying4,a4:=Tryz.isAgg4,z4:=Tryz.sizeOf4,v4:=Tryz.zeroValue4,t5:=Tryz.underlying5,a5:=Tryz.isAgg5,z5:=Tryz.sizeOf5,v5:=Tryz.zeroValue5,t9:=Tryz.underlying9,a9:=Tryz.isAgg9,z9:=Tryz.sizeOf9,v9:=Tryz.zeroValue9,t20:=Tryz.underlying20,a20:=Tryz.isAgg20,z20:=Tryz.sizeOf20,v20:=Tryz.zeroValue20,t37:=Tryz.underlying123,a37:=Tryz.isAgg123,z37:=Tryz.sizeOf123,v37:=Tryz.zeroValue123,t46:=Tryz.underlying159,a46:=Tryz.isAgg159,z46:=Tryz.sizeOf159,v46:=Tryz.zeroValue159,t51:=Tryz.underlying196,a51:=Tryz.isAgg196,z51:=Tryz.sizeOf196,v51:=Tryz.zeroValue196,t53:=Tryz.underlying198,a53:=Tryz.isAgg198,z53:=Tryz.sizeOf198,v53:=Tryz.zeroValue198,t171:=Tryz.underlying210,a171:=Tryz.isAgg210,z171:=Tryz.sizeOf210,v171:=Tryz.zeroValue210,t173:=Tryz.underlying212,a173:=Tryz.isAgg212,z173:=Tryz.sizeOf212,v173:=Tryz.zeroValue212,t212:=Tryz.underlying219,a212:=Tryz.isAgg219,z212:=Tryz.sizeOf219,v212:=Tryz.zeroValue219,t213:=Tryz.underlying220,a213:=Tryz.isAgg220,z213:=Tryz.sizeOf220,t232:=Tryz.underlying226,a232:=Tryz.isAgg226,z232:=Tryz.sizeOf226,v232:=Tryz.zeroValue226,t233:=Tryz.underlying227,a233:=Tryz.isAgg227,z233:=Tryz.sizeOf227,v233:=Tryz.zeroValue227,g17:=by kernel_rfl,g18:=by kernel_rfl,g19:=by kernel_rfl,i0:=by kernel_rfl,i2:=by kernel_rfl,i3:=by kernel_rfl,i4:=by kernel_rfl,i5:=by kernel_rfl,i9:=by kernel_rfl,i20:=by kernel_rfl,i37:=by kernel_rfl,i46:=by kernel_rfl,i51:=by kernel_rfl,i53:=by kernel_rfl,i171:=by kernel_rfl,i173:=by kernel_rfl,i212:=by kernel_rfl,i232:=by kernel_rfl,i233:=by kernel_rfl,m17:=by kernel_rfl,m18:=by kernel_rfl,m19:=by kernel_rfl}
def RA:Go.Shelf.Ren:=⟨fun|173=>104|246=>135|283=>145|284=>146|285=>147|286=>148|129=>133|317=>152|318=>153|319=>154|320=>155|337=>161|338=>162|n=>n,fun|2=>2|3=>3|9=>9|4=>4|171=>210|0=>0|53=>198|37=>123|5=>5|173=>212|212=>219|51=>196|20=>20|213=>220|46=>159|232=>226|233=>227|n=>n,fun|17=>0|18=>2|19=>3|n=>n⟩
theorem YP:LaysM.n173 Tryz.prog RA:={mixed:=by kernel_rfl,f129:=Tryz.func133.trans (congrArg some (by kernel_rfl)),f173:=Tryz.func104.trans (congrArg some (by kernel_rfl)),f246:=Tryz.func135.trans (congrArg some (by kernel_rfl)),f283:=Tryz.func145.trans (congrArg some (by kernel_rfl)),f284:=Tryz.func146.trans (congrArg some (by kernel_rfl)),f285:=Tryz.func147.trans (congrArg some (by kernel_rfl)),f286:=Tryz.func148.trans (congrArg some (by kernel_rfl)),f317:=Tryz.func152.trans (congrArg some (by kernel_rfl)),f318:=Tryz.func153.trans (congrArg some (by kernel_rfl)),f319:=Tryz.func154.trans (congrArg some (by kernel_rfl)),f320:=Tryz.func155.trans (congrArg some (by kernel_rfl)),f337:=Tryz.func161.trans (congrArg some (by kernel_rfl)),f338:=Tryz.func162.trans (congrArg some (by kernel_rfl)),t0:=Tryz.underlying0,a0:=Tryz.isAgg0,z0:=Tryz.sizeOf0,v0:=Tryz.zeroValue0,t2:=Tryz.underlying2,a2:=Tryz.isAgg2,z2:=Tryz.sizeOf2,v2:=Tryz.zeroValue2,t3:=Tryz.underlying3,a3:=Tryz.isAgg3,z3:=Tryz.sizeOf3,v3:=Tryz.zeroValue3,t4:=Tryz.underlying4,a4:=Tryz.isAgg4,z4:=Tryz.sizeOf4,v4:=Tryz.zeroValue4,t5:=Tryz.underlying5,a5:=Tryz.isAgg5,z5:=Tryz.sizeOf5,v5:=Tryz.zeroValue5,t9:=Tryz.underlying9,a9:=Tryz.isAgg9,z9:=Tryz.sizeOf9,v9:=Tryz.zeroValue9,t20:=Tryz.underlying20,a20:=Tryz.isAgg20,z20:=Tryz.sizeOf20,v20:=Tryz.zeroValue20,t37:=Tryz.underlying123,a37:=Tryz.isAgg123,z37:=Tryz.sizeOf123,v37:=Tryz.zeroValue123,t46:=Tryz.underlying159,a46:=Tryz.isAgg159,z46:=Tryz.sizeOf159,v46:=Tryz.zeroValue159,t51:=Tryz.underlying196,a51:=Tryz.isAgg196,z51:=Tryz.sizeOf196,v51:=Tryz.zeroValue196,t53:=Tryz.underlying198,a53:=Tryz.isAgg198,z53:=Tryz.sizeOf198,v53:=Tryz.zeroValue198,t171:=Tryz.underlying210,a171:=Tryz.isAgg210,z171:=Tryz.sizeOf210,v171:=Tryz.zeroValue210,t173:=Tryz.underlying212,a173:=Tryz.isAgg212,z173:=Tryz.sizeOf212,v173:=Tryz.zeroValue212,t212:=Tryz.underlying219,a212:=Tryz.isAgg219,z212:=Tryz.sizeOf219,v212:=Tryz.zeroValue219,t213:=Tryz.underlying220,a213:=Tryz.isAgg220,z213:=Tryz.sizeOf220,t232:=Tryz.underlying226,a232:=Tryz.isAgg226,z232:=Tryz.sizeOf226,v232:=Tryz.zeroValue226,t233:=Tryz.underlying227,a233:=Tryz.isAgg227,z233:=Tryz.sizeOf227,v233:=Tryz.zeroValue227,g17:=by kernel_rfl,g18:=by kernel_rfl,g19:=by kernel_rfl,i0:=by kernel_rfl,i2:=by kernel_rfl,i3:=by kernel_rfl,i4:=by kernel_rfl,i5:=by kernel_rfl,i9:=by kernel_rfl,i20:=by kernel_rfl,i37:=by kernel_rfl,i46:=by kernel_rfl,i51:=by kernel_rfl,i53:=by kernel_rfl,i171:=by kernel_rfl,i173:=by kernel_rfl,i212:=by kernel_rfl,i232:=by kernel_rfl,i233:=by kernel_rfl,m17:=by kernel_rfl,m18:=by kernel_rfl,m19:=by kernel_rfl}
def Br:Go.Shelf.Ren:=⟨fun|156=>105|165=>136|166=>73|169=>72|240=>107|241=>149|276=>137|277=>156|n=>n,fun|31=>26|9=>9|3=>3|4=>4|0=>0|20=>20|72=>125|76=>130|70=>122|37=>123|75=>129|127=>173|164=>201|5=>5|80=>127|n=>n,fun|n=>n⟩
theorem MX:Lays.n156 Tryz.prog Br:={mixed:=by kernel_rfl,f156:=Tryz.func105.trans (congrArg some (by kernel_rfl)),f165:=Tryz.func136.trans (congrArg some (by kernel_rfl)),f166:=Tryz.func73.trans (congrArg some (by kernel_rfl)),f169:=Tryz.func72.trans (congrArg some (by kernel_rfl)),f240:=Tryz.func107.trans (congrArg some (by kernel_rfl)),f241:=Tryz.func149.trans (congrArg some (by kernel_rfl)),f276:=Tryz.func137.trans (congrArg some (by kernel_rfl)),f277:=Tryz.func156.trans (congrArg some (by kernel_rfl)),t0:=Tryz.underlying0,a0:=Tryz.isAgg0,z0:=Tryz.sizeOf0,v0:=Tryz.zeroValue0,t3:=Tryz.underlying3,a3:=Tryz.isAgg3,z3:=Tryz.sizeOf3,v3:=Tryz.zeroValue3,t4:=Tryz.underlying4,a4:=Tryz.isAgg4,z4:=Tryz.sizeOf4,v4:=Tryz.zeroValue4,t9:=Tryz.underlying9,a9:=Tryz.isAgg9,z9:=Tryz.sizeOf9,v9:=Tryz.zeroValue9,t20:=Tryz.underlying20,a20:=Tryz.isAgg20,z20:=Tryz.sizeOf20,v20:=Tryz.zeroValue20,t31:=Tryz.underlying26,a31:=Tryz.isAgg26,z31:=Tryz.sizeOf26,v31:=Tryz.zeroValue26,t37:=Tryz.underlying123,a37:=Tryz.isAgg123,z37:=Tryz.sizeOf123,v37:=Tryz.zeroValue123,t70:=Tryz.underlying122,a70:=Tryz.isAgg122,z70:=Tryz.sizeOf122,v70:=Tryz.zeroValue122,t72:=Tryz.underlying125,a72:=Tryz.isAgg125,z72:=Tryz.sizeOf125,v72:=Tryz.zeroValue125,t75:=Tryz.underlying129,a75:=Tryz.isAgg129,z75:=Tryz.sizeOf129,v75:=Tryz.zeroValue129,t76:=Tryz.underlying130,a76:=Tryz.isAgg130,z76:=Tryz.sizeOf130,v76:=Tryz.zeroValue130,t127:=Tryz.underlying173,a127:=Tryz.isAgg173,z127:=Tryz.sizeOf173,v127:=Tryz.zeroValue173,t164:=Tryz.underlying201,a164:=Tryz.isAgg201,z164:=Tryz.sizeOf201,v164:=Tryz.zeroValue201}
theorem t76:Tp Proofs.Tryz.prog 76 false 1:=du (by kernel_rfl) (by kernel_rfl) rfl
theorem t88:Tp Proofs.Tryz.prog 88 false 1:=du (by kernel_rfl) (by kernel_rfl) rfl
theorem t9:Tp Proofs.Tryz.prog 9 false 1:=du (by kernel_rfl) (by kernel_rfl) rfl
theorem t96:Tp Proofs.Tryz.prog 96 true 4:=du (by kernel_rfl) (by kernel_rfl) rfl
theorem t22:Tp Proofs.Tryz.prog 22 false 1:=du (by kernel_rfl) (by kernel_rfl) rfl
theorem t3:Tp Proofs.Tryz.prog 3 false 1:=du (by kernel_rfl) (by kernel_rfl) rfl
theorem t103:Tp Proofs.Tryz.prog 103 false 1:=du (by kernel_rfl) (by kernel_rfl) rfl
theorem t123:Tp Proofs.Tryz.prog 123 false 1:=du (by kernel_rfl) (by kernel_rfl) rfl
theorem FQ:aA Proofs.Tryz.prog aI xj:=Et fun s c w=>Any.strings_Contains_one YN s c w
theorem YQ:Body Proofs.Tryz.prog 47 22 [.tmp 2] (ofC 25 90 88 76 22 83 (qn Proofs.Tryz.prog 47).1 (qn Proofs.Tryz.prog 47).2):=aM (by kernel_rfl) (by kernel_rfl)
theorem YR:Body Proofs.Tryz.prog 83 4 [.tmp 2] (MS 22 117):=aM (by kernel_rfl) (by kernel_rfl)
theorem X1:Body Proofs.Tryz.prog 117 19 [] (IK 3 22 96 4):=aM (by kernel_rfl) (by kernel_rfl)
theorem ofH:OfH Proofs.Tryz.prog 25 90 88 76 22 96 9 83 117 ((Proofs.Tryz.prog.info? 96).getD default):=⟨(by kernel_rfl),t76,t88,t9,t96,t22,(by kernel_rfl),(by kernel_rfl),(by kernel_rfl),Go.Proofs.Tryz.underlying88,Go.Proofs.Tryz.underlying9,ic (by kernel_rfl) rfl rfl,ic (by kernel_rfl) rfl rfl,fun _=>(by kernel_rfl),(by kernel_rfl),(by kernel_rfl),Go.Proofs.Tryz.underlying22,(by kernel_rfl),(by kernel_rfl)⟩
theorem Wm:aA Proofs.Tryz.prog aI Rw:=Rt (by decide) (by kernel_rfl) (by kernel_rfl) fun p len cap v2 vs Qe w q1 q2 q3 q4=>Wk ofH YQ (by kernel_rfl) (by kernel_rfl) YR X1 q1 q2 q3 q4
theorem Wn:aA Proofs.Tryz.prog aI Pb:=MR (by kernel_rfl) (fun p cap w=>Any.slices_Sort_string_none Wl p cap w) (fun blk cap ss w h1 h2 h3=>Any.slices_Sort_string Wl blk 0 cap ss w h1 h2 h3)
theorem ito(n:Int)(h0: -9223372036854775808≤n)(h1:n≤9223372036854775807)(w:World)(ht:Lib.TabIs Proofs.Tryz.prog w "internal/strconv.uint64pow10" .u64 Lib.pow10Tab):Calls Proofs.Tryz.prog 74 #[.int .i64 n] w fun e w'=>e= .returned (.string ⟨(Lib.itoa n).toArray⟩)∧∃k os,w'=Sort.grow (w.drewN k) os:=Any.strconv_Itoa YO n h0 h1 w ht
theorem Wo:aA Proofs.Tryz.prog aI Pc:=MO (by kernel_rfl) ito
theorem X2:Body Proofs.Tryz.prog 134 25 [.tmp 2] (KC 109 3 9 103 4 74 [36]):=aM (by kernel_rfl) (by kernel_rfl)
theorem TX:aA Proofs.Tryz.prog aI KD:=IQ (by kernel_rfl) (fun w b bm n vs es clock q1 q2 q3 q4 q5 q6 q7 q8 q9 q10=>MW X2 (by decide) (by kernel_rfl) (by kernel_rfl) t3 t103 Go.Proofs.Tryz.underlying103 Go.Proofs.Tryz.underlying9 Go.Proofs.Tryz.zeroValue4 (by kernel_rfl) ito q1 q2 q3 q4 q5 q6 q7 q8 q9 q10) (by kernel_rfl)
theorem Aw:aA Proofs.Tryz.prog aI mq:=Da (by kernel_rfl) fun n h0 h1 w ht=>Any.strconv_FormatInt_10 YP n h0 h1 w ht
theorem bx:Builder.Extra Proofs.Tryz.prog Br:={sizeBuilder:=(by kernel_rfl),liesBuilder:=(by kernel_rfl),t5:=Go.Proofs.Tryz.underlying5,a5:=Go.Proofs.Tryz.isAgg5,z5:=Go.Proofs.Tryz.sizeOf5,v5:=Go.Proofs.Tryz.zeroValue5,infoByte:=(by kernel_rfl),cellsByte:=(by kernel_rfl),sizeByte:=(by kernel_rfl),neB5:=(by decide)}
theorem Pd:aA Proofs.Tryz.prog aI yz:=MV (by kernel_rfl) (fun a c sep w=>Any.strings_Join_none MX bx a c sep w) (fun bk o c xs sep w q1 q2 q3 q4 q5=>Any.strings_Join MX bx bk o c xs sep w q1 q2 q3 q4 q5)
theorem Wp:Builder.X72 Proofs.Tryz.prog Br:={sizeBuilder:=(by kernel_rfl),liesBuilder:=(by kernel_rfl)}
theorem buH:BuH Proofs.Tryz.prog 107 125 123 9 5 ((Proofs.Tryz.prog.info? 5).getD default):=⟨(by kernel_rfl),t123,Go.Proofs.Tryz.underlying123,Go.Proofs.Tryz.underlying9,(by kernel_rfl),(by kernel_rfl),(by kernel_rfl),(by kernel_rfl),(by decide),(by kernel_rfl),fun b w h=>Any.Builder_copyCheck_used {MX with} Wp b w h,fun b w h0 h1 h2=>Any.Builder_copyCheck_fresh {MX with} Wp b w h0 h1 h2⟩
theorem Wq:Body Proofs.Tryz.prog 73 19 [.tmp 4,.tmp 5] (C8 107 125 123 9 3):=aM (by kernel_rfl) (by kernel_rfl)
theorem IS:aA Proofs.Tryz.prog aI sY:=IM buH Wq (by decide) (by kernel_rfl)
theorem IT:aA Proofs.Tryz.prog aI sZ:=IN buH Wq (by decide) (by kernel_rfl)
theorem YS:Body Proofs.Tryz.prog 72 14 [.tmp 2] (KB 125 123 173 3 9):=aM (by kernel_rfl) (by kernel_rfl)
theorem Wr(w:World)(b:Nat)(p v:Value)(l:List UInt8)(q1:w.heap[b]? =some (.cells #[p,v] 125 (0,0)))(q2:w.ownsRow 0 5 1 v l.length (Lib.byteCells l))(q3:l.length≤1073741823):Ret Proofs.Tryz.prog 72 [Ptr b 0] w fun r w'=>r= .string ⟨l.toArray⟩∧Ch (fun c=>v.ownBlock=some c) w w':=MU YS (by kernel_rfl) (by kernel_rfl) t123 Go.Proofs.Tryz.underlying123 Go.Proofs.Tryz.underlying173 (by kernel_rfl) q1 q2 q3
theorem yA:aA Proofs.Tryz.prog aI nD:=FO Wr
theorem yB:aA Proofs.Tryz.prog aI nE:=FP (by kernel_rfl) Wr
end Go.TL.H.Hcore
namespace Go.TL
def Seq.st(s:Seq):DSt:=⟨[],[],s.tys,s.lin,s.prs,0,[]⟩
def RB(id k:Nat)(l:List PF):Bool:=l.any fun f=>match f with
 | .pr i [j]=>Nat.beq i id && Nat.beq j k
 |_=>false
def hasB(b:Nat)(l:List PF):Bool:=l.any fun f=>match f with
 | .je (.var j)=>Nat.beq j b
 |_=>false
def SN(b:Nat)(l:List PF):Bool:=l.any fun f=>match f with
 | .je (.not (.var j))=>Nat.beq j b
 |_=>false
def Ws(s:Seq)(e:Lin):Bool:=s.prs.any fun f=>match f with
 | .je (.or (.eq a) (.eq b))=>a.beq (e.aN (-1)) && b.beq (e.aN (-3))
 |_=>false
def MY(s:Seq)(e:Lin):Bool:=(cW s.st (e.aN 1)||cW s.st ((Lin.scale (-1) e).aN 1))||s.prs.any fun f=>match f with
 | .je (.not (.eq e'))=>e'.beq e
 |_=>false
def isZero(s:Seq)(e:Lin):Bool:=cW s.st e && cW s.st (Lin.scale (-1) e)
def KE(s:Seq):List DP→Bool
 | .int .i64 e::_=>Ws s e
 |_=>false
def wN(s:Seq):List (List DP)→Bool
 | []=>true
 |r::rs=>match KE s r with|true=>wN s rs|false=>false
def vj(s:Seq):Nat→Nat→Bool
 |0,_=>false
 |n+1,l=>match RB 79 l s.prs,cW s.st (Lin.at (4*l+1))with
  |true,_=>true
  |_,true=>true
  |_,_=>s.prs.any fun f=>match f with
   | .sub l' a _ _=>Nat.beq l' l && vj s n a
   | .app l' a b=>Nat.beq l' l && ((match a with|some a=>vj s n a|none=>true) && (match b with|some b=>vj s n b|none=>true))
   | .lit l' rows=>Nat.beq l' l && wN s rows
   |_=>false
def contra(s:Seq):Bool:=s.prs.any fun f=>match f with
 | .je (.or (.eq a) (.eq b))=>MY s a && MY s b
 | .pr 95 [b,k,t]=>hasB b s.prs && s.prs.any fun f'=>match f' with
  | .pr 95 [b',k',t']=>(Nat.beq k k' && Nat.beq t t') && SN b' s.prs
  |_=>false
 |_=>false
def Pe(s:Seq):Bool:=match s.goal with
 | .pf (.pr 79 [l])=>vj s 6 l
 | .pf (.je (.or (.eq a) (.eq b)))=>(isZero s a||isZero s b)||s.prs.any fun f=>match f with
  | .row l _ (.int .i64 e'::_)=>RB 79 l s.prs && (a.beq (e'.aN (-1)) && b.beq (e'.aN (-3)))
  |_=>false
 |_=>false
def MZ(s:Seq):Bool:=match contra s with|true=>true|false=>Pe s
def zM:List Seq→Bool
 | []=>true
 |s::r=>match MZ s with|true=>zM r|false=>false
def Calm(l:List (List PV)):Prop:=∀row∈l,∃(k:Int) (r:List PV),row= .v (.int .i64 k)::r∧(k=1∨k=3)
structure Db(I:Pr):Prop where
 calm:∀va:Va,I 79 [va] ↔ Calm va.l
 mark:∀b k t:Va,I 95 [b,k,t] ↔ b.b=((k.n==8) && (t.s.toList==(⟨#[125]⟩:ByteArray).toList))
theorem RC(N:Nat):Db (inN aI N):=
 ⟨fun _=>Iff.rfl,fun _ _ _=>Iff.rfl⟩
section
variable {P:Program} {I:Pr} {ρ:Ro} {s:Seq}
theorem ke:∀{l:List PF},c5 I ρ l→∀f∈l,f.v I ρ
 | [],_,f,hf=>by simp at hf
 |x::r,h,f,hf=>by
  rcases Z1 hf with rfl|hf
  ·exact h.1
  ·exact ke h.2 f hf
theorem Pf{id k:Nat}{l:List PF}(hl:c5 I ρ l)(h:RB id k l=true):I id [ρ k]:=by
 obtain⟨f,hf,ht⟩:=List.any_eq_true.1 h
 have hv:=ke hl f hf
 split at ht
 ·simp only[Bool.and_eq_true]at ht
  rw[←ZU ht.1, ←ZU ht.2]
  exact hv
 ·cases ht
theorem Wt{b:Nat}{l:List PF}(hl:c5 I ρ l)(h:hasB b l=true):(ρ b).b=true:=by
 obtain⟨f,hf,ht⟩:=List.any_eq_true.1 h
 have hv:=ke hl f hf
 split at ht
 ·rw[←ZU ht];exact hv
 ·cases ht
theorem T3{b:Nat}{l:List PF}(hl:c5 I ρ l)(h:SN b l=true):(ρ b).b=false:=by
 obtain⟨f,hf,ht⟩:=List.any_eq_true.1 h
 have hv:=ke hl f hf
 split at ht
 ·rw[←ZU ht];simpa[PF.v,BF.v]using hv
 ·cases ht
theorem Wu{e:Lin}(hl:c5 I ρ s.prs)(h:Ws s e=true):e.v ρ=1∨e.v ρ=3:=by
 obtain⟨f,hf,ht⟩:=List.any_eq_true.1 h
 have hv:=ke hl f hf
 split at ht
 ·simp only[Bool.and_eq_true]at ht
  rw[Lin.beq_eq ht.1,Lin.beq_eq ht.2]at hv
  simp only[PF.v,BF.v,Bool.or_eq_true,decide_eq_true_eq,Lin.aO]at hv
  omega
 ·cases ht
theorem Pg{e:Lin}(ab:s.st.ok P I ρ)(h:MY s e=true):e.v ρ≠0:=by
 have hl:c5 I ρ s.prs:=ab.prs
 unfold MY at h
 simp only[Bool.or_eq_true]at h
 rcases h with(h|h)|h
 ·have:=cB ab h;simp only[Lin.aO]at this;omega
 ·have:=cB ab h;simp only[Lin.aO,Lin.bE]at this;omega
 ·obtain⟨f,hf,ht⟩:=List.any_eq_true.1 h
  have hv:=ke hl f hf
  split at ht
  ·rw[Lin.beq_eq ht]at hv
   simpa only[PF.v,BF.v,Bool.not_eq_true',decide_eq_false_iff_not]using hv
  ·cases ht
theorem IU{e:Lin}(ab:s.st.ok P I ρ)(h:isZero s e=true):e.v ρ=0:=by
 unfold isZero at h
 simp only[Bool.and_eq_true]at h
 have h1:=cB ab h.1
 have h2:=cB ab h.2
 simp only[Lin.bE]at h2
 omega
theorem Dc(hl:c5 I ρ s.prs):∀{rows:List (List DP)},wN s rows=true→Calm (dZ ρ rows)
 | [],_=>by intro row hr;simp[dZ]at hr
 |r::rs,h=>by
  simp only[wN]at h
  split at h
  ·rename_i hr
   intro row a6
   simp only[dZ,List.mem_cons]at a6
   rcases a6 with rfl|a6
   ·unfold KE at hr
    split at hr
    ·rename_i e xs;exact⟨e.v ρ,ar ρ xs,rfl,Wu hl hr⟩
    ·cases hr
   ·exact Dc hl h row a6
  ·cases h
theorem wO(hI:Db I)(ab:s.st.ok P I ρ):∀(n l:Nat),vj s n l=true→Calm (ρ l).l
 |0,l,h=>by cases h
 |n+1,l,h=>by
  have hl:c5 I ρ s.prs:=ab.prs
  simp only[vj]at h
  split at h
  ·rename_i h1;exact(hI.calm _).1 (Pf hl h1)
  ·rename_i h1 _
   have:=cB ab h1
   simp only[Lin.bN,dI]at this
   have h0:(ρ l).l=[]:=List.length_eq_zero_iff.1 (by omega)
   rw[h0];intro row hr;simp at hr
  ·obtain⟨f,hf,ht⟩:=List.any_eq_true.1 h
   have hv:=ke hl f hf
   split at ht
   ·rename_i l' a lo hi
    simp only[Bool.and_eq_true]at ht
    rw[←ZU ht.1]
    have ih:=wO hI ab n a ht.2
    simp only[PF.v]at hv
    rw[hv]
    intro row hr
    exact ih row (List.mem_of_mem_take (List.mem_of_mem_drop hr))
   ·rename_i l' a b
    simp only[Bool.and_eq_true]at ht
    rw[←ZU ht.1]
    simp only[PF.v]at hv
    rw[hv]
    intro row hr
    rcases Z0 hr with hr|hr
    ·cases a with
     |none=>simp[lvV]at hr
     |some a=>exact wO hI ab n a ht.2.1 row hr
    ·cases b with
     |none=>simp[lvV]at hr
     |some b=>exact wO hI ab n b ht.2.2 row hr
   ·rename_i l' rows
    simp only[Bool.and_eq_true]at ht
    rw[←ZU ht.1]
    simp only[PF.v]at hv
    rw[hv];exact Dc hl ht.2
   ·cases ht
theorem RD(hI:Db I)(ab:s.st.ok P I ρ)(h:contra s=true):False:=by
 have hl:c5 I ρ s.prs:=ab.prs
 obtain⟨f,hf,ht⟩:=List.any_eq_true.1 h
 have hv:=ke hl f hf
 split at ht
 ·simp only[Bool.and_eq_true]at ht
  have h1:=Pg ab ht.1
  have h2:=Pg ab ht.2
  simp only[PF.v,BF.v,Bool.or_eq_true,decide_eq_true_eq]at hv
  omega
 ·rename_i b k t
  simp only[Bool.and_eq_true]at ht
  obtain⟨hb,ht⟩:=ht
  obtain⟨f',hf',ht'⟩:=List.any_eq_true.1 ht
  have lH:=ke hl f' hf'
  split at ht'
  ·rename_i b' k' t'
   simp only[Bool.and_eq_true]at ht'
   obtain⟨⟨e1,e2⟩,hnb⟩:=ht'
   have e1:=ZU e1
   have e2:=ZU e2
   subst e1;subst e2
   have a1:=(hI.mark (ρ b) (ρ k) (ρ t)).1 hv
   have a2:=(hI.mark (ρ b') (ρ k) (ρ t)).1 lH
   rw[Wt hl hb]at a1
   rw[T3 hl hnb]at a2
   rw[←a1]at a2;cases a2
  ·cases ht'
 ·cases ht
theorem T4(hI:Db I)(h:MZ s=true):s.valid P I:=by
 intro ρ hg ht hlin hl
 have ab:s.st.ok P I ρ:=⟨hg,ht,hlin,hl⟩
 unfold MZ at h
 split at h
 ·rename_i hc;exact(RD hI ab hc).elim
 ·unfold Pe at h
  split at h
  ·rename_i l hgoal
   rw[hgoal]
   exact(hI.calm _).2 (wO hI ab 6 l h)
  ·rename_i a b hgoal
   rw[hgoal]
   simp only[G.v,PF.v,BF.v,Bool.or_eq_true,decide_eq_true_eq]
   simp only[Bool.or_eq_true]at h
   rcases h with(h|h)|h
   ·exact .inl (IU ab h)
   ·exact .inr (IU ab h)
   ·obtain⟨f,hf,hq⟩:=List.any_eq_true.1 h
    have hv:=ke hl f hf
    split at hq
    ·rename_i l i e' xs
     simp only[Bool.and_eq_true]at hq
     obtain⟨h1,h2,h3⟩:=hq
     have hc:=(hI.calm _).1 (Pf hl h1)
     simp only[PF.v,ar]at hv
     obtain⟨k,r,hr,hk⟩:=hc _ (Z2 hv.2)
     simp only[DP.v,List.cons.injEq,PV.v.injEq,Value.int.injEq,true_and]at hr
     rw[Lin.beq_eq h2,Lin.beq_eq h3]
     simp only[Lin.aO]
     omega
    ·cases hq
  ·cases h
end
theorem FB{P:Program}{I:Pr}(hI:Db I):∀{q:List Seq},zM q=true→Valid P I q
 | [],_=>Valid.nil
 |s::r,h=>by
  simp only[zM]at h
  split at h
  ·rename_i hs
   intro x hx
   rcases Z1 hx with rfl|hx
   ·exact T4 hI hs
   ·exact FB hI h x hx
  ·cases h
def aX(P:Program)(D G:List Spec)(s:Spec)(A:Ann):Bool:=match uZ P D G s A with|some q=>zM q|none=>false
theorem T5{P:Program}{D G:List Spec}{s:Spec}{A:Ann}(h:aX P D G s A=true):∃A q,uZ P D G s A=some q∧∀N,Valid P (inN aI N) q:=by
 unfold aX at h
 split at h
 ·rename_i q hq
  exact⟨A,q,hq,fun N=>FB (RC N) h⟩
 ·cases h
inductive mV(P:Program):List Spec→Prop
 |nil:mV P []
 |cons {s:Spec} {r:List Spec} (h:aA P aI s) (k:mV P r):mV P (s::r)
theorem mV.hd{P:Program}{s:Spec}{r:List Spec}:mV P (s::r)→aA P aI s| .cons h _=>h
theorem mV.tl{P:Program}{s:Spec}{r:List Spec}:mV P (s::r)→mV P r| .cons _ h=>h
theorem mV.mem{P:Program}{l:List Spec}(h:mV P l):∀s∈l,aA P aI s:=by
 induction h with
 |nil=>simp
 |cons h _ ih=>intro s hs;rcases Z1 hs with rfl|hs;exact h;exact ih s hs
inductive IV(P:Program)(D G:List Spec):List Spec→Prop
 |nil:IV P D G []
 |cons {s:Spec} {A:Ann} {r:List Spec} (h:aX P D G s A=true) (k:IV P D G r):IV P D G (s::r)
theorem grp{P:Program}{D G:List Spec}(hD:mV P D)(hG:IV P D G G):mV P G:=by
 have h1:∀s∈G,aA P aI s:=Rb hD.mem (by
  have:∀l,IV P D G l→∀s∈l,∃A q,uZ P D G s A=some q∧∀N,Valid P (inN aI N) q:=by
   intro l h
   induction h with
   |nil=>simp
   |cons h _ ih=>intro s hs;rcases Z1 hs with rfl|hs;exact T5 h;exact ih s hs
  exact this G hG)
 have:∀l:List Spec,(∀s∈l,aA P aI s)→mV P l:=by
  intro l
  induction l with
  |nil=>intro _;exact .nil
  |cons s r ih=>intro h;exact .cons (h s (ZW ..)) (ih fun x hx=>h x (ZV _ hx))
 exact this G h1
end Go.TL
