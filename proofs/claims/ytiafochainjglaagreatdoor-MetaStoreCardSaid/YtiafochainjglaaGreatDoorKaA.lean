/-
  OWN WORK, A PART: an abstract machine for the program's text that the kernel can run, and the proof that it is sound: what it answers is what the program answers; contracts of functions by it. No condition.
-/
import Derived.Test.YtiafochainjglaaGreatDoorRows
import Derived.Test.YtiafochainjglaaGreatDoorWaF
import Derived.WalkKit
import Derived.ProofKit
import Derived.OpenVars
import Derived.OpenShut
import Derived.LaidMore
import Derived.Lay
import Derived.Stop.Joined
import Derived.Test.YtiafochainjglaaGreatDoorWaJ
import Derived.Test.YtiafochainjglaaGreatDoorCards
import Derived.Test.YtiafochainjglaaGreatDoorTie
import Derived.Test.YtiafochainjglaaGreatDoorHaR
import Derived.ShutString
import Derived.ChangeOld
import Derived.Below
import Derived.SevenTiedAt
section
namespace Go.Proofs.YtiafochainjglaaGreatDoor.joinPart
open Go.Shelf
set_option linter.unusedVariables false
def ren:Go.Shelf.Ren:=⟨fun | 156=>100 | 165=>162 | 166=>163 | 169=>164 | 240=>191 | 241=>192 | 276=>221 | 277=>222 | n=>n,fun | 31=>158 | 9=>9 | 3=>3 | 4=>4 | 0=>0 | 20=>20 | 72=>218 | 76=>222 | 70=>216 | 37=>176 | 75=>221 | 127=>249 | 164=>274 | 5=>5 | 80=>164 | n=>n,fun n=>n⟩
theorem lays:Lays.n156 Tryz.prog ren :=
 {mixed:=by kernel_rfl,
  f156:=Tryz.func100.trans (congrArg some (by kernel_rfl)),
  f165:=Tryz.func162.trans (congrArg some (by kernel_rfl)),
  f166:=Tryz.func163.trans (congrArg some (by kernel_rfl)),
  f169:=Tryz.func164.trans (congrArg some (by kernel_rfl)),
  f240:=Tryz.func191.trans (congrArg some (by kernel_rfl)),
  f241:=Tryz.func192.trans (congrArg some (by kernel_rfl)),
  f276:=Tryz.func221.trans (congrArg some (by kernel_rfl)),
  f277:=Tryz.func222.trans (congrArg some (by kernel_rfl)),
  t0:=Tryz.underlying0,
  a0:=Tryz.isAgg0,
  z0:=Tryz.sizeOf0,
  v0:=Tryz.zeroValue0,
  t3:=Tryz.underlying3,
  a3:=Tryz.isAgg3,
  z3:=Tryz.sizeOf3,
  v3:=Tryz.zeroValue3,
  t4:=Tryz.underlying4,
  a4:=Tryz.isAgg4,
  z4:=Tryz.sizeOf4,
  v4:=Tryz.zeroValue4,
  t9:=Tryz.underlying9,
  a9:=Tryz.isAgg9,
  z9:=Tryz.sizeOf9,
  v9:=Tryz.zeroValue9,
  t20:=Tryz.underlying20,
  a20:=Tryz.isAgg20,
  z20:=Tryz.sizeOf20,
  v20:=Tryz.zeroValue20,
  t31:=Tryz.underlying158,
  a31:=Tryz.isAgg158,
  z31:=Tryz.sizeOf158,
  v31:=Tryz.zeroValue158,
  t37:=Tryz.underlying176,
  a37:=Tryz.isAgg176,
  z37:=Tryz.sizeOf176,
  v37:=Tryz.zeroValue176,
  t70:=Tryz.underlying216,
  a70:=Tryz.isAgg216,
  z70:=Tryz.sizeOf216,
  v70:=Tryz.zeroValue216,
  t72:=Tryz.underlying218,
  a72:=Tryz.isAgg218,
  z72:=Tryz.sizeOf218,
  v72:=Tryz.zeroValue218,
  t75:=Tryz.underlying221,
  a75:=Tryz.isAgg221,
  z75:=Tryz.sizeOf221,
  v75:=Tryz.zeroValue221,
  t76:=Tryz.underlying222,
  a76:=Tryz.isAgg222,
  z76:=Tryz.sizeOf222,
  v76:=Tryz.zeroValue222,
  t127:=Tryz.underlying249,
  a127:=Tryz.isAgg249,
  z127:=Tryz.sizeOf249,
  v127:=Tryz.zeroValue249,
  t164:=Tryz.underlying274,
  a164:=Tryz.isAgg274,
  z164:=Tryz.sizeOf274,
  v164:=Tryz.zeroValue274}
theorem q2p:Builder.Extra Tryz.prog ren :=
 {sizeBuilder:=by kernel_rfl,liesBuilder:=by kernel_rfl,t5:=Tryz.underlying5,a5:=Tryz.isAgg5,z5:=Tryz.sizeOf5,v5:=Tryz.zeroValue5,infoByte:=by kernel_rfl,cellsByte:=by kernel_rfl,sizeByte:=by kernel_rfl,neB5:=by decide}
theorem join_ok:Go.Ax.CallsOK Tryz.prog (Go.Ax.sumJoin 100):=Go.Ax.sumJoin_ok lays q2p
end Go.Proofs.YtiafochainjglaaGreatDoor.joinPart
end
section
namespace Go.Proofs.YtiafochainjglaaGreatDoor.metaNil
open Go.ChangeShapes Go.WideShapes Go.ChangeAt Go.RowKit
set_option linter.unusedVariables false
noncomputable def fns:List (Nat×Func):=[(4,Tryz.f4),(9,Tryz.f9),(10,Tryz.f10),(13,Tryz.f13),(14,Tryz.f14),(15,Tryz.f15),(16,Tryz.f16),(17,Tryz.f17),(18,Tryz.f18),(19,Tryz.f19),(24,Tryz.f24),(40,Tryz.f40),(44,Tryz.f44),(45,Tryz.f45),(46,Tryz.f46),(47,Tryz.f47),(52,Tryz.f52),(53,Tryz.f53),(54,Tryz.f54),(55,Tryz.f55),(56,Tryz.f56),(57,Tryz.f57),(58,Tryz.f58),(59,Tryz.f59),(60,Tryz.f60),(61,Tryz.f61),(62,Tryz.f62),(63,Tryz.f63),(64,Tryz.f64),(65,Tryz.f65),(66,Tryz.f66),(67,Tryz.f67),(73,Tryz.f73),(75,Tryz.f75),(76,Tryz.f76),(77,Tryz.f77),(78,Tryz.f78),(81,Tryz.f81),(84,Tryz.f84),(99,Tryz.f99),(100,Tryz.f100),(101,Tryz.f101),(102,Tryz.f102),(103,Tryz.f103),(104,Tryz.f104),(105,Tryz.f105),(106,Tryz.f106),(107,Tryz.f107),(108,Tryz.f108),(113,Tryz.f113),(114,Tryz.f114),(115,Tryz.f115),(116,Tryz.f116),(117,Tryz.f117),(118,Tryz.f118),(119,Tryz.f119),(120,Tryz.f120),(121,Tryz.f121),(122,Tryz.f122),(123,Tryz.f123),(124,Tryz.f124),(125,Tryz.f125),(126,Tryz.f126),(127,Tryz.f127),(128,Tryz.f128),(129,Tryz.f129),(130,Tryz.f130),(131,Tryz.f131),(136,Tryz.f136),(137,Tryz.f137),(138,Tryz.f138),(139,Tryz.f139),(140,Tryz.f140),(142,Tryz.f142),(147,Tryz.f147),(158,Tryz.f158),(159,Tryz.f159),(160,Tryz.f160),(161,Tryz.f161),(162,Tryz.f162),(163,Tryz.f163),(164,Tryz.f164),(165,Tryz.f165),(166,Tryz.f166),(167,Tryz.f167),(168,Tryz.f168),(169,Tryz.f169),(170,Tryz.f170),(171,Tryz.f171),(172,Tryz.f172),(173,Tryz.f173),(174,Tryz.f174),(175,Tryz.f175),(176,Tryz.f176),(188,Tryz.f188),(189,Tryz.f189),(190,Tryz.f190),(191,Tryz.f191),(192,Tryz.f192),(194,Tryz.f194),(195,Tryz.f195),(196,Tryz.f196),(197,Tryz.f197),(198,Tryz.f198),(199,Tryz.f199),(200,Tryz.f200),(201,Tryz.f201),(202,Tryz.f202),(203,Tryz.f203),(214,Tryz.f214),(216,Tryz.f216),(217,Tryz.f217),(218,Tryz.f218),(219,Tryz.f219),(220,Tryz.f220),(223,Tryz.f223),(224,Tryz.f224),(226,Tryz.f226),(227,Tryz.f227),(228,Tryz.f228),(229,Tryz.f229),(230,Tryz.f230),(231,Tryz.f231),(232,Tryz.f232),(233,Tryz.f233),(234,Tryz.f234),(235,Tryz.f235),(236,Tryz.f236),(237,Tryz.f237),(238,Tryz.f238),(240,Tryz.f240),(249,Tryz.f249),(250,Tryz.f250),(251,Tryz.f251),(252,Tryz.f252),(253,Tryz.f253),(254,Tryz.f254),(255,Tryz.f255),(257,Tryz.f257),(258,Tryz.f258),(259,Tryz.f259),(260,Tryz.f260),(261,Tryz.f261),(263,Tryz.f263),(264,Tryz.f264),(265,Tryz.f265),(266,Tryz.f266),(267,Tryz.f267),(268,Tryz.f268),(269,Tryz.f269)]
theorem qTd:Go.Ax.AllFn Tryz.prog fns :=
 ⟨⟨Tryz.func4,Tryz.call4⟩,⟨Tryz.func9,Tryz.call9⟩,⟨Tryz.func10,Tryz.call10⟩,⟨Tryz.func13,Tryz.call13⟩,⟨Tryz.func14,Tryz.call14⟩,⟨Tryz.func15,Tryz.call15⟩,⟨Tryz.func16,Tryz.call16⟩,⟨Tryz.func17,Tryz.call17⟩,⟨Tryz.func18,Tryz.call18⟩,⟨Tryz.func19,Tryz.call19⟩,⟨Tryz.func24,Tryz.call24⟩,⟨Tryz.func40,Tryz.call40⟩,⟨Tryz.func44,Tryz.call44⟩,⟨Tryz.func45,Tryz.call45⟩,⟨Tryz.func46,Tryz.call46⟩,⟨Tryz.func47,Tryz.call47⟩,⟨Tryz.func52,Tryz.call52⟩,⟨Tryz.func53,Tryz.call53⟩,⟨Tryz.func54,Tryz.call54⟩,⟨Tryz.func55,Tryz.call55⟩,⟨Tryz.func56,Tryz.call56⟩,⟨Tryz.func57,Tryz.call57⟩,⟨Tryz.func58,Tryz.call58⟩,⟨Tryz.func59,Tryz.call59⟩,⟨Tryz.func60,Tryz.call60⟩,⟨Tryz.func61,Tryz.call61⟩,⟨Tryz.func62,Tryz.call62⟩,⟨Tryz.func63,Tryz.call63⟩,⟨Tryz.func64,Tryz.call64⟩,⟨Tryz.func65,Tryz.call65⟩,⟨Tryz.func66,Tryz.call66⟩,⟨Tryz.func67,Tryz.call67⟩,⟨Tryz.func73,Tryz.call73⟩,⟨Tryz.func75,Tryz.call75⟩,⟨Tryz.func76,Tryz.call76⟩,⟨Tryz.func77,Tryz.call77⟩,⟨Tryz.func78,Tryz.call78⟩,⟨Tryz.func81,Tryz.call81⟩,⟨Tryz.func84,Tryz.call84⟩,⟨Tryz.func99,Tryz.call99⟩,⟨Tryz.func100,Tryz.call100⟩,⟨Tryz.func101,Tryz.call101⟩,⟨Tryz.func102,Tryz.call102⟩,⟨Tryz.func103,Tryz.call103⟩,⟨Tryz.func104,Tryz.call104⟩,⟨Tryz.func105,Tryz.call105⟩,⟨Tryz.func106,Tryz.call106⟩,⟨Tryz.func107,Tryz.call107⟩,⟨Tryz.func108,Tryz.call108⟩,⟨Tryz.func113,Tryz.call113⟩,⟨Tryz.func114,Tryz.call114⟩,⟨Tryz.func115,Tryz.call115⟩,⟨Tryz.func116,Tryz.call116⟩,⟨Tryz.func117,Tryz.call117⟩,⟨Tryz.func118,Tryz.call118⟩,⟨Tryz.func119,Tryz.call119⟩,⟨Tryz.func120,Tryz.call120⟩,⟨Tryz.func121,Tryz.call121⟩,⟨Tryz.func122,Tryz.call122⟩,⟨Tryz.func123,Tryz.call123⟩,⟨Tryz.func124,Tryz.call124⟩,⟨Tryz.func125,Tryz.call125⟩,⟨Tryz.func126,Tryz.call126⟩,⟨Tryz.func127,Tryz.call127⟩,⟨Tryz.func128,Tryz.call128⟩,⟨Tryz.func129,Tryz.call129⟩,⟨Tryz.func130,Tryz.call130⟩,⟨Tryz.func131,Tryz.call131⟩,⟨Tryz.func136,Tryz.call136⟩,⟨Tryz.func137,Tryz.call137⟩,⟨Tryz.func138,Tryz.call138⟩,⟨Tryz.func139,Tryz.call139⟩,⟨Tryz.func140,Tryz.call140⟩,⟨Tryz.func142,Tryz.call142⟩,⟨Tryz.func147,Tryz.call147⟩,⟨Tryz.func158,Tryz.call158⟩,⟨Tryz.func159,Tryz.call159⟩,⟨Tryz.func160,Tryz.call160⟩,⟨Tryz.func161,Tryz.call161⟩,⟨Tryz.func162,Tryz.call162⟩,⟨Tryz.func163,Tryz.call163⟩,⟨Tryz.func164,Tryz.call164⟩,⟨Tryz.func165,Tryz.call165⟩,⟨Tryz.func166,Tryz.call166⟩,⟨Tryz.func167,Tryz.call167⟩,⟨Tryz.func168,Tryz.call168⟩,⟨Tryz.func169,Tryz.call169⟩,⟨Tryz.func170,Tryz.call170⟩,⟨Tryz.func171,Tryz.call171⟩,⟨Tryz.func172,Tryz.call172⟩,⟨Tryz.func173,Tryz.call173⟩,⟨Tryz.func174,Tryz.call174⟩,⟨Tryz.func175,Tryz.call175⟩,⟨Tryz.func176,Tryz.call176⟩,⟨Tryz.func188,Tryz.call188⟩,⟨Tryz.func189,Tryz.call189⟩,⟨Tryz.func190,Tryz.call190⟩,⟨Tryz.func191,Tryz.call191⟩,⟨Tryz.func192,Tryz.call192⟩,⟨Tryz.func194,Tryz.call194⟩,⟨Tryz.func195,Tryz.call195⟩,⟨Tryz.func196,Tryz.call196⟩,⟨Tryz.func197,Tryz.call197⟩,⟨Tryz.func198,Tryz.call198⟩,⟨Tryz.func199,Tryz.call199⟩,⟨Tryz.func200,Tryz.call200⟩,⟨Tryz.func201,Tryz.call201⟩,⟨Tryz.func202,Tryz.call202⟩,⟨Tryz.func203,Tryz.call203⟩,⟨Tryz.func214,Tryz.call214⟩,⟨Tryz.func216,Tryz.call216⟩,⟨Tryz.func217,Tryz.call217⟩,⟨Tryz.func218,Tryz.call218⟩,⟨Tryz.func219,Tryz.call219⟩,⟨Tryz.func220,Tryz.call220⟩,⟨Tryz.func223,Tryz.call223⟩,⟨Tryz.func224,Tryz.call224⟩,⟨Tryz.func226,Tryz.call226⟩,⟨Tryz.func227,Tryz.call227⟩,⟨Tryz.func228,Tryz.call228⟩,⟨Tryz.func229,Tryz.call229⟩,⟨Tryz.func230,Tryz.call230⟩,⟨Tryz.func231,Tryz.call231⟩,⟨Tryz.func232,Tryz.call232⟩,⟨Tryz.func233,Tryz.call233⟩,⟨Tryz.func234,Tryz.call234⟩,⟨Tryz.func235,Tryz.call235⟩,⟨Tryz.func236,Tryz.call236⟩,⟨Tryz.func237,Tryz.call237⟩,⟨Tryz.func238,Tryz.call238⟩,⟨Tryz.func240,Tryz.call240⟩,⟨Tryz.func249,Tryz.call249⟩,⟨Tryz.func250,Tryz.call250⟩,⟨Tryz.func251,Tryz.call251⟩,⟨Tryz.func252,Tryz.call252⟩,⟨Tryz.func253,Tryz.call253⟩,⟨Tryz.func254,Tryz.call254⟩,⟨Tryz.func255,Tryz.call255⟩,⟨Tryz.func257,Tryz.call257⟩,⟨Tryz.func258,Tryz.call258⟩,⟨Tryz.func259,Tryz.call259⟩,⟨Tryz.func260,Tryz.call260⟩,⟨Tryz.func261,Tryz.call261⟩,⟨Tryz.func263,Tryz.call263⟩,⟨Tryz.func264,Tryz.call264⟩,⟨Tryz.func265,Tryz.call265⟩,⟨Tryz.func266,Tryz.call266⟩,⟨Tryz.func267,Tryz.call267⟩,⟨Tryz.func268,Tryz.call268⟩,⟨Tryz.func269,Tryz.call269⟩,trivial⟩
theorem mixed:Tryz.prog.follows .mixedOrders=true:=by kernel_rfl
theorem q1t:Go.Ax.CallsOK Tryz.prog (Go.Ax.sumSum 131 [248]):=Go.Ax.sumSum_ok (n:=40) shaPart.E3ok shaPart.smL_ok rfl (fun m hm b=>by
 simp only[List.mem_cons,List.not_mem_nil,or_false] at hm;subst hm
 ·exact shaPart.sumL248 b)
def tb0:List Nat×List Nat:=([71,69,65,76]++List.replicate 244 0,[89,174,25,206,39,171,180,70,24,140,2,218,228,249,129,45,155,226,18,7,63,26,92,70,59,188,211,44,141,89,193,50])
theorem q1p:Go.Ax.TabOK [248] tb0:=⟨by kernel_rfl,by kernel_rfl⟩
def tb1:List Nat×List Nat:=([71,69,66,77]++List.replicate 244 0,[167,109,22,185,220,139,92,164,106,85,212,9,64,234,206,30,242,128,221,196,114,70,65,116,180,237,184,143,13,156,91,38])
theorem q1o:Go.Ax.TabOK [248] tb1:=⟨by kernel_rfl,by kernel_rfl⟩
def tb2:List Nat×List Nat:=([71,69,77,76,4]++List.replicate 8 0++[1]++List.replicate 7 0++[7]++List.replicate 226 0,[116,22,45,20,101,55,171,32,3,118,131,166,77,30,195,74,145,101,157,220,76,14,173,144,244,163,87,15,189,244,233,253])
theorem q1n:Go.Ax.TabOK [248] tb2:=⟨by kernel_rfl,by kernel_rfl⟩
def tb3:List Nat×List Nat:=([71,69,82,86]++List.replicate 244 0,[180,17,135,72,227,45,78,244,58,133,108,92,44,131,191,225,42,219,75,144,105,146,33,142,223,143,142,175,167,39,163,246])
theorem q1m:Go.Ax.TabOK [248] tb3:=⟨by kernel_rfl,by kernel_rfl⟩
def tb4:List Nat×List Nat:=([71,69,82,86]++List.replicate 7 0++[1]++List.replicate 236 0,[108,232,255,164,209,17,68,231,219,160,69,59,235,207,76,248,136,242,255,157,20,95,244,184,146,202,0,110,217,27,147,183])
theorem q1l:Go.Ax.TabOK [248] tb4:=⟨by kernel_rfl,by kernel_rfl⟩
def tab:List (List Nat×List Nat):=[tb0,tb1,tb2,tb3,tb4]
theorem q1q:Go.Ax.AllTab [248] tab:=⟨q1p,q1o,q1n,q1m,q1l,trivial⟩
noncomputable def smT:Go.Ax.CallT:=Go.Ax.orC (Go.Ax.sumTab 131 tab) (Go.Ax.orC (Go.Ax.sumJoin 100) shaPart.shaSumF)
theorem qH0:Go.Ax.CallsOK Tryz.prog smT:=Go.Ax.orC_ok (Go.Ax.sumTab_ok q1t q1q) (Go.Ax.orC_ok joinPart.join_ok shaPart.shaSumF_ok)
noncomputable def En:Go.Ax.Env:=(Go.Ax.envEx Tryz.prog (List.range 337) fns [(239,Go.Ax.add64A)])
theorem qV0:Go.Ax.Env.Ok Tryz.prog En:=(Go.Ax.envEx_ok (xs:=[(239,Go.Ax.add64A)]) qTd ⟨shaPart.add_ok,trivial⟩ mixed)
noncomputable def k9c0:Code:=Option.getD Tryz.f9.body .skip
noncomputable def q2b:Code:=Go.Ax.seqL k9c0
noncomputable def k9R1:Code:=Go.Ax.seqR k9c0
noncomputable def q2a:Code:=Go.Ax.seqL k9R1
noncomputable def k9R2:Code:=Go.Ax.seqR k9R1
noncomputable def q29:Code:=Go.Ax.seqL k9R2
noncomputable def k9R3:Code:=Go.Ax.seqR k9R2
noncomputable def q28:Code:=Go.Ax.seqL k9R3
noncomputable def k9R4:Code:=Go.Ax.seqR k9R3
noncomputable def q27:Code:=Go.Ax.seqL k9R4
noncomputable def k9R5:Code:=Go.Ax.seqR k9R4
noncomputable def q26:Code:=Go.Ax.seqL k9R5
noncomputable def k9R6:Code:=Go.Ax.seqR k9R5
noncomputable def q25:Code:=k9R6
theorem qWz:Tryz.f9.body=some (.seq q2b (.seq q2a (.seq q29 (.seq q28 (.seq q27 (.seq q26 q25)))))):=by kernel_rfl
open Go.Ax in
noncomputable def k9F1:List (Nat×AV):=[(0,.bool false)]
open Go.Ax in
noncomputable def k9S1:List (Nat×AO):=[]
open Go.Ax in
noncomputable def k9F2:List (Nat×AV):=[(0,.bool false),(1,.ptr (some (2,0)))]
open Go.Ax in
noncomputable def k9S2:List (Nat×AO):=[(0,.cells (rl [(1,.int .u8 (.ofNat 71)),(1,.int .u8 (.ofNat 69)),(1,.int .u8 (.ofNat 77)),(1,.int .u8 (.ofNat 76)),(1,.int .u8 (.ofNat 4)),(8,.int .u8 (.ofNat 0)),(1,.int .u8 (.ofNat 1)),(7,.int .u8 (.ofNat 0)),(1,.int .u8 (.ofNat 7)),(226,.int .u8 (.ofNat 0)),(1,.int .u8 (.ofNat 116)),(1,.int .u8 (.ofNat 22)),(1,.int .u8 (.ofNat 45)),(1,.int .u8 (.ofNat 20)),(1,.int .u8 (.ofNat 101)),(1,.int .u8 (.ofNat 55)),(1,.int .u8 (.ofNat 171)),(1,.int .u8 (.ofNat 32)),(256,.int .u8 (.ofNat 0)),(1,.int .u8 (.ofNat 71)),(1,.int .u8 (.ofNat 69)),(1,.int .u8 (.ofNat 82)),(1,.int .u8 (.ofNat 86)),(7,.int .u8 (.ofNat 0)),(1,.int .u8 (.ofNat 1)),(236,.int .u8 (.ofNat 0)),(1,.int .u8 (.ofNat 108)),(1,.int .u8 (.ofNat 232)),(1,.int .u8 (.ofNat 255)),(1,.int .u8 (.ofNat 164)),(1,.int .u8 (.ofNat 209)),(1,.int .u8 (.ofNat 17)),(1,.int .u8 (.ofNat 68)),(1,.int .u8 (.ofNat 231)),(256,.int .u8 (.ofNat 0)),(1,.int .u8 (.ofNat 71)),(1,.int .u8 (.ofNat 69)),(1,.int .u8 (.ofNat 66)),(1,.int .u8 (.ofNat 77)),(244,.int .u8 (.ofNat 0)),(1,.int .u8 (.ofNat 167)),(1,.int .u8 (.ofNat 109)),(1,.int .u8 (.ofNat 22)),(1,.int .u8 (.ofNat 185)),(1,.int .u8 (.ofNat 220)),(1,.int .u8 (.ofNat 139)),(1,.int .u8 (.ofNat 92)),(1,.int .u8 (.ofNat 164)),(3072,.int .u8 (.ofNat 0))]) true),(1,.map [] 9),(2,.cells [.slice (some (0,0)) 17 (.known 17),.map (some 1),.int .i64 (.ofNat 0),.bool false,.bool false,.bool false] true)]
open Go.Ax in
noncomputable def k9F3:List (Nat×AV):=[(0,.bool false),(1,.ptr (some (2,0)))]
open Go.Ax in
noncomputable def k9S3:List (Nat×AO):=[(0,.cells (rl [(1,.int .u8 (.ofNat 71)),(1,.int .u8 (.ofNat 69)),(1,.int .u8 (.ofNat 77)),(1,.int .u8 (.ofNat 76)),(1,.int .u8 (.ofNat 4)),(8,.int .u8 (.ofNat 0)),(1,.int .u8 (.ofNat 1)),(7,.int .u8 (.ofNat 0)),(1,.int .u8 (.ofNat 7)),(226,.int .u8 (.ofNat 0)),(1,.int .u8 (.ofNat 116)),(1,.int .u8 (.ofNat 22)),(1,.int .u8 (.ofNat 45)),(1,.int .u8 (.ofNat 20)),(1,.int .u8 (.ofNat 101)),(1,.int .u8 (.ofNat 55)),(1,.int .u8 (.ofNat 171)),(1,.int .u8 (.ofNat 32)),(256,.int .u8 (.ofNat 0)),(1,.int .u8 (.ofNat 71)),(1,.int .u8 (.ofNat 69)),(1,.int .u8 (.ofNat 82)),(1,.int .u8 (.ofNat 86)),(7,.int .u8 (.ofNat 0)),(1,.int .u8 (.ofNat 1)),(236,.int .u8 (.ofNat 0)),(1,.int .u8 (.ofNat 108)),(1,.int .u8 (.ofNat 232)),(1,.int .u8 (.ofNat 255)),(1,.int .u8 (.ofNat 164)),(1,.int .u8 (.ofNat 209)),(1,.int .u8 (.ofNat 17)),(1,.int .u8 (.ofNat 68)),(1,.int .u8 (.ofNat 231)),(256,.int .u8 (.ofNat 0)),(1,.int .u8 (.ofNat 71)),(1,.int .u8 (.ofNat 69)),(1,.int .u8 (.ofNat 66)),(1,.int .u8 (.ofNat 77)),(244,.int .u8 (.ofNat 0)),(1,.int .u8 (.ofNat 167)),(1,.int .u8 (.ofNat 109)),(1,.int .u8 (.ofNat 22)),(1,.int .u8 (.ofNat 185)),(1,.int .u8 (.ofNat 220)),(1,.int .u8 (.ofNat 139)),(1,.int .u8 (.ofNat 92)),(1,.int .u8 (.ofNat 164)),(3072,.int .u8 (.ofNat 0))]) true),(1,.map [] 9),(2,.cells [.slice (some (0,0)) 17 (.known 17),.map (some 1),.int .i64 (.ofNat 0),.bool false,.bool false,.bool false] true)]
open Go.Ax in
noncomputable def k9F4:List (Nat×AV):=[(0,.bool false),(2,.ptr (some (0,0))),(3,.int .i64 (.ofNat 0))]
open Go.Ax in
noncomputable def k9S4:List (Nat×AO):=[(0,.cells [.int .i64 (.ofNat 8),.int .i64 (.ofNat 4),.bool false,.int .u64 (.ofNat 7),.int .u64 (.ofNat 0),.int .u64 (.ofNat 0),.int .u64 (.ofNat 0),.int .u64 (.ofNat 1),.int .u64 (.ofNat 0),.int .u64 (.ofNat 0),.int .u64 (.ofNat 0),.int .u64 (.ofNat 0),.int .u64 (.ofNat 0),.int .u64 (.ofNat 0),.int .u64 (.ofNat 0),.int .u64 (.ofNat 0),.int .u64 (.ofNat 0),.int .u64 (.ofNat 0),.int .u64 (.ofNat 0),.int .u64 (.ofNat 0),.int .u64 (.ofNat 0),.int .u64 (.ofNat 0),.int .u64 (.ofNat 0),.int .u64 (.ofNat 0),.int .u64 (.ofNat 0),.int .i64 (.ofNat 0),.int .i64 (.ofNat 0),.int .u64 (.ofNat 1),.bool true,.int .u64 (.ofNat 0),.int .u64 (.ofNat 0),.int .u16 (.ofNat 0)] true)]
open Go.Ax in
noncomputable def k9F5:List (Nat×AV):=[(0,.bool false),(3,.int .i64 (.ofNat 0)),(4,.str [109,101,116,97,32,56,10,115,117,112,101,114,32,52,32,48,32,49,10,108,105,110,101,32,48,48,48,48,48,48,48,48,48,48,48,48,48,48,48,55,32,48,48,48,48,48,48,48,48,48,48,48,48,48,48,48,48,32,48,48,48,48,48,48,48,48,48,48,48,48,48,48,48,48,32,48,48,48,48,48,48,48,48,48,48,48,48,48,48,48,48,10,116,97,98,108,101,32,49,32,48,32,48,32,48,10,109,97,112,32,48,48,48,48,48,48,48,48,48,48,48,48,48,48,48,48,10,104,111,116,32,48,10]),(5,.int .i64 (.ofNat 0))]
open Go.Ax in
noncomputable def k9S5:List (Nat×AO):=[]
open Go.Ax in
noncomputable def k9F6:List (Nat×AV):=[(0,.bool true)]
open Go.Ax in
noncomputable def k9S6:List (Nat×AO):=[]
end Go.Proofs.YtiafochainjglaaGreatDoor.metaNil
end
