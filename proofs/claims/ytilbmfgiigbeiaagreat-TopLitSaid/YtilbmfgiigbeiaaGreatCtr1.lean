/- Printed by gen.py. -/
import Derived.Test.YtilbmfgiigbeiaaGreatFr3
import Derived.Test.YtilbmfgiigbeiaaGreatFr4
import Derived.Test.YtilbmfgiigbeiaaGreatProg
import Derived.KernelRfl
set_option linter.all false
set_option maxRecDepth 100000
set_option maxHeartbeats 1000000
set_option linter.unusedVariables false
namespace Go.Sp
open Go Go.Av Go.Proofs
def zaa (x:Int):List AV:=[.int .i64 (x)]
def zaj (x:(List Int)):List AV:=[roL 1 zaa x]
def zdG (x:Range):List AV:=[.int .i64 (x.Lo),.int .i64 (x.Hi)]
def zaF (x:(Arr3 Int)):List AV:=[.int .i64 (x.x0),.int .i64 (x.x1),.int .i64 (x.x2)]
def zal (x:Task):List AV:=[.int .i64 (x.Lamp),.int .i64 (x.Place),.int .i64 (x.At),.int .i64 (x.Serve)]
def zbb (x:(Arr2 Int)):List AV:=[.int .i64 (x.x0),.int .i64 (x.x1)]
def zak (x:Hand):List AV:=[.int .i64 (x.Id),.int .i64 (x.From),.int .i64 (x.To)]
def zaC (x:Way):List AV:=[.int .i64 (x.From),.int .i64 (x.To),.int .i64 (x.Takes.Lo),.int .i64 (x.Takes.Hi),.int .i64 (x.Open.Lo),.int .i64 (x.Open.Hi),.int .i64 (x.Every)]
def zaK (x:Version):List AV:=[.int .i64 (x.Source),.int .i64 (x.Class),.int .i64 (x.From),.int .i64 (x.On.Lo),.int .i64 (x.On.Hi),.int .i64 (x.Off.Lo),.int .i64 (x.Off.Hi),.int .i64 (x.Moon),.int .i64 (x.Fog),.int .i64 (x.Known),.int .i64 (x.Until)]
def zaI (x:Street):List AV:=[.int .i64 (x.Id),.int .i64 (x.Class),.int .i64 (x.District),.int .i64 (x.First),.int .i64 (x.Many)]
def zac (x:(List Range)):List AV:=[roL 2 zdG x]
def tids:List Nat:=[3,4,22,23,24,26,28,30,31,34,35,37,39,41,44,45,50,51,53,55,59,61,62,64,65,76,83,88,91,93,96,98,101,102,104,105,108,113,115,117,127,130,136,139,142,150,155,162,168,192,194,196]
def Γ:Tys:=[(3,⟨.int .i64,[.int .i64 0],1,8⟩),
 (4,⟨.bool,[.bool false],1,1⟩),
 (22,⟨.slice 59,[.slice none 0 0],1,24⟩),
 (23,⟨.array 4 3,[.int .i64 0,.int .i64 0,.int .i64 0,.int .i64 0],4,32⟩),
 (24,⟨.slice 62,[.slice none 0 0],1,24⟩),
 (26,⟨.struct [(0,22),(1,22),(2,23),(6,23),(10,24)],[.slice none 0 0,.slice none 0 0,.int .i64 0,.int .i64 0,.int .i64 0,.int .i64 0,.int .i64 0,.int .i64 0,.int .i64 0,.int .i64 0,.slice none 0 0],11,136⟩),
 (28,⟨.slice 88,[.slice none 0 0],1,24⟩),
 (30,⟨.struct [(0,3),(1,28)],[.int .i64 0,.slice none 0 0],2,32⟩),
 (31,⟨.slice 3,[.slice none 0 0],1,24⟩),
 (34,⟨.slice 91,[.slice none 0 0],1,24⟩),
 (35,⟨.slice 93,[.slice none 0 0],1,24⟩),
 (37,⟨.struct [(0,34),(1,35)],[.slice none 0 0,.slice none 0 0],2,48⟩),
 (39,⟨.struct [(0,3),(1,3)],[.int .i64 0,.int .i64 0],2,16⟩),
 (41,⟨.struct [(0,3),(1,39),(3,39),(5,39),(7,3)],[.int .i64 0,.int .i64 0,.int .i64 0,.int .i64 0,.int .i64 0,.int .i64 0,.int .i64 0,.int .i64 0],8,64⟩),
 (44,⟨.slice 98,[.slice none 0 0],1,24⟩),
 (45,⟨.int .i64,[.int .i64 0],1,8⟩),
 (50,⟨.slice 61,[.slice none 0 0],1,24⟩),
 (51,⟨.slice 64,[.slice none 0 0],1,24⟩),
 (53,⟨.struct [(0,50),(1,44),(2,51)],[.slice none 0 0,.slice none 0 0,.slice none 0 0],3,72⟩),
 (55,⟨.struct [(0,3),(1,39),(3,39)],[.int .i64 0,.int .i64 0,.int .i64 0,.int .i64 0,.int .i64 0],5,40⟩),
 (59,⟨.array 3 3,[.int .i64 0,.int .i64 0,.int .i64 0],3,24⟩),
 (61,⟨.struct [(0,3),(1,3),(2,3),(3,3)],[.int .i64 0,.int .i64 0,.int .i64 0,.int .i64 0],4,32⟩),
 (62,⟨.array 2 3,[.int .i64 0,.int .i64 0],2,16⟩),
 (64,⟨.struct [(0,3),(1,3),(2,3)],[.int .i64 0,.int .i64 0,.int .i64 0],3,24⟩),
 (65,⟨.slice 31,[.slice none 0 0],1,24⟩),
 (76,⟨.struct [(0,3),(1,3),(2,3),(3,4)],[.int .i64 0,.int .i64 0,.int .i64 0,.bool false],4,32⟩),
 (83,⟨.struct [(0,3),(1,3)],[.int .i64 0,.int .i64 0],2,16⟩),
 (88,⟨.struct [(0,3),(1,3),(2,39),(4,39),(6,3)],[.int .i64 0,.int .i64 0,.int .i64 0,.int .i64 0,.int .i64 0,.int .i64 0,.int .i64 0],7,56⟩),
 (91,⟨.struct [(0,3),(1,3),(2,3),(3,39),(5,39),(7,3),(8,3),(9,3),(10,3)],[.int .i64 0,.int .i64 0,.int .i64 0,.int .i64 0,.int .i64 0,.int .i64 0,.int .i64 0,.int .i64 0,.int .i64 0,.int .i64 0,.int .i64 0],11,88⟩),
 (93,⟨.struct [(0,3),(1,3),(2,3),(3,3),(4,3)],[.int .i64 0,.int .i64 0,.int .i64 0,.int .i64 0,.int .i64 0],5,40⟩),
 (96,⟨.func,[.nilFunc],1,8⟩),
 (98,⟨.slice 39,[.slice none 0 0],1,24⟩),
 (101,⟨.func,[.nilFunc],1,8⟩),
 (102,⟨.func,[.nilFunc],1,8⟩),
 (104,⟨.func,[.nilFunc],1,8⟩),
 (105,⟨.func,[.nilFunc],1,8⟩),
 (108,⟨.struct [(0,91),(11,41)],[.int .i64 0,.int .i64 0,.int .i64 0,.int .i64 0,.int .i64 0,.int .i64 0,.int .i64 0,.int .i64 0,.int .i64 0,.int .i64 0,.int .i64 0,.int .i64 0,.int .i64 0,.int .i64 0,.int .i64 0,.int .i64 0,.int .i64 0,.int .i64 0,.int .i64 0],19,152⟩),
 (113,⟨.ptr 127,[.pointer none],1,8⟩),
 (115,⟨.func,[.nilFunc],1,8⟩),
 (117,⟨.func,[.nilFunc],1,8⟩),
 (127,⟨.struct [(0,53),(3,31)],[.slice none 0 0,.slice none 0 0,.slice none 0 0,.slice none 0 0],4,96⟩),
 (130,⟨.map 3 162,[.map none],1,8⟩),
 (136,⟨.func,[.nilFunc],1,8⟩),
 (139,⟨.func,[.nilFunc],1,8⟩),
 (142,⟨.struct [(0,113),(1,65)],[.pointer none,.slice none 0 0],2,32⟩),
 (150,⟨.func,[.nilFunc],1,8⟩),
 (155,⟨.func,[.nilFunc],1,8⟩),
 (162,⟨.struct [(0,3),(1,3)],[.int .i64 0,.int .i64 0],2,16⟩),
 (168,⟨.int .u64,[.int .u64 0],1,8⟩),
 (192,⟨.int .u32,[.int .u32 0],1,4⟩),
 (194,⟨.int .u64,[.int .u64 0],1,8⟩),
 (196,⟨.func,[.nilFunc],1,8⟩)]
theorem Γ_ok:zm8 Tryz.prog tids=some Γ:=by kernel_rfl
theorem env:Env Tryz.prog Γ:=⟨zhC Γ_ok,by decide +kernel,by kernel_rfl⟩
def zoa:Go.Shelf.Ren where
 f:=fun x=>match x with
  | 189=>56
  | 125=>100
  | 257=>99
  | 128=>123
  | 129=>124
  | 294=>114
  | 295=>115
  | 296=>116
  | 297=>117
  | 298=>118
  | 299=>119
  | 216=>120
  | 300=>121
  | 301=>122
  | 328=>130
  | 329=>131
  | 330=>132
  | 331=>133
  | 332=>134
  | 215=>135
  | 343=>136
  | n=>n
 t:=fun x=>match x with
  | 28=>31
  | 3=>3
  | 46=>168
  | 0=>0
  | 51=>192
  | 53=>194
  | 4=>4
  | 183=>186
  | 182=>185
  | 131=>182
  | 5=>5
  | 9=>9
  | 218=>202
  | 222=>206
  | 228=>208
  | 229=>209
  | n=>n
 g:=fun x=>x
theorem zjJ:Go.Proofs.Lays.n189 Tryz.prog zoa:=
 {
  mixed:=by kernel_rfl,
  f125:=Tryz.func100.trans (congrArg some (by kernel_rfl)),
  f128:=Tryz.func123.trans (congrArg some (by kernel_rfl)),
  f129:=Tryz.func124.trans (congrArg some (by kernel_rfl)),
  f189:=Tryz.func56.trans (congrArg some (by kernel_rfl)),
  f215:=Tryz.func135.trans (congrArg some (by kernel_rfl)),
  f216:=Tryz.func120.trans (congrArg some (by kernel_rfl)),
  f257:=Tryz.func99.trans (congrArg some (by kernel_rfl)),
  f294:=Tryz.func114.trans (congrArg some (by kernel_rfl)),
  f295:=Tryz.func115.trans (congrArg some (by kernel_rfl)),
  f296:=Tryz.func116.trans (congrArg some (by kernel_rfl)),
  f297:=Tryz.func117.trans (congrArg some (by kernel_rfl)),
  f298:=Tryz.func118.trans (congrArg some (by kernel_rfl)),
  f299:=Tryz.func119.trans (congrArg some (by kernel_rfl)),
  f300:=Tryz.func121.trans (congrArg some (by kernel_rfl)),
  f301:=Tryz.func122.trans (congrArg some (by kernel_rfl)),
  f328:=Tryz.func130.trans (congrArg some (by kernel_rfl)),
  f329:=Tryz.func131.trans (congrArg some (by kernel_rfl)),
  f330:=Tryz.func132.trans (congrArg some (by kernel_rfl)),
  f331:=Tryz.func133.trans (congrArg some (by kernel_rfl)),
  f332:=Tryz.func134.trans (congrArg some (by kernel_rfl)),
  f343:=Tryz.func136.trans (congrArg some (by kernel_rfl)),
  t0:=Tryz.underlying0,
  a0:=Tryz.isAgg0,
  z0:=Tryz.sizeOf0,
  v0:=Tryz.zeroValue0,
  t3:=Tryz.underlying3,
  a3:=Tryz.isAgg3,
  z3:=Tryz.sizeOf3,
  v3:=Tryz.zeroValue3,
  t4:=Tryz.underlying4,
  a4:=Tryz.isAgg4,
  z4:=Tryz.sizeOf4,
  v4:=Tryz.zeroValue4,
  t5:=Tryz.underlying5,
  a5:=Tryz.isAgg5,
  z5:=Tryz.sizeOf5,
  v5:=Tryz.zeroValue5,
  t9:=Tryz.underlying9,
  a9:=Tryz.isAgg9,
  z9:=Tryz.sizeOf9,
  v9:=Tryz.zeroValue9,
  t28:=Tryz.underlying31,
  a28:=Tryz.isAgg31,
  z28:=Tryz.sizeOf31,
  v28:=Tryz.zeroValue31,
  t46:=Tryz.underlying168,
  a46:=Tryz.isAgg168,
  z46:=Tryz.sizeOf168,
  v46:=Tryz.zeroValue168,
  t51:=Tryz.underlying192,
  a51:=Tryz.isAgg192,
  z51:=Tryz.sizeOf192,
  v51:=Tryz.zeroValue192,
  t53:=Tryz.underlying194,
  a53:=Tryz.isAgg194,
  z53:=Tryz.sizeOf194,
  v53:=Tryz.zeroValue194,
  t131:=Tryz.underlying182,
  a131:=Tryz.isAgg182,
  z131:=Tryz.sizeOf182,
  v131:=Tryz.zeroValue182,
  t182:=Tryz.underlying185,
  a182:=Tryz.isAgg185,
  z182:=Tryz.sizeOf185,
  v182:=Tryz.zeroValue185,
  t183:=Tryz.underlying186,
  a183:=Tryz.isAgg186,
  z183:=Tryz.sizeOf186,
  v183:=Tryz.zeroValue186,
  t218:=Tryz.underlying202,
  a218:=Tryz.isAgg202,
  z218:=Tryz.sizeOf202,
  v218:=Tryz.zeroValue202,
  t222:=Tryz.underlying206,
  a222:=Tryz.isAgg206,
  z222:=Tryz.sizeOf206,
  v222:=Tryz.zeroValue206,
  t228:=Tryz.underlying208,
  a228:=Tryz.isAgg208,
  z228:=Tryz.sizeOf208,
  v228:=Tryz.zeroValue208,
  t229:=Tryz.underlying209,
  a229:=Tryz.isAgg209,
  z229:=Tryz.sizeOf209,
  v229:=Tryz.zeroValue209 }
theorem zbQ (p0:Int) (p1:Int) (p2:Int):Ctr Tryz.prog 77 [.int .i64 (p0),.int .i64 (p1),.int .i64 (p2)] (.bool ((zaB p0 p1 p2))):=by
 obtain ⟨r,H⟩:∃ r,zaB p0 p1 p2=r:=⟨_,rfl⟩
 rw [H]
 unfold zaB at H
 refine Ctr.zan (N:=15) Tryz.func77 (by kernel_rfl) (c:=_) rfl Tryz.ntmps77 rfl (fun w0 h0 hval=>?_)
 refine W.rg env [0,1,2] [] ?_
 refine W.sr env [] [] [6] [] rfl rfl rfl (.cons id (.cons id (.cons id .nil))) .nil ?_
 refine W.ret ?_
 cases H
 exact At.ret env.ty rfl rfl nofun (.refl _) hval
theorem zeH (p0:(List Way)) (p1:Way→Option Bool) (p1_g:Nat) (p1_a p1_b:List AV) (p1_h:∀ x0 r,p1 x0=some r→Ctr Tryz.prog p1_g (p1_a++([.agg [.int .i64 (x0.From),.int .i64 (x0.To),.int .i64 (x0.Takes.Lo),.int .i64 (x0.Takes.Hi),.int .i64 (x0.Open.Lo),.int .i64 (x0.Open.Hi),.int .i64 (x0.Every)]]++p1_b)) (.bool (r))) {r:Int} (H:zbt p0 p1=some r):Ctr Tryz.prog 107 [roL 7 zaC p0,.clo (.func p1_g) p1_a p1_b] (.int .i64 (r)):=by
 unfold zbt at H
 refine Ctr.zan (N:=19) Tryz.func107 (by kernel_rfl) (c:=_) rfl Tryz.ntmps107 rfl (fun w0 h0 hval=>?_)
 refine W.rg env [0,1] [] ?_
 refine W.seq ?_
 refine W.rg env [0,1,7,8] [] ?_
 refine W.block ?_
 refine At.keep (ts:=[0,1,7,8]) (ids:=[]) rfl rfl ?_
 refine W.len (t:=0) rfl (fun (hn1:p0.length≤maxLen)=>?_)
 refine W.zah H (fun i1 (s1:Unit)=>[(0,roL 7 zaC p0),(1,.clo (.func p1_g) p1_a p1_b),(7,.int .i64 (((p0.length:Nat):Int))),(8,.int .i64 ((i1:Int)))]) (fun i1 (s1:Unit)=>[]) (.cons .q (.cons .q (.cons .qi (.cons .qi .nil)))) .nil (fun k1 i1 s1 hle1 H1 H2 K0 hK1=>?_)
 refine W.rg env [0,1,7,8,9] [] ?_
 refine W.seq ?_
 refine W.cond rfl (fun hb2=>?_) (fun hb2=>?_)
 · have hi1:i1<p0.length:=by have:=of_decide_eq_true hb2;omega
   have H:=H1 hi1
   refine W.skip ?_
   refine At.zad ?_
   refine W.seq ?_
   refine W.block ?_
   refine W.rg env [0,1,5,7,8] [] ?_
   refine W.seq ?_
   obtain ⟨y3,hy4,H⟩:=zaf H
   refine W.region env [] [⟨.bool (y3),[],0,[]⟩] rfl rfl rfl (.cons (⟨by omega,by omega⟩:0≤(i1:Int)∧(i1:Int)<((p0.length:Nat):Int)) .nil) (.free (p1_h (p0.getD i1 default) _ hy4) .nil) (At.keep (ts:=[0,1,5,7,8,16]) (ids:=[]) rfl rfl ?_)
   refine At.zad ?_
   refine W.cond rfl (fun hb5=>?_) (fun hb5=>?_)
   · have H:=zai H hb5
     refine W.rg env [4] [] ?_
     refine W.ret ?_
     refine At.rinb ?_
     refine At.rthen ?_
     refine At.rthen ?_
     refine At.rinb ?_
     refine At.rthen ?_
     cases H
     exact At.ret env.ty rfl rfl nofun (.refl _) hval
   · have H:=zag H hb5
     refine W.skip ?_
     refine At.inb ?_
     refine At.zad ?_
     refine W.region env [] [] rfl rfl rfl (.cons (by unfold inI;have:=hn1;(try unfold maxLen at this);omega) .nil) .nil (At.keep (ts:=[0,1,7,8]) (ids:=[]) rfl rfl ?_)
     refine At.zaE (At.keep (ts:=[0,1,7,8]) (ids:=[]) rfl rfl ?_)
     exact At.conv (.cons .q (.cons .q (.cons .qi (.cons .qi .nil)))) .nil (hK1 hi1 () H)
 · have H:=H2 (by have:=of_decide_eq_false hb2;omega)
   refine W.exit ?_
   refine At.xthen ?_
   refine At.xthen ?_
   refine At.xhere ?_
   refine At.zad ?_
   refine W.rg env [4] [] ?_
   refine W.ret ?_
   cases H
   exact At.ret env.ty rfl rfl nofun (.refl _) hval
theorem zd2 (p0:(List Way)) (p1:Way→Option Bool) (p1_g:Nat) (p1_a p1_b:List AV) (p1_h:∀ x0 r,p1 x0=some r→Ctr Tryz.prog p1_g (p1_a++([.agg [.int .i64 (x0.From),.int .i64 (x0.To),.int .i64 (x0.Takes.Lo),.int .i64 (x0.Takes.Hi),.int .i64 (x0.Open.Lo),.int .i64 (x0.Open.Hi),.int .i64 (x0.Every)]]++p1_b)) (.bool (r))) {r:Bool} (H:zbw p0 p1=some r):Ctr Tryz.prog 78 [roL 7 zaC p0,.clo (.func p1_g) p1_a p1_b] (.bool (r)):=by
 unfold zbw at H
 refine Ctr.zan (N:=9) Tryz.func78 (by kernel_rfl) (c:=_) rfl Tryz.ntmps78 rfl (fun w0 h0 hval=>?_)
 refine W.rg env [0,1] [] ?_
 refine W.seq ?_
 obtain ⟨y1,hy2,H⟩:=zaf H
 refine W.region env [] [⟨.int .i64 (y1),[],0,[]⟩] rfl rfl rfl .nil (.free (zeH p0 p1 p1_g p1_a p1_b p1_h hy2) .nil) (At.keep (ts:=[4]) (ids:=[]) rfl rfl ?_)
 refine At.zad ?_
 refine W.ret ?_
 cases H
 exact At.ret env.ty rfl rfl nofun (.refl _) hval
theorem zfu (p0:Range) (p1:Int) (p2:Int):Ctr Tryz.prog 127 [.agg [.int .i64 (p0.Lo),.int .i64 (p0.Hi)],.int .i64 (p1),.int .i64 (p2)] (.bool ((zby p0 p1 p2))):=by
 obtain ⟨r,H⟩:∃ r,zby p0 p1 p2=r:=⟨_,rfl⟩
 rw [H]
 unfold zby at H
 refine Ctr.zan (N:=24) Tryz.func127 (by kernel_rfl) (c:=_) rfl Tryz.ntmps127 rfl (fun w0 h0 hval=>?_)
 refine W.rg env [1,2,3] [3] ?_
 refine W.sr env [] [] [6] [] rfl rfl rfl (.cons id (.cons id (.cons id (.cons id (.cons id (.cons id (.cons id (.cons id (.cons id .nil))))))))) .nil ?_
 refine W.ret ?_
 cases H
 exact At.ret env.ty rfl rfl nofun (.refl _) hval
theorem zjy (p0:Way):Ctr Tryz.prog 108 [.agg [.int .i64 (p0.From),.int .i64 (p0.To),.int .i64 (p0.Takes.Lo),.int .i64 (p0.Takes.Hi),.int .i64 (p0.Open.Lo),.int .i64 (p0.Open.Hi),.int .i64 (p0.Every)]] (.bool ((zcH p0))):=by
 obtain ⟨r,H⟩:∃ r,zcH p0=r:=⟨_,rfl⟩
 rw [H]
 unfold zcH at H
 refine Ctr.zan (N:=33) Tryz.func108 (by kernel_rfl) (c:=_) rfl Tryz.ntmps108 rfl (fun w0 h0 hval=>?_)
 refine W.rg env [1] [1] ?_
 refine W.sr env [] [⟨.bool ((zaB p0.From 0 11)),[],0,[]⟩,⟨.bool ((zaB p0.To 0 11)),[],0,[]⟩,⟨.bool ((zby p0.Takes 1 600)),[],0,[]⟩,⟨.bool ((zby p0.Open 0 1439)),[],0,[]⟩,⟨.bool ((zaB p0.Every 0 600)),[],0,[]⟩] [2] [] rfl rfl rfl (.cons id (.cons id (.cons id (.cons id (.cons id (.cons id (.cons id (.cons id (.cons id (.cons id (.cons id (.cons id (.cons id (.cons id (.cons id (.cons id (.cons id .nil))))))))))))))))) (.free (zbQ p0.From 0 11) (.on (fun hW=>zbQ p0.To 0 11) (.on (fun hW=>zfu p0.Takes 1 600) (.on (fun hW=>zfu p0.Open 0 1439) (.on (fun hW=>zbQ p0.Every 0 600) .nil))))) ?_
 refine W.ret ?_
 cases H
 exact At.ret env.ty rfl rfl nofun (.refl _) hval
theorem zjx (p0:Chart) (p1:Way):Ctr Tryz.prog 80 [.agg [.int .i64 (p0.Places),roL 7 zaC p0.Ways],.agg [.int .i64 (p1.From),.int .i64 (p1.To),.int .i64 (p1.Takes.Lo),.int .i64 (p1.Takes.Hi),.int .i64 (p1.Open.Lo),.int .i64 (p1.Open.Hi),.int .i64 (p1.Every)]] (.bool ((za2 p0 p1))):=by
 obtain ⟨r,H⟩:∃ r,za2 p0 p1=r:=⟨_,rfl⟩
 rw [H]
 unfold za2 at H
 refine Ctr.zan (N:=21) Tryz.func80 (by kernel_rfl) (c:=_) rfl Tryz.ntmps80 rfl (fun w0 h0 hval=>?_)
 refine W.rg env [2,3] [2,3] ?_
 refine W.sr env [] [⟨.bool ((zcH p1)),[],0,[]⟩] [4] [] rfl rfl rfl (.cons id (.cons id (.cons id (.cons id (.cons id (.cons id (.cons id (.cons id (.cons id (.cons id .nil)))))))))) (.free (zjy p1) .nil) ?_
 refine W.ret ?_
 cases H
 exact At.ret env.ty rfl rfl nofun (.refl _) hval
theorem zh3 (p0:Way) (c0:Chart):Ctr Tryz.prog 79 [.agg [.int .i64 (p0.From),.int .i64 (p0.To),.int .i64 (p0.Takes.Lo),.int .i64 (p0.Takes.Hi),.int .i64 (p0.Open.Lo),.int .i64 (p0.Open.Hi),.int .i64 (p0.Every)],.rp [.int .i64 (c0.Places),roL 7 zaC c0.Ways]] (.bool ((zcu p0 c0))):=by
 obtain ⟨r,H⟩:∃ r,zcu p0 c0=r:=⟨_,rfl⟩
 rw [H]
 unfold zcu at H
 refine Ctr.zan (N:=8) Tryz.func79 (by kernel_rfl) (c:=_) rfl Tryz.ntmps79 rfl (fun w0 h0 hval=>?_)
 refine W.rg env [1,2] [2] ?_
 refine W.sr env [] [⟨.bool ((za2 c0 p0)),[],0,[]⟩] [3] [] rfl rfl rfl .nil (.free (zjx c0 p0) .nil) ?_
 refine W.ret ?_
 cases H
 exact At.ret env.ty rfl rfl nofun (.refl _) hval
theorem zeB (p0:Chart) {r:Int} (H:zcI p0=some r):Ctr Tryz.prog 27 [.agg [.int .i64 (p0.Places),roL 7 zaC p0.Ways]] (.int .i64 (r)):=by
 unfold zcI at H
 refine Ctr.zan (N:=19) Tryz.func27 (by kernel_rfl) (c:=_) rfl Tryz.ntmps27 rfl (fun w0 h0 hval=>?_)
 refine W.rg env [1] [1] ?_
 refine W.seq ?_
 refine W.seq ?_
 obtain ⟨y1,hy2,H⟩:=zaf H
 refine W.region env [] [⟨.bool ((zaB p0.Places 1 12)),[],0,[]⟩,⟨.bool (y1),[],0,[]⟩] rfl rfl rfl (.cons id (.cons id (.cons id (.cons (fun h=>by rw [h];rfl) (.cons id (.cons id (.cons id (.cons (fun h=>by rw [h];rfl) .nil)))))))) (.free (zbQ p0.Places 1 12) (.on (fun hW=>zd2 p0.Ways (fun x0=>some (zcu x0 p0)) 79 [] ([.rp [.int .i64 (p0.Places),roL 7 zaC p0.Ways]]) (fun x0 r h=>by cases h;exact zh3 x0 p0) (zai hy2 hW)) .nil)) (At.keep (ts:=[18]) (ids:=[]) rfl rfl ?_)
 refine At.zad ?_
 refine W.cond rfl (fun hb3=>?_) (fun hb3=>?_)
 · have H:=zai H hb3
   refine W.rg env [2] [] ?_
   refine W.ret ?_
   refine At.rthen ?_
   cases H
   exact At.ret env.ty rfl rfl nofun (.refl _) hval
 · have H:=zag H hb3
   refine W.skip ?_
   refine At.zad ?_
   refine W.rg env [2] [] ?_
   refine W.ret ?_
   cases H
   exact At.ret env.ty rfl rfl nofun (.refl _) hval
theorem zjw (p0:Chart):Ctr Tryz.prog 29 [.agg [.int .i64 (p0.Places),roL 7 zaC p0.Ways]] (.clo (.func 82) [] [.rp [.int .i64 (p0.Places),roL 7 zaC p0.Ways]]):=by
 refine Ctr.zan (N:=4) Tryz.func29 (by kernel_rfl) (c:=_) rfl Tryz.ntmps29 rfl (fun w0 h0 hval=>?_)
 refine W.rg env [1] [1] ?_
 refine W.rg env [2] [1] ?_
 refine W.ret ?_
 exact At.ret env.ty rfl rfl nofun (.refl _) hval
theorem zkt (p0:Int) (p1:Int) {r:(Int×Int)} (H:zgH p0 p1=some r):Ctr Tryz.prog 129 [.int .u64 (p0),.int .u64 (p1)] (.tup [.int .u64 (r.1),.int .u64 (r.2)]):=by
 unfold zgH at H
 refine Ctr.zan (N:=51) Tryz.func129 (by kernel_rfl) (c:=_) rfl Tryz.ntmps129 rfl (fun w0 h0 hval=>?_)
 refine W.rg env [0,1] [] ?_
 obtain ⟨hc1,H⟩:=zab H
 refine W.sr env [] [] [0,1,6] [] rfl rfl rfl (.cons hc1 .nil) .nil ?_
 refine W.sr env [] [] [0,1,6,7] [] rfl rfl rfl (.cons (by decide) .nil) .nil ?_
 obtain ⟨hc2,H⟩:=zab H
 refine W.sr env [] [] [0,1,6,7,8] [] rfl rfl rfl (.cons hc2 .nil) .nil ?_
 refine W.sr env [] [] [0,1,6,7,8,9] [] rfl rfl rfl (.cons (by decide) .nil) .nil ?_
 obtain ⟨hc3,H⟩:=zab H
 refine W.sr env [] [] [0,1,6,7,8,9,10] [] rfl rfl rfl (.cons hc3 .nil) .nil ?_
 obtain ⟨hc4,H⟩:=zab H
 obtain ⟨hc5,H⟩:=zab H
 refine W.sr env [] [] [0,1,6,7,9,11] [] rfl rfl rfl (.cons hc4 (.cons (by decide) (.cons hc5 .nil))) .nil ?_
 obtain ⟨hc6,H⟩:=zab H
 refine W.sr env [] [] [0,1,6,7,9,11,12] [] rfl rfl rfl (.cons hc6 .nil) .nil ?_
 refine W.sr env [] [] [0,1,6,7,9,12,13] [] rfl rfl rfl (.cons (by decide) .nil) .nil ?_
 obtain ⟨hc7,H⟩:=zab H
 obtain ⟨hc8,H⟩:=zab H
 refine W.sr env [] [] [0,1,7,9,12,13] [] rfl rfl rfl (.cons hc7 (.cons hc8 .nil)) .nil ?_
 obtain ⟨hc9,H⟩:=zab H
 obtain ⟨hc10,H⟩:=zab H
 obtain ⟨hc11,H⟩:=zab H
 refine W.sr env [] [] [0,1,4] [] rfl rfl rfl (.cons hc9 (.cons hc10 (.cons (by decide) (.cons hc11 .nil)))) .nil ?_
 obtain ⟨hc12,H⟩:=zab H
 refine W.sr env [] [] [4,5] [] rfl rfl rfl (.cons hc12 .nil) .nil ?_
 refine W.ret ?_
 cases H
 exact At.ret env.ty rfl rfl nofun (.refl _) hval
theorem ziE (p0:Int) (p1:Int) {r:(Int×Int)} (H:zge p0 p1=some r):Ctr Tryz.prog 109 [.int .u64 (p0),.int .u64 (p1)] (.tup [.int .u64 (r.1),.int .u64 (r.2)]):=by
 unfold zge at H
 refine Ctr.zan (N:=30) Tryz.func109 (by kernel_rfl) (c:=_) rfl Tryz.ntmps109 rfl (fun w0 h0 hval=>?_)
 refine W.rg env [0,1] [] ?_
 refine W.seq ?_
 refine W.cond rfl (fun hb1=>by cases hb1) (fun hb1=>?_)
 refine W.skip ?_
 refine At.zad ?_
 refine W.seq ?_
 obtain ⟨y2,hy3,H⟩:=zaf H
 refine W.region env [] [⟨.tup [.int .u64 (y2.1),.int .u64 (y2.2)],[],0,[]⟩] rfl rfl rfl .nil (.free (zkt p0 p1 hy3) .nil) (At.keep (ts:=[8,9]) (ids:=[]) rfl rfl ?_)
 refine At.zad ?_
 refine W.rg env [4,5] [] ?_
 refine W.ret ?_
 cases H
 exact At.ret env.ty rfl rfl nofun (.refl _) hval
theorem zlm (fuel:Nat) (p0:(List Int)) (p1:Int) {r:(List Int)} (H:zaY fuel p0 p1=some r):Ctr Tryz.prog 81 [roL 1 zaa p0,.int .i64 (p1)] (roL 1 zaa r):=by
 unfold zaY at H
 refine Ctr.zan (N:=48) Tryz.func81 (by kernel_rfl) (c:=_) rfl Tryz.ntmps81 rfl (fun w0 h0 hval=>?_)
 refine W.rg env [0,1] [] ?_
 refine W.seq ?_
 refine W.rg env [0,1,10] [] ?_
 refine W.zhG H (fun (s1:Unit)=>[(0,roL 1 zaa p0),(1,.int .i64 (p1))]) (fun (s1:Unit)=>[]) (fun s1 H=>?_) (fun k1 H hK1=>?_)
 · refine W.seq ?_
   obtain ⟨hc2,H⟩:=zab H
   obtain ⟨hc3,H⟩:=zab H
   obtain ⟨y4,hy5,H⟩:=zaf H
   refine W.region env [] [⟨.tup [.int .u64 (y4.1),.int .u64 (y4.2)],[],0,[]⟩] rfl rfl rfl (.cons hc2 (.cons hc3 .nil)) (.free (ziE ((p0.length:Nat):Int) p1 hy5) .nil) (At.keep (ts:=[0,5,6]) (ids:=[]) rfl rfl ?_)
   refine At.zad ?_
   refine W.seq ?_
   refine W.sr env [] [] [0,6,26] [] rfl rfl rfl (.cons id (.cons (fun h=>by rw [h];rfl) .nil)) .nil ?_
   refine W.zhG H (fun (s6:Unit)=>[(0,roL 1 zaa p0),(6,.int .u64 (y4.2))]) (fun (s6:Unit)=>[]) (fun s6 H=>?_) (fun k6 H hK6=>?_)
   · refine W.seq ?_
     obtain ⟨hc7,H⟩:=zab H
     obtain ⟨hc8,H⟩:=zab H
     refine W.region env [] [] rfl rfl rfl (.cons hc7 (.cons hc8 .nil)) .nil (At.keep (ts:=[0,7]) (ids:=[30]) rfl rfl ?_)
     refine At.zbo (.cons (y:=bufL 3 1 zaa (List.replicate (y4.2).toNat (0:Int))) (BSim.seg (Seg.made (f:=zaa) 0 rfl)) .nil) ?_
     refine At.zad ?_
     refine W.seq ?_
     refine W.region env [] [] rfl rfl rfl (.cons (by first|rfl|(simp;done)|omega|(simp;omega)) .nil) .nil (At.keep (ts:=[7,8]) (ids:=[30]) rfl rfl ?_)
     refine At.zbo (.cons (y:=bufL 3 1 zaa (zbn (List.replicate (y4.2).toNat (0:Int)) 0 (min p0.length (List.replicate (y4.2).toNat (0:Int)).length) (fun q=>p0.getD q default))) (BSim.seg (Seg.copied (Seg.refl zaa _) (Seg.refl zaa p0))) .nil) ?_
     refine At.zad ?_
     refine W.seq ?_
     refine W.block ?_
     refine At.keep (ts:=[7,8]) (ids:=[30]) rfl rfl ?_
     refine W.loopGo H (fun (s9:Int×(List Int))=>[(7,.buf 30 (s9.2).length),(8,.int .i64 (s9.1))]) (fun (s9:Int×(List Int))=>[(30,bufL 3 1 zaa s9.2)]) (.cons .qb (.cons .qi .nil)) (.cons .q .nil) (fun k9 s9 H K0 hK9=>?_)
     refine W.seq ?_
     refine W.sr env [] [] [7,8,37] [30] rfl rfl rfl (.cons (by first|rfl|(simp;done)|omega|(simp;omega)) .nil) .nil ?_
     refine W.cond rfl (fun hb10=>?_) (fun hb10=>?_)
     · have H:=zai H hb10
       refine W.skip ?_
       refine At.zad ?_
       refine W.block ?_
       obtain ⟨hc11,H⟩:=zab H
       obtain ⟨hc12,H⟩:=zab H
       obtain ⟨hc13,H⟩:=zab H
       refine W.region env [] [] rfl rfl (by first|rfl|kernel_rfl) (.cons (⟨by first|rfl|(simp;done)|omega|(simp;omega),hc11⟩) (.cons (⟨by first|rfl|(simp;done)|omega|(simp;omega),hc12⟩) (.cons (⟨by first|rfl|(simp;done)|omega|(simp;omega),by first|rfl|(simp;done)|omega|(simp;omega),by omega,by omega,by omega,by omega⟩) (.cons hc13 .nil)))) .nil (At.keep (ts:=[7,8]) (ids:=[30]) rfl rfl ?_)
       refine At.zbo (.cons (y:=bufL 3 1 zaa (zbn s9.2 ((s9.1).toNat) (min ((s9.1).toNat - 0) (s9.2.length - (s9.1).toNat)) (fun q=>s9.2.getD (0+q) default))) (BSim.seg (Seg.zo9 (a:=(s9.1).toNat) (b:=s9.2.length) (a2:=0) (b2:=(s9.1).toNat) (Seg.refl zaa _) (by omega) (by omega))) .nil) ?_
       refine At.inb ?_
       refine At.zaE (At.keep (ts:=[7,8]) (ids:=[30]) rfl rfl ?_)
       exact At.conv (.cons .qb (.cons .qi .nil)) (.cons .q .nil) (hK9 ((s9.1+(((min ((s9.1).toNat - 0) (s9.2.length - (s9.1).toNat)):Nat):Int)),(zbn s9.2 ((s9.1).toNat) (min ((s9.1).toNat - 0) (s9.2.length - (s9.1).toNat)) (fun q=>s9.2.getD (0+q) default))) H)
     · have H:=zag H hb10
       refine W.exit ?_
       refine At.xthen ?_
       refine At.xthen ?_
       refine At.xhere ?_
       refine At.zad ?_
       refine W.rg env [4] [30] ?_
       refine W.ret ?_
       cases H
       exact At.ret env.ty rfl rfl (fun q hq=>by cases hq;exact (by first|rfl|(simp;done)|omega|(simp;omega))) (.refl _) hval
   · refine W.cond rfl (fun hb14=>?_) (fun hb14=>?_)
     · have H:=zai H hb14
       cases H
     · have H:=zag H hb14
       refine W.skip ?_
       refine At.zaE (At.keep (ts:=[0,6]) (ids:=[]) rfl rfl ?_)
       exact At.conv (.cons .q (.cons .q .nil)) .nil (hK6 () H)
 · refine W.cond rfl (fun hb15=>?_) (fun hb15=>?_)
   · have H:=zai H hb15
     cases H
   · have H:=zag H hb15
     refine W.skip ?_
     refine At.zaE (At.keep (ts:=[0,1]) (ids:=[]) rfl rfl ?_)
     exact At.conv (.cons .q (.cons .qi .nil)) .nil (hK1 () H)
theorem zfl (fuel:Nat) (p0:(List Int)) (p1:Int) {r:(List Int)} (H:zaY fuel p0 p1=some r):CtrO Tryz.prog 81 [roL 1 zaa p0,.int .i64 (p1)] [] (.buf 900 r.length) [(900,bufL 3 1 zaa r)]:=by
 unfold zaY at H
 refine CtrO.zan (N:=48) Tryz.func81 (by kernel_rfl) (c:=_) rfl Tryz.ntmps81 rfl (fun w0 h0 ρb hval hdom=>?_)
 refine W.rg env [0,1] [] ?_
 refine W.seq ?_
 refine W.rg env [0,1,10] [] ?_
 refine W.zhG H (fun (s1:Unit)=>[(0,roL 1 zaa p0),(1,.int .i64 (p1))]) (fun (s1:Unit)=>[]) (fun s1 H=>?_) (fun k1 H hK1=>?_)
 · refine W.seq ?_
   obtain ⟨hc2,H⟩:=zab H
   obtain ⟨hc3,H⟩:=zab H
   obtain ⟨y4,hy5,H⟩:=zaf H
   refine W.region env [] [⟨.tup [.int .u64 (y4.1),.int .u64 (y4.2)],[],0,[]⟩] rfl rfl rfl (.cons hc2 (.cons hc3 .nil)) (.free (ziE ((p0.length:Nat):Int) p1 hy5) .nil) (At.keep (ts:=[0,5,6]) (ids:=[]) rfl rfl ?_)
   refine At.zad ?_
   refine W.seq ?_
   refine W.sr env [] [] [0,6,26] [] rfl rfl rfl (.cons id (.cons (fun h=>by rw [h];rfl) .nil)) .nil ?_
   refine W.zhG H (fun (s6:Unit)=>[(0,roL 1 zaa p0),(6,.int .u64 (y4.2))]) (fun (s6:Unit)=>[]) (fun s6 H=>?_) (fun k6 H hK6=>?_)
   · refine W.seq ?_
     obtain ⟨hc7,H⟩:=zab H
     obtain ⟨hc8,H⟩:=zab H
     refine W.region env [] [] rfl rfl rfl (.cons hc7 (.cons hc8 .nil)) .nil (At.keep (ts:=[0,7]) (ids:=[30]) rfl rfl ?_)
     refine At.zbo (.cons (y:=bufL 3 1 zaa (List.replicate (y4.2).toNat (0:Int))) (BSim.seg (Seg.made (f:=zaa) 0 rfl)) .nil) ?_
     refine At.zad ?_
     refine W.seq ?_
     refine W.region env [] [] rfl rfl rfl (.cons (by first|rfl|(simp;done)|omega|(simp;omega)) .nil) .nil (At.keep (ts:=[7,8]) (ids:=[30]) rfl rfl ?_)
     refine At.zbo (.cons (y:=bufL 3 1 zaa (zbn (List.replicate (y4.2).toNat (0:Int)) 0 (min p0.length (List.replicate (y4.2).toNat (0:Int)).length) (fun q=>p0.getD q default))) (BSim.seg (Seg.copied (Seg.refl zaa _) (Seg.refl zaa p0))) .nil) ?_
     refine At.zad ?_
     refine W.seq ?_
     refine W.block ?_
     refine At.keep (ts:=[7,8]) (ids:=[30]) rfl rfl ?_
     refine W.loopGo H (fun (s9:Int×(List Int))=>[(7,.buf 30 (s9.2).length),(8,.int .i64 (s9.1))]) (fun (s9:Int×(List Int))=>[(30,bufL 3 1 zaa s9.2)]) (.cons .qb (.cons .qi .nil)) (.cons .q .nil) (fun k9 s9 H K0 hK9=>?_)
     refine W.seq ?_
     refine W.sr env [] [] [7,8,37] [30] rfl rfl rfl (.cons (by first|rfl|(simp;done)|omega|(simp;omega)) .nil) .nil ?_
     refine W.cond rfl (fun hb10=>?_) (fun hb10=>?_)
     · have H:=zai H hb10
       refine W.skip ?_
       refine At.zad ?_
       refine W.block ?_
       obtain ⟨hc11,H⟩:=zab H
       obtain ⟨hc12,H⟩:=zab H
       obtain ⟨hc13,H⟩:=zab H
       refine W.region env [] [] rfl rfl (by first|rfl|kernel_rfl) (.cons (⟨by first|rfl|(simp;done)|omega|(simp;omega),hc11⟩) (.cons (⟨by first|rfl|(simp;done)|omega|(simp;omega),hc12⟩) (.cons (⟨by first|rfl|(simp;done)|omega|(simp;omega),by first|rfl|(simp;done)|omega|(simp;omega),by omega,by omega,by omega,by omega⟩) (.cons hc13 .nil)))) .nil (At.keep (ts:=[7,8]) (ids:=[30]) rfl rfl ?_)
       refine At.zbo (.cons (y:=bufL 3 1 zaa (zbn s9.2 ((s9.1).toNat) (min ((s9.1).toNat - 0) (s9.2.length - (s9.1).toNat)) (fun q=>s9.2.getD (0+q) default))) (BSim.seg (Seg.zo9 (a:=(s9.1).toNat) (b:=s9.2.length) (a2:=0) (b2:=(s9.1).toNat) (Seg.refl zaa _) (by omega) (by omega))) .nil) ?_
       refine At.inb ?_
       refine At.zaE (At.keep (ts:=[7,8]) (ids:=[30]) rfl rfl ?_)
       exact At.conv (.cons .qb (.cons .qi .nil)) (.cons .q .nil) (hK9 ((s9.1+(((min ((s9.1).toNat - 0) (s9.2.length - (s9.1).toNat)):Nat):Int)),(zbn s9.2 ((s9.1).toNat) (min ((s9.1).toNat - 0) (s9.2.length - (s9.1).toNat)) (fun q=>s9.2.getD (0+q) default))) H)
     · have H:=zag H hb10
       refine W.exit ?_
       refine At.xthen ?_
       refine At.xthen ?_
       refine At.xhere ?_
       refine At.zad ?_
       refine W.rg env [4] [30] ?_
       refine W.ret ?_
       cases H
       exact At.retK env.ty [30] 870 rfl rfl rfl rfl (.cons (.refl _) .nil) (.of_eq (by refine zkv ?_;first|(simp [zbn];done)|omega|(simp [zbn];omega)|rfl)) hval hdom rfl
   · refine W.cond rfl (fun hb14=>?_) (fun hb14=>?_)
     · have H:=zai H hb14
       cases H
     · have H:=zag H hb14
       refine W.skip ?_
       refine At.zaE (At.keep (ts:=[0,6]) (ids:=[]) rfl rfl ?_)
       exact At.conv (.cons .q (.cons .q .nil)) .nil (hK6 () H)
 · refine W.cond rfl (fun hb15=>?_) (fun hb15=>?_)
   · have H:=zai H hb15
     cases H
   · have H:=zag H hb15
     refine W.skip ?_
     refine At.zaE (At.keep (ts:=[0,1]) (ids:=[]) rfl rfl ?_)
     exact At.conv (.cons .q (.cons .qi .nil)) .nil (hK1 () H)
theorem zgS (fuel:Nat) (p0:Chart) (p1:Int→Option Int) (p1_g:Nat) (p1_a p1_b:List AV) (p1_h:∀ x0 r,p1 x0=some r→Ctr Tryz.prog p1_g (p1_a++([.int .i64 (x0)]++p1_b)) (.int .i64 (r))) {r:(List (List Int))} (H:zdx fuel p0 p1=some r):Ctr Tryz.prog 28 [.agg [.int .i64 (p0.Places),roL 7 zaC p0.Ways],.clo (.func p1_g) p1_a p1_b] (roL 1 zaj r):=by
 unfold zdx at H
 refine Ctr.zan (N:=157) Tryz.func28 (by kernel_rfl) (c:=_) rfl Tryz.ntmps28 rfl (fun w0 h0 hval=>?_)
 refine W.rg env [1,2] [2] ?_
 refine W.seq ?_
 obtain ⟨hc1,H⟩:=zab H
 refine W.region env [17] [] rfl rfl rfl (.cons hc1 .nil) .nil (At.keep (ts:=[1,2,5]) (ids:=[2,17]) rfl rfl ?_)
 refine At.zbo (.cons (.refl _) (.cons (y:=zhK 31 3 1 zaa (List.replicate (p0.Places).toNat ([]:List Int))) (BSim.gseg (GSeg.made (T:=Int) zaa _)) .nil)) ?_
 refine At.zad ?_
 refine W.seq ?_
 refine W.sr env [] [] [1,2,5,19,20] [2,17] rfl rfl rfl (.cons (by first|rfl|(simp;done)|omega|(simp;omega)) .nil) .nil ?_
 refine W.block ?_
 refine At.keep (ts:=[1,2,5,19,20]) (ids:=[2,17]) rfl rfl ?_
 obtain ⟨hn2,H⟩:=zab H
 refine W.zah H (fun i2 (s2:(List (List Int)))=>[(1,.clo (.func p1_g) p1_a p1_b),(2,.lp 2 0),(5,.gb 17 (s2).length),(19,.int .i64 ((((List.replicate (p0.Places).toNat ([]:List Int)).length:Nat):Int))),(20,.int .i64 ((i2:Int)))]) (fun i2 (s2:(List (List Int)))=>[(2,.cells [.int .i64 (p0.Places),roL 7 zaC p0.Ways]),(17,zhK 31 3 1 zaa s2)]) (.cons .q (.cons .q (.cons (.of_eq (by refine gbEq ?_;first|(simp;done)|omega|(simp;omega)|rfl)) (.cons .qi (.cons .qi .nil))))) (.cons .q (.cons .q .nil)) (fun k2 i2 s2 hle2 H1 H2 K0 hK2=>?_)
 refine W.rg env [1,2,5,19,20,21] [2,17] ?_
 refine W.seq ?_
 refine W.cond rfl (fun hb3=>?_) (fun hb3=>?_)
 · have hi2:i2<(List.replicate (p0.Places).toNat ([]:List Int)).length:=by have:=of_decide_eq_true hb3;omega
   have H:=H1 hi2
   refine W.skip ?_
   refine At.zad ?_
   refine W.seq ?_
   refine W.block ?_
   refine W.rg env [1,2,5,6,19,20] [2,17] ?_
   refine W.seq ?_
   obtain ⟨y4,hy5,H⟩:=zaf H
   obtain ⟨hc6,H⟩:=zab H
   obtain ⟨hc7,H⟩:=zab H
   refine W.region env [] [⟨.buf 900 y4.length,[(900,bufL 3 1 zaa y4)],29000,[]⟩] rfl rfl (by kernel_rfl) (.cons (⟨by first|rfl|(simp;done)|omega|(simp;omega),hc6⟩) (.cons (⟨by first|rfl|(simp;done)|omega|(simp;omega),(by have:=hc6;first|omega|(simp at this ⊢;omega)),by first|rfl|(simp;done)|omega|(simp;omega),by have:=hc7;first|exact this|(simp at this ⊢;omega)⟩) .nil)) (.free (Ctr.sim (.cons (Sim.lit (f:=zaa) ([(-1)]:List Int) rfl rfl (fun _=>rfl)) (.cons (.refl _) .nil)) ((Ctr.ofO (zfl fuel ([(-1)]:List Int) p0.Places hy5)))) .nil) (At.keep (ts:=[1,2,5,6,19,20]) (ids:=[2,17]) rfl rfl ?_)
   refine At.zbo (.cons (.refl _) (.cons (y:=zhK 31 3 1 zaa (s2.set i2 y4)) (BSim.gseg (GSeg.setRow (i:=i2) (row:=y4) (GSeg.refl zaa _) (Seg.refl zaa _))) .nil)) ?_
   refine At.zad ?_
   obtain ⟨hc8,H⟩:=zab H
   obtain ⟨hc9,H⟩:=zab H
   refine W.region env [] [] rfl rfl rfl (.cons (⟨by first|rfl|(simp;done)|omega|(simp;omega),hc8⟩) (.cons (⟨by first|rfl|(simp;done)|omega|(simp;omega),(by have:=hc8;first|omega|(simp at this ⊢;omega))⟩) (.cons (⟨by first|rfl|(simp;done)|omega|(simp;omega),(by have:=hc8;first|omega|(simp at this ⊢;omega)),hc9⟩) (.cons (⟨by first|rfl|(simp;done)|omega|(simp;omega),(by have:=hc8;first|omega|(simp at this ⊢;omega)),(by have:=hc9;first|omega|(simp at this ⊢;omega))⟩) .nil)))) .nil (At.keep (ts:=[1,2,5,19,20]) (ids:=[2,17]) rfl rfl ?_)
   refine At.zbo (.cons (.refl _) (.cons (y:=zhK 31 3 1 zaa ((s2.set i2 y4).set i2 (((s2.set i2 y4).getD i2 []).set i2 0))) (BSim.gseg (GSeg.setAt (i:=i2) (j:=i2) (GSeg.refl zaa _) 0 rfl)) .nil)) ?_
   refine At.inb ?_
   refine At.zad ?_
   refine W.region env [] [] rfl rfl rfl (.cons (by unfold inI;have:=hn2;(try unfold maxLen at this);omega) .nil) .nil (At.keep (ts:=[1,2,5,19,20]) (ids:=[2,17]) rfl rfl ?_)
   refine At.zaE (At.keep (ts:=[1,2,5,19,20]) (ids:=[2,17]) rfl rfl ?_)
   exact At.conv (.cons .q (.cons .q (.cons (.of_eq (by refine gbEq ?_;first|(simp;done)|omega|(simp;omega)|rfl)) (.cons .qi (.cons .qi .nil))))) (.cons .q (.cons .q .nil)) (hK2 hi2 ((s2.set i2 y4).set i2 (((s2.set i2 y4).getD i2 []).set i2 0)) H)
 · have H:=H2 (by have:=of_decide_eq_false hb3;omega)
   refine W.exit ?_
   refine At.xthen ?_
   refine At.xthen ?_
   refine At.xhere ?_
   refine At.zad ?_
   refine W.seq ?_
   refine W.rg env [1,2,5,38,39,40] [2,17] ?_
   refine W.block ?_
   refine At.keep (ts:=[1,2,5,38,39,40]) (ids:=[2,17]) rfl rfl ?_
   refine W.len (t:=38) rfl (fun (hn10:p0.Ways.length≤maxLen)=>?_)
   refine W.zah H (fun i10 (s10:(List (List Int)))=>[(1,.clo (.func p1_g) p1_a p1_b),(2,.lp 2 0),(5,.gb 17 (s10).length),(38,roL 7 zaC p0.Ways),(39,.int .i64 (((p0.Ways.length:Nat):Int))),(40,.int .i64 ((i10:Int)))]) (fun i10 (s10:(List (List Int)))=>[(2,.cells [.int .i64 (p0.Places),roL 7 zaC p0.Ways]),(17,zhK 31 3 1 zaa s10)]) (.cons .q (.cons .q (.cons (.of_eq (by refine gbEq ?_;first|(simp;done)|omega|(simp;omega)|rfl)) (.cons .q (.cons .qi (.cons .qi .nil)))))) (.cons .q (.cons .q .nil)) (fun k10 i10 s10 hle10 H1 H2 K0 hK10=>?_)
   refine W.rg env [1,2,5,38,39,40,41] [2,17] ?_
   refine W.seq ?_
   refine W.cond rfl (fun hb11=>?_) (fun hb11=>?_)
   · have hi10:i10<p0.Ways.length:=by have:=of_decide_eq_true hb11;omega
     have H:=H1 hi10
     refine W.skip ?_
     refine At.zad ?_
     refine W.seq ?_
     refine W.block ?_
     refine W.sr env [] [] [1,2,5,7,8,38,39,40] [2,8,17] rfl rfl rfl (.cons (⟨by omega,by omega⟩:0≤(i10:Int)∧(i10:Int)<((p0.Ways.length:Nat):Int)) .nil) .nil ?_
     obtain ⟨hc12,H⟩:=zab H
     obtain ⟨hc13,H⟩:=zab H
     refine W.sr env [] [] [1,2,5,7,8,9,38,39,40] [2,8,17] rfl rfl (by first|rfl|kernel_rfl) (.cons (⟨by first|rfl|(simp;done)|omega|(simp;omega),hc12⟩) (.cons (⟨by first|rfl|(simp;done)|omega|(simp;omega),(by have:=hc12;first|omega|(simp at this ⊢;omega))⟩) (.cons (⟨by first|rfl|(simp;done)|omega|(simp;omega),(by have:=hc12;first|omega|(simp at this ⊢;omega)),hc13⟩) (.cons (⟨by first|rfl|(simp;done)|omega|(simp;omega),(by have:=hc12;first|omega|(simp at this ⊢;omega)),(by have:=hc13;first|omega|(simp at this ⊢;omega))⟩) .nil)))) .nil ?_
     refine W.seq ?_
     obtain ⟨y14,hy15,H⟩:=zaf H
     refine W.region env [] [⟨.int .i64 (y14),[],0,[]⟩] rfl rfl rfl (.cons id (.cons id (.cons id (.cons id (.cons id (.cons id (.cons id (.cons id (.cons id (.cons id (.cons id (.cons (fun hW h=>by revert hW h;first|(simp +contextual;done)|grind) (.cons id .nil))))))))))))) (.on (fun hW=>p1_h (i10:Int) _ (zai hy15 hW)) .nil) (At.keep (ts:=[1,2,5,7,8,38,39,40,73]) (ids:=[2,8,17]) rfl rfl ?_)
     refine At.zad ?_
     refine W.cond rfl (fun hb16=>?_) (fun hb16=>?_)
     · have H:=zai H hb16
       obtain ⟨hc17,H⟩:=zab H
       obtain ⟨y18,hy19,H⟩:=zaf H
       obtain ⟨hc20,H⟩:=zab H
       refine W.region env [] [⟨.int .i64 (y18),[],0,[]⟩] rfl rfl (by kernel_rfl) (.cons (⟨by first|rfl|(simp;done)|omega|(simp;omega),hc17⟩) (.cons (⟨by first|rfl|(simp;done)|omega|(simp;omega),(by have:=hc17;first|omega|(simp at this ⊢;omega))⟩) (.cons (⟨by first|rfl|(simp;done)|omega|(simp;omega),(by have:=hc17;first|omega|(simp at this ⊢;omega)),hc20⟩) (.cons (⟨by first|rfl|(simp;done)|omega|(simp;omega),(by have:=hc17;first|omega|(simp at this ⊢;omega)),(by have:=hc20;first|omega|(simp at this ⊢;omega))⟩) .nil)))) (.free (p1_h (i10:Int) _ hy19) .nil) (At.keep (ts:=[1,2,5,38,39,40]) (ids:=[2,17]) rfl rfl ?_)
       refine At.zbo (.cons (.refl _) (.cons (y:=zhK 31 3 1 zaa (s10.set ((p0.Ways.getD i10 default).From).toNat ((s10.getD ((p0.Ways.getD i10 default).From).toNat []).set ((p0.Ways.getD i10 default).To).toNat y18))) (BSim.gseg (GSeg.setAt (i:=((p0.Ways.getD i10 default).From).toNat) (j:=((p0.Ways.getD i10 default).To).toNat) (GSeg.refl zaa _) y18 rfl)) .nil)) ?_
       refine At.inb ?_
       refine At.zad ?_
       refine W.region env [] [] rfl rfl rfl (.cons (by unfold inI;have:=hn10;(try unfold maxLen at this);omega) .nil) .nil (At.keep (ts:=[1,2,5,38,39,40]) (ids:=[2,17]) rfl rfl ?_)
       refine At.zaE (At.keep (ts:=[1,2,5,38,39,40]) (ids:=[2,17]) rfl rfl ?_)
       exact At.conv (.cons .q (.cons .q (.cons (.of_eq (by refine gbEq ?_;first|(simp;done)|omega|(simp;omega)|rfl)) (.cons .q (.cons .qi (.cons .qi .nil)))))) (.cons .q (.cons .q .nil)) (hK10 hi10 (s10.set ((p0.Ways.getD i10 default).From).toNat ((s10.getD ((p0.Ways.getD i10 default).From).toNat []).set ((p0.Ways.getD i10 default).To).toNat y18)) H)
     · have H:=zag H hb16
       refine W.skip ?_
       refine At.inb ?_
       refine At.zad ?_
       refine W.region env [] [] rfl rfl rfl (.cons (by unfold inI;have:=hn10;(try unfold maxLen at this);omega) .nil) .nil (At.keep (ts:=[1,2,5,38,39,40]) (ids:=[2,17]) rfl rfl ?_)
       refine At.zaE (At.keep (ts:=[1,2,5,38,39,40]) (ids:=[2,17]) rfl rfl ?_)
       exact At.conv (.cons .q (.cons .q (.cons (.of_eq (by refine gbEq ?_;first|(simp;done)|omega|(simp;omega)|rfl)) (.cons .q (.cons .qi (.cons .qi .nil)))))) (.cons .q (.cons .q .nil)) (hK10 hi10 s10 H)
   · have H:=H2 (by have:=of_decide_eq_false hb11;omega)
     refine W.exit ?_
     refine At.xthen ?_
     refine At.xthen ?_
     refine At.xhere ?_
     refine At.zad ?_
     refine W.seq ?_
     refine W.rg env [2,5,87,88] [2,17] ?_
     refine W.block ?_
     refine At.keep (ts:=[2,5,87,88]) (ids:=[2,17]) rfl rfl ?_
     obtain ⟨hn21,H⟩:=zab H
     refine W.zah H (fun i21 (s21:(List (List Int)))=>[(2,.lp 2 0),(5,.gb 17 (s21).length),(87,.int .i64 (p0.Places)),(88,.int .i64 ((i21:Int)))]) (fun i21 (s21:(List (List Int)))=>[(2,.cells [.int .i64 (p0.Places),roL 7 zaC p0.Ways]),(17,zhK 31 3 1 zaa s21)]) (.cons .q (.cons (.of_eq (by refine gbEq ?_;first|(simp;done)|omega|(simp;omega)|rfl)) (.cons .qi (.cons .qi .nil)))) (.cons .q (.cons .q .nil)) (fun k21 i21 s21 hle21 H1 H2 K0 hK21=>?_)
     refine W.rg env [2,5,87,88,89] [2,17] ?_
     refine W.seq ?_
     refine W.cond rfl (fun hb22=>?_) (fun hb22=>?_)
     · have hi21:i21<(p0.Places).toNat:=by have:=of_decide_eq_true hb22;omega
       have H:=H1 hi21
       refine W.skip ?_
       refine At.zad ?_
       refine W.seq ?_
       refine W.block ?_
       refine W.rg env [2,5,10,87,88] [2,17] ?_
       refine W.rg env [2,5,10,87,88,92,93] [2,17] ?_
       refine W.block ?_
       refine At.keep (ts:=[2,5,10,87,88,92,93]) (ids:=[2,17]) rfl rfl ?_
       obtain ⟨hn23,H⟩:=zab H
       refine W.zah H (fun i23 (s23:(List (List Int)))=>[(2,.lp 2 0),(5,.gb 17 (s23).length),(10,.int .i64 ((i21:Int))),(87,.int .i64 (p0.Places)),(88,.int .i64 ((i21:Int))),(92,.int .i64 (p0.Places)),(93,.int .i64 ((i23:Int)))]) (fun i23 (s23:(List (List Int)))=>[(2,.cells [.int .i64 (p0.Places),roL 7 zaC p0.Ways]),(17,zhK 31 3 1 zaa s23)]) (.cons .q (.cons (.of_eq (by refine gbEq ?_;first|(simp;done)|omega|(simp;omega)|rfl)) (.cons .qi (.cons .qi (.cons .qi (.cons .qi (.cons .qi .nil))))))) (.cons .q (.cons .q .nil)) (fun k23 i23 s23 hle23 H1 H2 K0 hK23=>?_)
       refine W.rg env [2,5,10,87,88,92,93,94] [2,17] ?_
       refine W.seq ?_
       refine W.cond rfl (fun hb24=>?_) (fun hb24=>?_)
       · have hi23:i23<(p0.Places).toNat:=by have:=of_decide_eq_true hb24;omega
         have H:=H1 hi23
         refine W.skip ?_
         refine At.zad ?_
         refine W.seq ?_
         refine W.block ?_
         refine W.rg env [2,5,10,11,87,88,92,93] [2,17] ?_
         refine W.rg env [2,5,10,11,87,88,92,93,97,98] [2,17] ?_
         refine W.block ?_
         refine At.keep (ts:=[2,5,10,11,87,88,92,93,97,98]) (ids:=[2,17]) rfl rfl ?_
         obtain ⟨hn25,H⟩:=zab H
         refine W.zah H (fun i25 (s25:(List (List Int)))=>[(2,.lp 2 0),(5,.gb 17 (s25).length),(10,.int .i64 ((i21:Int))),(11,.int .i64 ((i23:Int))),(87,.int .i64 (p0.Places)),(88,.int .i64 ((i21:Int))),(92,.int .i64 (p0.Places)),(93,.int .i64 ((i23:Int))),(97,.int .i64 (p0.Places)),(98,.int .i64 ((i25:Int)))]) (fun i25 (s25:(List (List Int)))=>[(2,.cells [.int .i64 (p0.Places),roL 7 zaC p0.Ways]),(17,zhK 31 3 1 zaa s25)]) (.cons .q (.cons (.of_eq (by refine gbEq ?_;first|(simp;done)|omega|(simp;omega)|rfl)) (.cons .qi (.cons .qi (.cons .qi (.cons .qi (.cons .qi (.cons .qi (.cons .qi (.cons .qi .nil)))))))))) (.cons .q (.cons .q .nil)) (fun k25 i25 s25 hle25 H1 H2 K0 hK25=>?_)
         refine W.rg env [2,5,10,11,87,88,92,93,97,98,99] [2,17] ?_
         refine W.seq ?_
         refine W.cond rfl (fun hb26=>?_) (fun hb26=>?_)
         · have hi25:i25<(p0.Places).toNat:=by have:=of_decide_eq_true hb26;omega
           have H:=H1 hi25
           refine W.skip ?_
           refine At.zad ?_
           refine W.seq ?_
           refine W.block ?_
           refine W.rg env [2,5,10,11,12,87,88,92,93,97,98] [2,17] ?_
           obtain ⟨hc27,H⟩:=zab H
           obtain ⟨hc28,H⟩:=zab H
           obtain ⟨hc29,H⟩:=zab H
           obtain ⟨hc30,H⟩:=zab H
           refine W.sr env [] [] [2,5,10,11,12,13,14,87,88,92,93,97,98] [2,17] rfl rfl (by first|rfl|kernel_rfl) (.cons (⟨by first|rfl|(simp;done)|omega|(simp;omega),hc27⟩) (.cons (⟨by first|rfl|(simp;done)|omega|(simp;omega),(by have:=hc27;first|omega|(simp at this ⊢;omega))⟩) (.cons (⟨by first|rfl|(simp;done)|omega|(simp;omega),(by have:=hc27;first|omega|(simp at this ⊢;omega)),hc28⟩) (.cons (⟨by first|rfl|(simp;done)|omega|(simp;omega),(by have:=hc27;first|omega|(simp at this ⊢;omega)),(by have:=hc28;first|omega|(simp at this ⊢;omega))⟩) (.cons (⟨by first|rfl|(simp;done)|omega|(simp;omega),hc29⟩) (.cons (⟨by first|rfl|(simp;done)|omega|(simp;omega),(by have:=hc29;first|omega|(simp at this ⊢;omega))⟩) (.cons (⟨by first|rfl|(simp;done)|omega|(simp;omega),(by have:=hc29;first|omega|(simp at this ⊢;omega)),hc30⟩) (.cons (⟨by first|rfl|(simp;done)|omega|(simp;omega),(by have:=hc29;first|omega|(simp at this ⊢;omega)),(by have:=hc30;first|omega|(simp at this ⊢;omega))⟩) .nil)))))))) .nil ?_
           obtain ⟨hc31,H⟩:=zab H
           obtain ⟨hc32,H⟩:=zab H
           obtain ⟨hc33,H⟩:=zab H
           obtain ⟨hc34,H⟩:=zab H
           obtain ⟨hc35,H⟩:=zab H
           refine W.sr env [] [] [2,5,10,11,12,13,14,87,88,92,93,97,98,143] [2,17] rfl rfl rfl (.cons id (.cons id (.cons (fun hW=>⟨by first|rfl|(simp;done)|omega|(simp;omega),hc31 hW⟩) (.cons id (.cons id (.cons (fun hW=>(⟨by first|rfl|(simp;done)|omega|(simp;omega),(by have:=hc31 hW;first|omega|(simp at this ⊢;omega))⟩)) (.cons id (.cons (fun hW=>⟨by first|rfl|(simp;done)|omega|(simp;omega),(by have:=hc31 hW;first|omega|(simp at this ⊢;omega)),hc32 hW⟩) (.cons id (.cons id (.cons (fun hW=>(⟨by first|rfl|(simp;done)|omega|(simp;omega),(by have:=hc31 hW;first|omega|(simp at this ⊢;omega)),(by have:=hc32 hW;first|omega|(simp at this ⊢;omega))⟩)) (.cons id (.cons id (.cons id (.cons hc33 (.cons id (.cons id (.cons (fun hW=>⟨by first|rfl|(simp;done)|omega|(simp;omega),hc34 hW⟩) (.cons id (.cons id (.cons (fun hW=>(⟨by first|rfl|(simp;done)|omega|(simp;omega),(by have:=hc34 hW;first|omega|(simp at this ⊢;omega))⟩)) (.cons id (.cons (fun hW=>⟨by first|rfl|(simp;done)|omega|(simp;omega),(by have:=hc34 hW;first|omega|(simp at this ⊢;omega)),hc35 hW⟩) (.cons id (.cons id (.cons (fun hW=>(⟨by first|rfl|(simp;done)|omega|(simp;omega),(by have:=hc34 hW;first|omega|(simp at this ⊢;omega)),(by have:=hc35 hW;first|omega|(simp at this ⊢;omega))⟩)) (.cons id (.cons id (.cons id (.cons id (.cons (fun hW h=>by revert hW h;first|(simp +contextual;done)|grind) (.cons id .nil)))))))))))))))))))))))))))))))) .nil ?_
           refine W.cond rfl (fun hb36=>?_) (fun hb36=>?_)
           · have H:=zai H hb36
             obtain ⟨hc37,H⟩:=zab H
             obtain ⟨hc38,H⟩:=zab H
             obtain ⟨hc39,H⟩:=zab H
             refine W.region env [] [] rfl rfl rfl (.cons (⟨by first|rfl|(simp;done)|omega|(simp;omega),hc37⟩) (.cons (⟨by first|rfl|(simp;done)|omega|(simp;omega),(by have:=hc37;first|omega|(simp at this ⊢;omega))⟩) (.cons hc38 (.cons (⟨by first|rfl|(simp;done)|omega|(simp;omega),(by have:=hc37;first|omega|(simp at this ⊢;omega)),hc39⟩) (.cons (⟨by first|rfl|(simp;done)|omega|(simp;omega),(by have:=hc37;first|omega|(simp at this ⊢;omega)),(by have:=hc39;first|omega|(simp at this ⊢;omega))⟩) .nil))))) .nil (At.keep (ts:=[2,5,10,11,87,88,92,93,97,98]) (ids:=[2,17]) rfl rfl ?_)
             refine At.zbo (.cons (.refl _) (.cons (y:=zhK 31 3 1 zaa (s25.set i23 ((s25.getD i23 []).set i25 (((s25.getD i23 []).getD i21 default)+((s25.getD i21 []).getD i25 default))))) (BSim.gseg (GSeg.setAt (i:=i23) (j:=i25) (GSeg.refl zaa _) (((s25.getD i23 []).getD i21 default)+((s25.getD i21 []).getD i25 default)) rfl)) .nil)) ?_
             refine At.inb ?_
             refine At.zad ?_
             refine W.region env [] [] rfl rfl rfl (.cons (by unfold inI;have:=hn25;(try unfold maxLen at this);omega) .nil) .nil (At.keep (ts:=[2,5,10,11,87,88,92,93,97,98]) (ids:=[2,17]) rfl rfl ?_)
             refine At.zaE (At.keep (ts:=[2,5,10,11,87,88,92,93,97,98]) (ids:=[2,17]) rfl rfl ?_)
             exact At.conv (.cons .q (.cons (.of_eq (by refine gbEq ?_;first|(simp;done)|omega|(simp;omega)|rfl)) (.cons .qi (.cons .qi (.cons .qi (.cons .qi (.cons .qi (.cons .qi (.cons .qi (.cons .qi .nil)))))))))) (.cons .q (.cons .q .nil)) (hK25 hi25 (s25.set i23 ((s25.getD i23 []).set i25 (((s25.getD i23 []).getD i21 default)+((s25.getD i21 []).getD i25 default)))) H)
           · have H:=zag H hb36
             refine W.skip ?_
             refine At.inb ?_
             refine At.zad ?_
             refine W.region env [] [] rfl rfl rfl (.cons (by unfold inI;have:=hn25;(try unfold maxLen at this);omega) .nil) .nil (At.keep (ts:=[2,5,10,11,87,88,92,93,97,98]) (ids:=[2,17]) rfl rfl ?_)
             refine At.zaE (At.keep (ts:=[2,5,10,11,87,88,92,93,97,98]) (ids:=[2,17]) rfl rfl ?_)
             exact At.conv (.cons .q (.cons (.of_eq (by refine gbEq ?_;first|(simp;done)|omega|(simp;omega)|rfl)) (.cons .qi (.cons .qi (.cons .qi (.cons .qi (.cons .qi (.cons .qi (.cons .qi (.cons .qi .nil)))))))))) (.cons .q (.cons .q .nil)) (hK25 hi25 s25 H)
         · have H:=H2 (by have:=of_decide_eq_false hb26;omega)
           refine W.exit ?_
           refine At.xthen ?_
           refine At.xthen ?_
           refine At.xhere ?_
           refine At.inb ?_
           refine At.zad ?_
           refine W.region env [] [] rfl rfl rfl (.cons (by unfold inI;have:=hn23;(try unfold maxLen at this);omega) .nil) .nil (At.keep (ts:=[2,5,10,87,88,92,93]) (ids:=[2,17]) rfl rfl ?_)
           refine At.zaE (At.keep (ts:=[2,5,10,87,88,92,93]) (ids:=[2,17]) rfl rfl ?_)
           exact At.conv (.cons .q (.cons (.of_eq (by refine gbEq ?_;first|(simp;done)|omega|(simp;omega)|rfl)) (.cons .qi (.cons .qi (.cons .qi (.cons .qi (.cons .qi .nil))))))) (.cons .q (.cons .q .nil)) (hK23 hi23 s25 H)
       · have H:=H2 (by have:=of_decide_eq_false hb24;omega)
         refine W.exit ?_
         refine At.xthen ?_
         refine At.xthen ?_
         refine At.xhere ?_
         refine At.inb ?_
         refine At.zad ?_
         refine W.region env [] [] rfl rfl rfl (.cons (by unfold inI;have:=hn21;(try unfold maxLen at this);omega) .nil) .nil (At.keep (ts:=[2,5,87,88]) (ids:=[2,17]) rfl rfl ?_)
         refine At.zaE (At.keep (ts:=[2,5,87,88]) (ids:=[2,17]) rfl rfl ?_)
         exact At.conv (.cons .q (.cons (.of_eq (by refine gbEq ?_;first|(simp;done)|omega|(simp;omega)|rfl)) (.cons .qi (.cons .qi .nil)))) (.cons .q (.cons .q .nil)) (hK21 hi21 s23 H)
     · have H:=H2 (by have:=of_decide_eq_false hb22;omega)
       refine W.exit ?_
       refine At.xthen ?_
       refine At.xthen ?_
       refine At.xhere ?_
       refine At.zad ?_
       refine W.rg env [4] [17] ?_
       refine W.ret ?_
       cases H
       exact At.ret env.ty rfl rfl (fun q hq=>by cases hq;exact (by first|rfl|(simp;done)|omega|(simp;omega))) (.refl _) hval
theorem zh2 (p0:Int) (c0:Chart) {r:Int} (H:zb7 p0 c0=some r):Ctr Tryz.prog 82 [.int .i64 (p0),.rp [.int .i64 (c0.Places),roL 7 zaC c0.Ways]] (.int .i64 (r)):=by
 unfold zb7 at H
 refine Ctr.zan (N:=11) Tryz.func82 (by kernel_rfl) (c:=_) rfl Tryz.ntmps82 rfl (fun w0 h0 hval=>?_)
 refine W.rg env [0,1] [] ?_
 obtain ⟨hc1,H⟩:=zab H
 refine W.sr env [] [] [3] [] rfl rfl rfl (.cons hc1 .nil) .nil ?_
 refine W.ret ?_
 cases H
 exact At.ret env.ty rfl rfl nofun (.refl _) hval
theorem zkl (p0:Chart):Ctr Tryz.prog 30 [.agg [.int .i64 (p0.Places),roL 7 zaC p0.Ways]] (.clo (.func 83) [] [.rp [.int .i64 (p0.Places),roL 7 zaC p0.Ways]]):=by
 refine Ctr.zan (N:=4) Tryz.func30 (by kernel_rfl) (c:=_) rfl Tryz.ntmps30 rfl (fun w0 h0 hval=>?_)
 refine W.rg env [1] [1] ?_
 refine W.rg env [2] [1] ?_
 refine W.ret ?_
 exact At.ret env.ty rfl rfl nofun (.refl _) hval
theorem zig (p0:Int) (c0:Chart) {r:Int} (H:zcl p0 c0=some r):Ctr Tryz.prog 83 [.int .i64 (p0),.rp [.int .i64 (c0.Places),roL 7 zaC c0.Ways]] (.int .i64 (r)):=by
 unfold zcl at H
 refine Ctr.zan (N:=11) Tryz.func83 (by kernel_rfl) (c:=_) rfl Tryz.ntmps83 rfl (fun w0 h0 hval=>?_)
 refine W.rg env [0,1] [] ?_
 obtain ⟨hc1,H⟩:=zab H
 refine W.sr env [] [] [3] [] rfl rfl rfl (.cons hc1 .nil) .nil ?_
 refine W.ret ?_
 cases H
 exact At.ret env.ty rfl rfl nofun (.refl _) hval
theorem zfv (fuel:Nat) (p0:Chart) {r:((List (List Range))×Int)} (H:zcm fuel p0=some r):Ctr Tryz.prog 7 [.agg [.int .i64 (p0.Places),roL 7 zaC p0.Ways]] (.tup [roL 1 zac r.1,.int .i64 (r.2)]):=by
 unfold zcm at H
 refine Ctr.zan (N:=77) Tryz.func7 (by kernel_rfl) (c:=_) rfl Tryz.ntmps7 rfl (fun w0 h0 hval=>?_)
 refine W.rg env [1] [1] ?_
 refine W.seq ?_
 refine W.seq ?_
 obtain ⟨y1,hy2,H⟩:=zaf H
 refine W.region env [] [⟨.int .i64 (y1),[],0,[]⟩] rfl rfl rfl .nil (.free (zeB p0 hy2) .nil) (At.keep (ts:=[1,4]) (ids:=[1]) rfl rfl ?_)
 refine At.zad ?_
 refine W.rg env [1,4,14] [1] ?_
 refine W.cond rfl (fun hb3=>?_) (fun hb3=>?_)
 · have H:=zai H hb3
   refine W.rg env [2,3] [] ?_
   refine W.ret ?_
   refine At.rthen ?_
   cases H
   exact At.ret env.ty rfl rfl nofun (Sim.tupL (.cons (Sim.nil _ _) (.cons (.refl _) .nil))) hval
 · have H:=zag H hb3
   refine W.skip ?_
   refine At.zad ?_
   refine W.seq ?_
   obtain ⟨y4,hy5,H⟩:=zaf H
   obtain ⟨y6,hy7,H⟩:=zaf H
   refine W.region env [] [⟨.clo (.func 82) [] [.rp [.int .i64 (p0.Places),roL 7 zaC p0.Ways]],[],0,[]⟩,⟨roL 1 zaj y4,[],0,[]⟩,⟨.clo (.func 83) [] [.rp [.int .i64 (p0.Places),roL 7 zaC p0.Ways]],[],0,[]⟩,⟨roL 1 zaj y6,[],0,[]⟩] rfl rfl (by kernel_rfl) .nil (.free (zjw p0) (.free (zgS fuel p0 (fun x0=>zb7 x0 p0) 82 [] ([.rp [.int .i64 (p0.Places),roL 7 zaC p0.Ways]]) (fun x0 r h=>zh2 x0 p0 h) hy5) (.free (zkl p0) (.free (zgS fuel p0 (fun x0=>zcl x0 p0) 83 [] ([.rp [.int .i64 (p0.Places),roL 7 zaC p0.Ways]]) (fun x0 r h=>zig x0 p0 h) hy7) .nil)))) (At.keep (ts:=[1,5,6]) (ids:=[1]) rfl rfl ?_)
   refine At.zad ?_
   refine W.rg env [1,5,6,7] [1] ?_
   refine W.seq ?_
   refine W.rg env [1,5,6,7,25,26] [1] ?_
   refine W.block ?_
   refine At.zeR 7 507 98 1 (e:=fun i=>zac (([]:List (List Range)).getD i default)) rfl rfl ?_
   refine At.keep (ts:=[1,5,6,7,25,26]) (ids:=[1,507]) rfl rfl ?_
   obtain ⟨hn8,H⟩:=zab H
   refine W.zah H (fun i8 (s8:(List (List Range)))=>[(1,.lp 1 0),(5,roL 1 zaj y4),(6,roL 1 zaj y6),(7,.buf 507 (s8).length),(25,.int .i64 (p0.Places)),(26,.int .i64 ((i8:Int)))]) (fun i8 (s8:(List (List Range)))=>[(1,.cells [.int .i64 (p0.Places),roL 7 zaC p0.Ways]),(507,bufL 98 1 zac s8)]) (.cons .q (.cons .q (.cons .q (.cons .qb (.cons .qi (.cons .qi .nil)))))) (.cons .q (.cons .q .nil)) (fun k8 i8 s8 hle8 H1 H2 K0 hK8=>?_)
   refine W.rg env [1,5,6,7,25,26,27] [1,507] ?_
   refine W.seq ?_
   refine W.cond rfl (fun hb9=>?_) (fun hb9=>?_)
   · have hi8:i8<(p0.Places).toNat:=by have:=of_decide_eq_true hb9;omega
     have H:=H1 hi8
     refine W.skip ?_
     refine At.zad ?_
     refine W.seq ?_
     refine W.block ?_
     refine W.rg env [1,5,6,7,8,25,26] [1,507] ?_
     refine W.rg env [1,5,6,7,8,9,25,26] [1,507] ?_
     refine W.seq ?_
     refine W.rg env [1,5,6,7,8,9,25,26,30,31] [1,507] ?_
     refine W.block ?_
     refine At.zeR 9 509 39 2 (e:=fun i=>zdG (([]:List Range).getD i default)) rfl rfl ?_
     refine At.keep (ts:=[1,5,6,7,8,9,25,26,30,31]) (ids:=[1,507,509]) rfl rfl ?_
     obtain ⟨hn10,H⟩:=zab H
     refine W.zah H (fun i10 (s10:(List Range))=>[(1,.lp 1 0),(5,roL 1 zaj y4),(6,roL 1 zaj y6),(7,.buf 507 (s8).length),(8,.int .i64 ((i8:Int))),(9,.buf 509 (s10).length),(25,.int .i64 (p0.Places)),(26,.int .i64 ((i8:Int))),(30,.int .i64 (p0.Places)),(31,.int .i64 ((i10:Int)))]) (fun i10 (s10:(List Range))=>[(1,.cells [.int .i64 (p0.Places),roL 7 zaC p0.Ways]),(507,bufL 98 1 zac s8),(509,bufL 39 2 zdG s10)]) (.cons .q (.cons .q (.cons .q (.cons .qb (.cons .qi (.cons .qb (.cons .qi (.cons .qi (.cons .qi (.cons .qi .nil)))))))))) (.cons .q (.cons .q (.cons .q .nil))) (fun k10 i10 s10 hle10 H1 H2 K0 hK10=>?_)
     refine W.rg env [1,5,6,7,8,9,25,26,30,31,32] [1,507,509] ?_
     refine W.seq ?_
     refine W.cond rfl (fun hb11=>?_) (fun hb11=>?_)
     · have hi10:i10<(p0.Places).toNat:=by have:=of_decide_eq_true hb11;omega
       have H:=H1 hi10
       refine W.skip ?_
       refine At.zad ?_
       refine W.seq ?_
       refine W.block ?_
       refine W.rg env [1,5,6,7,8,9,10,25,26,30,31] [1,507,509] ?_
       refine W.seq ?_
       obtain ⟨hc12,H⟩:=zab H
       obtain ⟨hc13,H⟩:=zab H
       obtain ⟨hc14,H⟩:=zab H
       obtain ⟨hc15,H⟩:=zab H
       refine W.sr env [] [] [1,5,6,7,8,9,10,25,26,30,31,51] [1,507,509] rfl rfl rfl (.cons hc12 (.cons hc13 (.cons hc14 (.cons id (.cons id (.cons id (.cons hc15 (.cons id (.cons id (.cons id (.cons id (.cons (fun h=>by rw [h];rfl) .nil)))))))))))) .nil ?_
       refine W.cond rfl (fun hb16=>?_) (fun hb16=>?_)
       · have H:=zai H hb16
         refine W.rg env [2,3] [] ?_
         refine W.ret ?_
         refine At.rthen ?_
         refine At.rinb ?_
         refine At.rthen ?_
         refine At.rthen ?_
         refine At.rinb ?_
         refine At.rthen ?_
         refine At.rinb ?_
         refine At.rthen ?_
         refine At.rthen ?_
         refine At.rinb ?_
         refine At.rthen ?_
         cases H
         exact At.ret env.ty rfl rfl nofun (Sim.tupL (.cons (Sim.nil _ _) (.cons (.refl _) .nil))) hval
       · have H:=zag H hb16
         refine W.skip ?_
         refine At.zad ?_
         obtain ⟨hc17,H⟩:=zab H
         obtain ⟨hc18,H⟩:=zab H
         obtain ⟨hc19,H⟩:=zab H
         obtain ⟨hc20,H⟩:=zab H
         obtain ⟨hc21,H⟩:=zab H
         refine W.region env [] [] rfl rfl (by first|rfl|kernel_rfl) (.cons hc17 (.cons hc18 (.cons hc19 (.cons hc20 (.cons (⟨by first|rfl|(simp;done)|omega|(simp;omega),by have:=hc21;first|simpa using this|(unfold room at this ⊢;simp at this ⊢;omega)⟩) .nil))))) .nil (At.keep (ts:=[1,5,6,7,8,9,25,26,30,31]) (ids:=[1,507,509]) rfl rfl ?_)
         refine At.zbo (.cons (.refl _) (.cons (.refl _) (.cons (y:=bufL 39 2 zdG (s10++([(⟨((y4.getD i8 default).getD i10 default),((y6.getD i8 default).getD i10 default)⟩:Range)]:List Range))) (BSim.seg (Seg.push (Seg.refl zdG _) (Seg.lit (f:=zdG) (sz:=2) ([(⟨((y4.getD i8 default).getD i10 default),((y6.getD i8 default).getD i10 default)⟩:Range)]:List Range) rfl rfl (fun _=>rfl)))) .nil))) ?_
         refine At.inb ?_
         refine At.zad ?_
         refine W.region env [] [] rfl rfl rfl (.cons (by unfold inI;have:=hn10;(try unfold maxLen at this);omega) .nil) .nil (At.keep (ts:=[1,5,6,7,8,9,25,26,30,31]) (ids:=[1,507,509]) rfl rfl ?_)
         refine At.zaE (At.keep (ts:=[1,5,6,7,8,9,25,26,30,31]) (ids:=[1,507,509]) rfl rfl ?_)
         exact At.conv (.cons .q (.cons .q (.cons .q (.cons .qb (.cons .qi (.cons .qb (.cons .qi (.cons .qi (.cons .qi (.cons .qi .nil)))))))))) (.cons .q (.cons .q (.cons .q .nil))) (hK10 hi10 (s10++([(⟨((y4.getD i8 default).getD i10 default),((y6.getD i8 default).getD i10 default)⟩:Range)]:List Range)) H)
     · have H:=H2 (by have:=of_decide_eq_false hb11;omega)
       refine W.exit ?_
       refine At.xthen ?_
       refine At.xthen ?_
       refine At.xhere ?_
       refine At.zad ?_
       refine At.freeze 9 509 (K:=[1,507]) (ts:=[1,5,6,7,25,26]) rfl rfl (by first|rfl|(simp;done)|omega|(simp;omega)) rfl rfl rfl (fun _ h=>h) ?_
       obtain ⟨hc22,H⟩:=zab H
       refine W.region env [] [] rfl rfl rfl (.cons (⟨by first|rfl|(simp;done)|omega|(simp;omega),by have:=hc22;first|simpa using this|(unfold room at this ⊢;simp at this ⊢;omega)⟩) .nil) .nil (At.keep (ts:=[1,5,6,7,25,26]) (ids:=[1,507]) rfl rfl ?_)
       refine At.zbo (.cons (.refl _) (.cons (y:=bufL 98 1 zac (s8++([s10]:List (List Range)))) (BSim.seg (Seg.push (Seg.refl zac _) (Seg.lit (f:=zac) (sz:=1) ([s10]:List (List Range)) rfl rfl (fun _=>rfl)))) .nil)) ?_
       refine At.inb ?_
       refine At.zad ?_
       refine W.region env [] [] rfl rfl rfl (.cons (by unfold inI;have:=hn8;(try unfold maxLen at this);omega) .nil) .nil (At.keep (ts:=[1,5,6,7,25,26]) (ids:=[1,507]) rfl rfl ?_)
       refine At.zaE (At.keep (ts:=[1,5,6,7,25,26]) (ids:=[1,507]) rfl rfl ?_)
       exact At.conv (.cons .q (.cons .q (.cons .q (.cons .qb (.cons .qi (.cons .qi .nil)))))) (.cons .q (.cons .q .nil)) (hK8 hi8 (s8++([s10]:List (List Range))) H)
   · have H:=H2 (by have:=of_decide_eq_false hb9;omega)
     refine W.exit ?_
     refine At.xthen ?_
     refine At.xthen ?_
     refine At.xhere ?_
     refine At.zad ?_
     refine W.rg env [2,3] [507] ?_
     refine W.ret ?_
     cases H
     exact At.ret env.ty rfl rfl (fun q hq=>by cases hq;exact (by first|rfl|(simp;done)|omega|(simp;omega))) (.refl _) hval
theorem zcq (p0:Int) (p1:Int) (p2:Int):Ctr Tryz.prog 50 [.int .i64 (p0),.int .i64 (p1),.int .i64 (p2)] (.bool ((zaH p0 p1 p2))):=by
 obtain ⟨r,H⟩:∃ r,zaH p0 p1 p2=r:=⟨_,rfl⟩
 rw [H]
 unfold zaH at H
 refine Ctr.zan (N:=15) Tryz.func50 (by kernel_rfl) (c:=_) rfl Tryz.ntmps50 rfl (fun w0 h0 hval=>?_)
 refine W.rg env [0,1,2] [] ?_
 refine W.sr env [] [] [6] [] rfl rfl rfl (.cons id (.cons id (.cons id .nil))) .nil ?_
 refine W.ret ?_
 cases H
 exact At.ret env.ty rfl rfl nofun (.refl _) hval
theorem zh4 (p0:(List (List Range))) {r:Bool} (H:zcY p0=some r):Ctr Tryz.prog 46 [roL 1 zac p0] (.bool (r)):=by
 unfold zcY at H
 refine Ctr.zan (N:=124) Tryz.func46 (by kernel_rfl) (c:=_) rfl Tryz.ntmps46 rfl (fun w0 h0 hval=>?_)
 refine W.rg env [0] [] ?_
 refine W.seq ?_
 refine W.rg env [0,12] [] ?_
 refine W.cond rfl (fun hb1=>?_) (fun hb1=>?_)
 · have H:=zai H hb1
   refine W.rg env [2] [] ?_
   refine W.ret ?_
   refine At.rthen ?_
   cases H
   exact At.ret env.ty rfl rfl nofun (.refl _) hval
 · have H:=zag H hb1
   refine W.skip ?_
   refine At.zad ?_
   refine W.seq ?_
   refine W.rg env [0,13,14,15] [] ?_
   refine W.block ?_
   refine At.keep (ts:=[0,13,14,15]) (ids:=[]) rfl rfl ?_
   refine W.len (t:=13) rfl (fun (hn2:p0.length≤maxLen)=>?_)
   refine W.zah H (fun i2 (s2:Unit)=>[(0,roL 1 zac p0),(13,roL 1 zac p0),(14,.int .i64 (((p0.length:Nat):Int))),(15,.int .i64 ((i2:Int)))]) (fun i2 (s2:Unit)=>[]) (.cons .q (.cons .q (.cons .qi (.cons .qi .nil)))) .nil (fun k2 i2 s2 hle2 H1 H2 K0 hK2=>?_)
   refine W.rg env [0,13,14,15,16] [] ?_
   refine W.seq ?_
   refine W.cond rfl (fun hb3=>?_) (fun hb3=>?_)
   · have hi2:i2<p0.length:=by have:=of_decide_eq_true hb3;omega
     have H:=H1 hi2
     refine W.skip ?_
     refine At.zad ?_
     refine W.seq ?_
     refine W.block ?_
     refine W.sr env [] [] [0,3,4,13,14,15] [] rfl rfl rfl (.cons (⟨by omega,by omega⟩:0≤(i2:Int)∧(i2:Int)<((p0.length:Nat):Int)) .nil) .nil ?_
     refine W.seq ?_
     obtain ⟨hc4,H⟩:=zab H
     refine W.sr env [] [] [0,4,13,14,15,32] [] rfl rfl rfl (.cons hc4 (.cons id (.cons id (.cons id (.cons id (.cons id (.cons (fun h=>by rw [h];rfl) .nil))))))) .nil ?_
     refine W.cond rfl (fun hb5=>?_) (fun hb5=>?_)
     · have H:=zai H hb5
       refine W.rg env [2] [] ?_
       refine W.ret ?_
       refine At.rthen ?_
       refine At.rinb ?_
       refine At.rthen ?_
       refine At.rthen ?_
       refine At.rinb ?_
       refine At.rthen ?_
       cases H
       exact At.ret env.ty rfl rfl nofun (.refl _) hval
     · have H:=zag H hb5
       refine W.skip ?_
       refine At.zad ?_
       refine W.rg env [0,13,14,15,33,34,35] [] ?_
       refine W.block ?_
       refine At.keep (ts:=[0,13,14,15,33,34,35]) (ids:=[]) rfl rfl ?_
       refine W.len (t:=33) rfl (fun (hn6:(p0.getD i2 default).length≤maxLen)=>?_)
       refine W.zah H (fun i6 (s6:Unit)=>[(0,roL 1 zac p0),(13,roL 1 zac p0),(14,.int .i64 (((p0.length:Nat):Int))),(15,.int .i64 ((i2:Int))),(33,roL 2 zdG (p0.getD i2 default)),(34,.int .i64 ((((p0.getD i2 default).length:Nat):Int))),(35,.int .i64 ((i6:Int)))]) (fun i6 (s6:Unit)=>[]) (.cons .q (.cons .q (.cons .qi (.cons .qi (.cons .q (.cons .qi (.cons .qi .nil))))))) .nil (fun k6 i6 s6 hle6 H1 H2 K0 hK6=>?_)
       refine W.rg env [0,13,14,15,33,34,35,36] [] ?_
       refine W.seq ?_
       refine W.cond rfl (fun hb7=>?_) (fun hb7=>?_)
       · have hi6:i6<(p0.getD i2 default).length:=by have:=of_decide_eq_true hb7;omega
         have H:=H1 hi6
         refine W.skip ?_
         refine At.zad ?_
         refine W.seq ?_
         refine W.block ?_
         refine W.sr env [] [] [0,6,13,14,15,33,34,35] [6] rfl rfl rfl (.cons (⟨by omega,by omega⟩:0≤(i6:Int)∧(i6:Int)<(((p0.getD i2 default).length:Nat):Int)) .nil) .nil ?_
         refine W.sr env [] [⟨.bool ((zaH (((p0.getD i2 default).getD i6 default).Lo) 0 (((p0.getD i2 default).getD i6 default).Hi))),[],0,[]⟩] [0,13,14,15,33,34,35,49] [] rfl rfl rfl (.cons id (.cons id (.cons (fun h=>by rw [h];rfl) .nil))) (.free (zcq (((p0.getD i2 default).getD i6 default).Lo) 0 (((p0.getD i2 default).getD i6 default).Hi)) .nil) ?_
         refine W.cond rfl (fun hb8=>?_) (fun hb8=>?_)
         · have H:=zai H hb8
           refine W.rg env [2] [] ?_
           refine W.ret ?_
           refine At.rinb ?_
           refine At.rthen ?_
           refine At.rthen ?_
           refine At.rinb ?_
           refine At.rinb ?_
           refine At.rthen ?_
           refine At.rthen ?_
           refine At.rinb ?_
           refine At.rthen ?_
           cases H
           exact At.ret env.ty rfl rfl nofun (.refl _) hval
         · have H:=zag H hb8
           refine W.skip ?_
           refine At.inb ?_
           refine At.zad ?_
           refine W.region env [] [] rfl rfl rfl (.cons (by unfold inI;have:=hn6;(try unfold maxLen at this);omega) .nil) .nil (At.keep (ts:=[0,13,14,15,33,34,35]) (ids:=[]) rfl rfl ?_)
           refine At.zaE (At.keep (ts:=[0,13,14,15,33,34,35]) (ids:=[]) rfl rfl ?_)
           exact At.conv (.cons .q (.cons .q (.cons .qi (.cons .qi (.cons .q (.cons .qi (.cons .qi .nil))))))) .nil (hK6 hi6 () H)
       · have H:=H2 (by have:=of_decide_eq_false hb7;omega)
         refine W.exit ?_
         refine At.xthen ?_
         refine At.xthen ?_
         refine At.xhere ?_
         refine At.inb ?_
         refine At.zad ?_
         refine W.region env [] [] rfl rfl rfl (.cons (by unfold inI;have:=hn2;(try unfold maxLen at this);omega) .nil) .nil (At.keep (ts:=[0,13,14,15]) (ids:=[]) rfl rfl ?_)
         refine At.zaE (At.keep (ts:=[0,13,14,15]) (ids:=[]) rfl rfl ?_)
         exact At.conv (.cons .q (.cons .q (.cons .qi (.cons .qi .nil)))) .nil (hK2 hi2 () H)
   · have H:=H2 (by have:=of_decide_eq_false hb3;omega)
     refine W.exit ?_
     refine At.xthen ?_
     refine At.xthen ?_
     refine At.xhere ?_
     refine At.zad ?_
     refine W.seq ?_
     refine W.rg env [0,53,54] [] ?_
     refine W.block ?_
     refine At.keep (ts:=[0,53,54]) (ids:=[]) rfl rfl ?_
     refine W.len (t:=0) rfl (fun (hn9:p0.length≤maxLen)=>?_)
     refine W.zah H (fun i9 (s9:Unit)=>[(0,roL 1 zac p0),(53,.int .i64 (((p0.length:Nat):Int))),(54,.int .i64 ((i9:Int)))]) (fun i9 (s9:Unit)=>[]) (.cons .q (.cons .qi (.cons .qi .nil))) .nil (fun k9 i9 s9 hle9 H1 H2 K0 hK9=>?_)
     refine W.rg env [0,53,54,55] [] ?_
     refine W.seq ?_
     refine W.cond rfl (fun hb10=>?_) (fun hb10=>?_)
     · have hi9:i9<p0.length:=by have:=of_decide_eq_true hb10;omega
       have H:=H1 hi9
       refine W.skip ?_
       refine At.zad ?_
       refine W.seq ?_
       refine W.block ?_
       refine W.rg env [0,7,53,54] [] ?_
       refine W.rg env [0,7,53,54,58,59] [] ?_
       refine W.block ?_
       refine At.keep (ts:=[0,7,53,54,58,59]) (ids:=[]) rfl rfl ?_
       refine W.len (t:=0) rfl (fun (hn11:p0.length≤maxLen)=>?_)
       refine W.zah H (fun i11 (s11:Unit)=>[(0,roL 1 zac p0),(7,.int .i64 ((i9:Int))),(53,.int .i64 (((p0.length:Nat):Int))),(54,.int .i64 ((i9:Int))),(58,.int .i64 (((p0.length:Nat):Int))),(59,.int .i64 ((i11:Int)))]) (fun i11 (s11:Unit)=>[]) (.cons .q (.cons .qi (.cons .qi (.cons .qi (.cons .qi (.cons .qi .nil)))))) .nil (fun k11 i11 s11 hle11 H1 H2 K0 hK11=>?_)
       refine W.rg env [0,7,53,54,58,59,60] [] ?_
       refine W.seq ?_
       refine W.cond rfl (fun hb12=>?_) (fun hb12=>?_)
       · have hi11:i11<p0.length:=by have:=of_decide_eq_true hb12;omega
         have H:=H1 hi11
         refine W.skip ?_
         refine At.zad ?_
         refine W.seq ?_
         refine W.block ?_
         refine W.rg env [0,7,8,53,54,58,59] [] ?_
         refine W.rg env [0,7,8,53,54,58,59,63,64] [] ?_
         refine W.block ?_
         refine At.keep (ts:=[0,7,8,53,54,58,59,63,64]) (ids:=[]) rfl rfl ?_
         refine W.len (t:=0) rfl (fun (hn13:p0.length≤maxLen)=>?_)
         refine W.zah H (fun i13 (s13:Unit)=>[(0,roL 1 zac p0),(7,.int .i64 ((i9:Int))),(8,.int .i64 ((i11:Int))),(53,.int .i64 (((p0.length:Nat):Int))),(54,.int .i64 ((i9:Int))),(58,.int .i64 (((p0.length:Nat):Int))),(59,.int .i64 ((i11:Int))),(63,.int .i64 (((p0.length:Nat):Int))),(64,.int .i64 ((i13:Int)))]) (fun i13 (s13:Unit)=>[]) (.cons .q (.cons .qi (.cons .qi (.cons .qi (.cons .qi (.cons .qi (.cons .qi (.cons .qi (.cons .qi .nil))))))))) .nil (fun k13 i13 s13 hle13 H1 H2 K0 hK13=>?_)
         refine W.rg env [0,7,8,53,54,58,59,63,64,65] [] ?_
         refine W.seq ?_
         refine W.cond rfl (fun hb14=>?_) (fun hb14=>?_)
         · have hi13:i13<p0.length:=by have:=of_decide_eq_true hb14;omega
           have H:=H1 hi13
           refine W.skip ?_
           refine At.zad ?_
           refine W.seq ?_
           refine W.block ?_
           refine W.rg env [0,7,8,9,53,54,58,59,63,64] [] ?_
           obtain ⟨hc15,H⟩:=zab H
           obtain ⟨hc16,H⟩:=zab H
           obtain ⟨hc17,H⟩:=zab H
           obtain ⟨hc18,H⟩:=zab H
           obtain ⟨hc19,H⟩:=zab H
           obtain ⟨hc20,H⟩:=zab H
           obtain ⟨hc21,H⟩:=zab H
           obtain ⟨hc22,H⟩:=zab H
           refine W.sr env [] [] [0,7,8,53,54,58,59,63,64,120] [] rfl rfl (by first|rfl|kernel_rfl) (.cons (⟨by omega,by omega⟩:0≤(i9:Int)∧(i9:Int)<((p0.length:Nat):Int)) (.cons hc15 (.cons (⟨by omega,by omega⟩:0≤(i9:Int)∧(i9:Int)<((p0.length:Nat):Int)) (.cons hc16 (.cons (⟨by omega,by omega⟩:0≤(i11:Int)∧(i11:Int)<((p0.length:Nat):Int)) (.cons hc17 (.cons hc18 (.cons (fun _=>(⟨by omega,by omega⟩:0≤(i9:Int)∧(i9:Int)<((p0.length:Nat):Int))) (.cons id (.cons id (.cons id (.cons hc19 (.cons id (.cons id (.cons id (.cons id (.cons (fun _=>(⟨by omega,by omega⟩:0≤(i9:Int)∧(i9:Int)<((p0.length:Nat):Int))) (.cons id (.cons id (.cons id (.cons hc20 (.cons id (.cons id (.cons id (.cons id (.cons (fun _=>(⟨by omega,by omega⟩:0≤(i11:Int)∧(i11:Int)<((p0.length:Nat):Int))) (.cons id (.cons id (.cons id (.cons hc21 (.cons id (.cons id (.cons id (.cons id (.cons hc22 (.cons id (.cons id (.cons id (.cons id (.cons (fun h=>by rw [h];rfl) .nil)))))))))))))))))))))))))))))))))))))))) .nil ?_
           refine W.cond rfl (fun hb23=>?_) (fun hb23=>?_)
           · have H:=zai H hb23
             refine W.rg env [2] [] ?_
             refine W.ret ?_
             refine At.rinb ?_
             refine At.rthen ?_
             refine At.rthen ?_
             refine At.rinb ?_
             refine At.rinb ?_
             refine At.rthen ?_
             refine At.rthen ?_
             refine At.rinb ?_
             refine At.rinb ?_
             refine At.rthen ?_
             refine At.rthen ?_
             refine At.rinb ?_
             refine At.rthen ?_
             cases H
             exact At.ret env.ty rfl rfl nofun (.refl _) hval
           · have H:=zag H hb23
             refine W.skip ?_
             refine At.inb ?_
             refine At.zad ?_
             refine W.region env [] [] rfl rfl rfl (.cons (by unfold inI;have:=hn13;(try unfold maxLen at this);omega) .nil) .nil (At.keep (ts:=[0,7,8,53,54,58,59,63,64]) (ids:=[]) rfl rfl ?_)
             refine At.zaE (At.keep (ts:=[0,7,8,53,54,58,59,63,64]) (ids:=[]) rfl rfl ?_)
             exact At.conv (.cons .q (.cons .qi (.cons .qi (.cons .qi (.cons .qi (.cons .qi (.cons .qi (.cons .qi (.cons .qi .nil))))))))) .nil (hK13 hi13 () H)
         · have H:=H2 (by have:=of_decide_eq_false hb14;omega)
           refine W.exit ?_
           refine At.xthen ?_
           refine At.xthen ?_
           refine At.xhere ?_
           refine At.inb ?_
           refine At.zad ?_
           refine W.region env [] [] rfl rfl rfl (.cons (by unfold inI;have:=hn11;(try unfold maxLen at this);omega) .nil) .nil (At.keep (ts:=[0,7,53,54,58,59]) (ids:=[]) rfl rfl ?_)
           refine At.zaE (At.keep (ts:=[0,7,53,54,58,59]) (ids:=[]) rfl rfl ?_)
           exact At.conv (.cons .q (.cons .qi (.cons .qi (.cons .qi (.cons .qi (.cons .qi .nil)))))) .nil (hK11 hi11 () H)
       · have H:=H2 (by have:=of_decide_eq_false hb12;omega)
         refine W.exit ?_
         refine At.xthen ?_
         refine At.xthen ?_
         refine At.xhere ?_
         refine At.inb ?_
         refine At.zad ?_
         refine W.region env [] [] rfl rfl rfl (.cons (by unfold inI;have:=hn9;(try unfold maxLen at this);omega) .nil) .nil (At.keep (ts:=[0,53,54]) (ids:=[]) rfl rfl ?_)
         refine At.zaE (At.keep (ts:=[0,53,54]) (ids:=[]) rfl rfl ?_)
         exact At.conv (.cons .q (.cons .qi (.cons .qi .nil))) .nil (hK9 hi9 () H)
     · have H:=H2 (by have:=of_decide_eq_false hb10;omega)
       refine W.exit ?_
       refine At.xthen ?_
       refine At.xthen ?_
       refine At.xhere ?_
       refine At.zad ?_
       refine W.rg env [2] [] ?_
       refine W.ret ?_
       cases H
       exact At.ret env.ty rfl rfl nofun (.refl _) hval
theorem ze2 (p0:Int):Ctr Tryz.prog 92 [.int .i64 (p0)] (.bool ((zbx p0))):=by
 obtain ⟨r,H⟩:∃ r,zbx p0=r:=⟨_,rfl⟩
 rw [H]
 unfold zbx at H
 refine Ctr.zan (N:=5) Tryz.func92 (by kernel_rfl) (c:=_) rfl Tryz.ntmps92 rfl (fun w0 h0 hval=>?_)
 refine W.rg env [0] [] ?_
 refine W.sr env [] [⟨.bool ((zaH p0 0 1439)),[],0,[]⟩] [2] [] rfl rfl rfl .nil (.free (zcq p0 0 1439) .nil) ?_
 refine W.ret ?_
 cases H
 exact At.ret env.ty rfl rfl nofun (.refl _) hval
theorem zgY (p0:Task):Ctr Tryz.prog 47 [.agg [.int .i64 (p0.Lamp),.int .i64 (p0.Place),.int .i64 (p0.At),.int .i64 (p0.Serve)]] (.int .i64 ((zbg p0))):=by
 obtain ⟨r,H⟩:∃ r,zbg p0=r:=⟨_,rfl⟩
 rw [H]
 unfold zbg at H
 refine Ctr.zan (N:=25) Tryz.func47 (by kernel_rfl) (c:=_) rfl Tryz.ntmps47 rfl (fun w0 h0 hval=>?_)
 refine W.rg env [1] [1] ?_
 refine W.seq ?_
 refine W.sr env [] [⟨.bool ((zaH p0.Lamp 1 999)),[],0,[]⟩,⟨.bool ((zaH p0.Place 0 11)),[],0,[]⟩,⟨.bool ((zbx p0.At)),[],0,[]⟩,⟨.bool ((zaH p0.Serve 1 120)),[],0,[]⟩] [24] [] rfl rfl rfl (.cons id (.cons id (.cons id (.cons (fun h=>by rw [h];rfl) (.cons id (.cons id (.cons id (.cons (fun h=>by rw [h];rfl) (.cons id (.cons id (.cons id (.cons (fun h=>by rw [h];rfl) .nil)))))))))))) (.free (zcq p0.Lamp 1 999) (.on (fun hW=>zcq p0.Place 0 11) (.on (fun hW=>ze2 p0.At) (.on (fun hW=>zcq p0.Serve 1 120) .nil)))) ?_
 refine W.cond rfl (fun hb1=>?_) (fun hb1=>?_)
 · have H:=zai H hb1
   refine W.rg env [2] [] ?_
   refine W.ret ?_
   refine At.rthen ?_
   cases H
   exact At.ret env.ty rfl rfl nofun (.refl _) hval
 · have H:=zag H hb1
   refine W.skip ?_
   refine At.zad ?_
   refine W.rg env [2] [] ?_
   refine W.ret ?_
   cases H
   exact At.ret env.ty rfl rfl nofun (.refl _) hval
theorem zgZ (p0:Hand):Ctr Tryz.prog 48 [.agg [.int .i64 (p0.Id),.int .i64 (p0.From),.int .i64 (p0.To)]] (.int .i64 ((zbh p0))):=by
 obtain ⟨r,H⟩:∃ r,zbh p0=r:=⟨_,rfl⟩
 rw [H]
 unfold zbh at H
 refine Ctr.zan (N:=21) Tryz.func48 (by kernel_rfl) (c:=_) rfl Tryz.ntmps48 rfl (fun w0 h0 hval=>?_)
 refine W.rg env [1] [1] ?_
 refine W.seq ?_
 refine W.sr env [] [⟨.bool ((zaH p0.Id 1 99)),[],0,[]⟩,⟨.bool ((zbx p0.From)),[],0,[]⟩,⟨.bool ((zaH p0.To p0.From 1439)),[],0,[]⟩] [20] [] rfl rfl rfl (.cons id (.cons id (.cons id (.cons (fun h=>by rw [h];rfl) (.cons id (.cons id (.cons id (.cons id (.cons id (.cons (fun h=>by rw [h];rfl) .nil)))))))))) (.free (zcq p0.Id 1 99) (.on (fun hW=>ze2 p0.From) (.on (fun hW=>zcq p0.To p0.From 1439) .nil))) ?_
 refine W.cond rfl (fun hb1=>?_) (fun hb1=>?_)
 · have H:=zai H hb1
   refine W.rg env [2] [] ?_
   refine W.ret ?_
   refine At.rthen ?_
   cases H
   exact At.ret env.ty rfl rfl nofun (.refl _) hval
 · have H:=zag H hb1
   refine W.skip ?_
   refine At.zad ?_
   refine W.rg env [2] [] ?_
   refine W.ret ?_
   cases H
   exact At.ret env.ty rfl rfl nofun (.refl _) hval
theorem zcT (p0:Crew) {r:Int} (H:zb3 p0=some r):Ctr Tryz.prog 14 [.agg [roL 4 zal p0.Tasks,roL 1 zac p0.Travel,roL 3 zak p0.Hands]] (.int .i64 (r)):=by
 unfold zb3 at H
 refine Ctr.zan (N:=87) Tryz.func14 (by kernel_rfl) (c:=_) rfl Tryz.ntmps14 rfl (fun w0 h0 hval=>?_)
 refine W.rg env [1] [1] ?_
 refine W.seq ?_
 refine W.seq ?_
 obtain ⟨y1,hy2,H⟩:=zaf H
 refine W.region env [] [⟨.bool (y1),[],0,[]⟩] rfl rfl rfl (.cons id (.cons id (.cons id (.cons (fun h=>by rw [h];rfl) (.cons id (.cons id (.cons id (.cons (fun h=>by rw [h];rfl) .nil)))))))) (.on (fun hW=>zh4 p0.Travel (zai hy2 hW)) .nil) (At.keep (ts:=[1,22]) (ids:=[1]) rfl rfl ?_)
 refine At.zad ?_
 refine W.cond rfl (fun hb3=>?_) (fun hb3=>?_)
 · have H:=zai H hb3
   refine W.rg env [2] [] ?_
   refine W.ret ?_
   refine At.rthen ?_
   cases H
   exact At.ret env.ty rfl rfl nofun (.refl _) hval
 · have H:=zag H hb3
   refine W.skip ?_
   refine At.zad ?_
   refine W.seq ?_
   refine W.rg env [1,24,25,26] [1] ?_
   refine W.block ?_
   refine At.keep (ts:=[1,24,25,26]) (ids:=[1]) rfl rfl ?_
   refine W.len (t:=24) rfl (fun (hn4:p0.Tasks.length≤maxLen)=>?_)
   refine W.zah H (fun i4 (s4:Unit)=>[(1,.lp 1 0),(24,roL 4 zal p0.Tasks),(25,.int .i64 (((p0.Tasks.length:Nat):Int))),(26,.int .i64 ((i4:Int)))]) (fun i4 (s4:Unit)=>[(1,.cells [roL 4 zal p0.Tasks,roL 1 zac p0.Travel,roL 3 zak p0.Hands])]) (.cons .q (.cons .q (.cons .qi (.cons .qi .nil)))) (.cons .q .nil) (fun k4 i4 s4 hle4 H1 H2 K0 hK4=>?_)
   refine W.rg env [1,24,25,26,27] [1] ?_
   refine W.seq ?_
   refine W.cond rfl (fun hb5=>?_) (fun hb5=>?_)
   · have hi4:i4<p0.Tasks.length:=by have:=of_decide_eq_true hb5;omega
     have H:=H1 hi4
     refine W.skip ?_
     refine At.zad ?_
     refine W.seq ?_
     refine W.block ?_
     refine W.sr env [] [] [1,3,4,24,25,26] [1,4] rfl rfl rfl (.cons (⟨by omega,by omega⟩:0≤(i4:Int)∧(i4:Int)<((p0.Tasks.length:Nat):Int)) .nil) .nil ?_
     obtain ⟨hc6,H⟩:=zab H
     obtain ⟨hc7,H⟩:=zab H
     refine W.sr env [] [⟨.int .i64 ((zbg (p0.Tasks.getD i4 default))),[],0,[]⟩] [1,24,25,26,57] [1] rfl rfl (by kernel_rfl) (.cons id (.cons id (.cons id (.cons id (.cons id (.cons (fun h=>by rw [h];rfl) (.cons id (.cons id (.cons id (.cons hc6 (.cons id (.cons hc7 (.cons id (.cons id (.cons id (.cons id (.cons id (.cons id (.cons id (.cons id (.cons (fun hW h=>by revert hW h;first|(simp +contextual;done)|grind) (.cons (fun h=>by rw [h];rfl) .nil)))))))))))))))))))))) (.free (zgY (p0.Tasks.getD i4 default)) .nil) ?_
     refine W.cond rfl (fun hb8=>?_) (fun hb8=>?_)
     · have H:=zai H hb8
       refine W.rg env [2] [] ?_
       refine W.ret ?_
       refine At.rinb ?_
       refine At.rthen ?_
       refine At.rthen ?_
       refine At.rinb ?_
       refine At.rthen ?_
       cases H
       exact At.ret env.ty rfl rfl nofun (.refl _) hval
     · have H:=zag H hb8
       refine W.skip ?_
       refine At.inb ?_
       refine At.zad ?_
       refine W.region env [] [] rfl rfl rfl (.cons (by unfold inI;have:=hn4;(try unfold maxLen at this);omega) .nil) .nil (At.keep (ts:=[1,24,25,26]) (ids:=[1]) rfl rfl ?_)
       refine At.zaE (At.keep (ts:=[1,24,25,26]) (ids:=[1]) rfl rfl ?_)
       exact At.conv (.cons .q (.cons .q (.cons .qi (.cons .qi .nil)))) (.cons .q .nil) (hK4 hi4 () H)
   · have H:=H2 (by have:=of_decide_eq_false hb5;omega)
     refine W.exit ?_
     refine At.xthen ?_
     refine At.xthen ?_
     refine At.xhere ?_
     refine At.zad ?_
     refine W.seq ?_
     refine W.rg env [1,60,61,62] [1] ?_
     refine W.block ?_
     refine At.keep (ts:=[1,60,61,62]) (ids:=[1]) rfl rfl ?_
     refine W.len (t:=60) rfl (fun (hn9:p0.Hands.length≤maxLen)=>?_)
     refine W.zah H (fun i9 (s9:Unit)=>[(1,.lp 1 0),(60,roL 3 zak p0.Hands),(61,.int .i64 (((p0.Hands.length:Nat):Int))),(62,.int .i64 ((i9:Int)))]) (fun i9 (s9:Unit)=>[(1,.cells [roL 4 zal p0.Tasks,roL 1 zac p0.Travel,roL 3 zak p0.Hands])]) (.cons .q (.cons .q (.cons .qi (.cons .qi .nil)))) (.cons .q .nil) (fun k9 i9 s9 hle9 H1 H2 K0 hK9=>?_)
     refine W.rg env [1,60,61,62,63] [1] ?_
     refine W.seq ?_
     refine W.cond rfl (fun hb10=>?_) (fun hb10=>?_)
     · have hi9:i9<p0.Hands.length:=by have:=of_decide_eq_true hb10;omega
       have H:=H1 hi9
       refine W.skip ?_
       refine At.zad ?_
       refine W.seq ?_
       refine W.block ?_
       refine W.sr env [] [] [1,5,6,60,61,62] [1,6] rfl rfl rfl (.cons (⟨by omega,by omega⟩:0≤(i9:Int)∧(i9:Int)<((p0.Hands.length:Nat):Int)) .nil) .nil ?_
       obtain ⟨hc11,H⟩:=zab H
       obtain ⟨hc12,H⟩:=zab H
       refine W.sr env [] [⟨.int .i64 ((zbh (p0.Hands.getD i9 default))),[],0,[]⟩] [1,60,61,62,85] [1] rfl rfl (by kernel_rfl) (.cons id (.cons id (.cons id (.cons hc11 (.cons id (.cons hc12 (.cons id (.cons id (.cons id (.cons id (.cons id (.cons id (.cons id (.cons id (.cons (fun hW h=>by revert hW h;first|(simp +contextual;done)|grind) (.cons (fun h=>by rw [h];rfl) .nil)))))))))))))))) (.free (zgZ (p0.Hands.getD i9 default)) .nil) ?_
       refine W.cond rfl (fun hb13=>?_) (fun hb13=>?_)
       · have H:=zai H hb13
         refine W.rg env [2] [] ?_
         refine W.ret ?_
         refine At.rinb ?_
         refine At.rthen ?_
         refine At.rthen ?_
         refine At.rinb ?_
         refine At.rthen ?_
         cases H
         exact At.ret env.ty rfl rfl nofun (.refl _) hval
       · have H:=zag H hb13
         refine W.skip ?_
         refine At.inb ?_
         refine At.zad ?_
         refine W.region env [] [] rfl rfl rfl (.cons (by unfold inI;have:=hn9;(try unfold maxLen at this);omega) .nil) .nil (At.keep (ts:=[1,60,61,62]) (ids:=[1]) rfl rfl ?_)
         refine At.zaE (At.keep (ts:=[1,60,61,62]) (ids:=[1]) rfl rfl ?_)
         exact At.conv (.cons .q (.cons .q (.cons .qi (.cons .qi .nil)))) (.cons .q .nil) (hK9 hi9 () H)
     · have H:=H2 (by have:=of_decide_eq_false hb10;omega)
       refine W.exit ?_
       refine At.xthen ?_
       refine At.xthen ?_
       refine At.xhere ?_
       refine At.zad ?_
       refine W.rg env [2] [] ?_
       refine W.ret ?_
       cases H
       exact At.ret env.ty rfl rfl nofun (.refl _) hval
theorem zkn (p0:Crew) (p1:Int) (p2:Int) (p3:Range→Option Int) (p3_g:Nat) (p3_a p3_b:List AV) (p3_h:∀ x0 r,p3 x0=some r→Ctr Tryz.prog p3_g (p3_a++([.agg [.int .i64 (x0.Lo),.int .i64 (x0.Hi)]]++p3_b)) (.int .i64 (r))) {r:Int} (H:zeg p0 p1 p2 p3=some r):Ctr Tryz.prog 89 [.agg [roL 4 zal p0.Tasks,roL 1 zac p0.Travel,roL 3 zak p0.Hands],.int .i64 (p1),.int .i64 (p2),.clo (.func p3_g) p3_a p3_b] (.int .i64 (r)):=by
 unfold zeg at H
 refine Ctr.zan (N:=42) Tryz.func89 (by kernel_rfl) (c:=_) rfl Tryz.ntmps89 rfl (fun w0 h0 hval=>?_)
 refine W.rg env [1,2,3,4] [4] ?_
 obtain ⟨hc1,H⟩:=zab H
 obtain ⟨hc2,H⟩:=zab H
 refine W.sr env [] [] [3,4,9,10] [4,9,10] rfl rfl (by first|rfl|kernel_rfl) (.cons hc1 (.cons hc2 .nil)) .nil ?_
 refine W.seq ?_
 obtain ⟨hc3,H⟩:=zab H
 obtain ⟨hc4,H⟩:=zab H
 obtain ⟨hc5,H⟩:=zab H
 obtain ⟨hc6,H⟩:=zab H
 obtain ⟨y7,hy8,H⟩:=zaf H
 obtain ⟨hc9,H⟩:=zab H
 refine W.region env [] [⟨.int .i64 (y7),[],0,[]⟩] rfl rfl (by kernel_rfl) (.cons hc3 (.cons hc4 (.cons hc5 (.cons hc6 (.cons hc9 .nil))))) (.free (p3_h ((p0.Travel.getD ((p0.Tasks.getD (p1).toNat default).Place).toNat default).getD ((p0.Tasks.getD (p2).toNat default).Place).toNat default) _ hy8) .nil) (At.keep (ts:=[8]) (ids:=[]) rfl rfl ?_)
 refine At.zad ?_
 refine W.ret ?_
 cases H
 exact At.ret env.ty rfl rfl nofun (.refl _) hval
theorem zch (p0:Crew) (p1:Range→Option Int) (p1_g:Nat) (p1_a p1_b:List AV) (p1_h:∀ x0 r,p1 x0=some r→Ctr Tryz.prog p1_g (p1_a++([.agg [.int .i64 (x0.Lo),.int .i64 (x0.Hi)]]++p1_b)) (.int .i64 (r))) {r:(Option crew_plan)} (H:zbB p0 p1=some r):Ctr Tryz.prog 41 [.agg [roL 4 zal p0.Tasks,roL 1 zac p0.Travel,roL 3 zak p0.Hands],.clo (.func p1_g) p1_a p1_b] (.po r.isSome [roL 4 zal ((r.getD default).Crew.Tasks),roL 1 zac ((r.getD default).Crew.Travel),roL 3 zak ((r.getD default).Crew.Hands),roL 1 zaa ((r.getD default).next)]):=by
 unfold zbB at H
 refine Ctr.zan (N:=52) Tryz.func41 (by kernel_rfl) (c:=_) rfl Tryz.ntmps41 rfl (fun w0 h0 hval=>?_)
 refine W.rg env [1,2] [2] ?_
 refine W.seq ?_
 obtain ⟨hc1,H⟩:=zab H
 refine W.region env [] [] rfl rfl (by first|rfl|kernel_rfl) (.cons hc1 .nil) .nil (At.keep (ts:=[1,2,5]) (ids:=[2,12,14]) rfl rfl ?_)
 refine At.zbo (.cons (.refl _) (.cons (y:=bufL 3 1 zaa (List.replicate (((p0.Tasks.length:Nat):Int)).toNat (0:Int))) (BSim.seg (Seg.made (f:=zaa) 0 rfl)) (.cons (.refl _) .nil))) ?_
 refine At.zad ?_
 refine W.seq ?_
 refine W.rg env [1,2,5,17,18] [2,12,14] ?_
 refine W.block ?_
 refine At.keep (ts:=[1,2,5,17,18]) (ids:=[2,12,14]) rfl rfl ?_
 obtain ⟨hn2,H⟩:=zab H
 refine W.zah H (fun i2 (s2:(List Int))=>[(1,.clo (.func p1_g) p1_a p1_b),(2,.lp 2 0),(5,.lp 14 0),(17,.int .i64 (((p0.Tasks.length:Nat):Int))),(18,.int .i64 ((i2:Int)))]) (fun i2 (s2:(List Int))=>[(2,.cells [roL 4 zal p0.Tasks,roL 1 zac p0.Travel,roL 3 zak p0.Hands]),(12,bufL 3 1 zaa s2),(14,.cells [roL 4 zal p0.Tasks,roL 1 zac p0.Travel,roL 3 zak p0.Hands,.buf 12 (s2).length])]) (.cons .q (.cons .q (.cons .q (.cons .qi (.cons .qi .nil))))) (.cons .q (.cons .q (.cons (BSim.cells (.cons .q (.cons .q (.cons .q (.cons .qc .nil))))) .nil))) (fun k2 i2 s2 hle2 H1 H2 K0 hK2=>?_)
 refine W.rg env [1,2,5,17,18,19] [2,12,14] ?_
 refine W.seq ?_
 refine W.cond rfl (fun hb3=>?_) (fun hb3=>?_)
 · have hi2:i2<p0.Tasks.length:=by have:=of_decide_eq_true hb3;omega
   have H:=H1 hi2
   refine W.skip ?_
   refine At.zad ?_
   refine W.seq ?_
   refine W.block ?_
   refine W.rg env [1,2,5,6,17,18] [2,12,14] ?_
   refine W.rg env [1,2,5,6,17,18,23,24] [2,12,14] ?_
   refine W.block ?_
   refine At.keep (ts:=[1,2,5,6,17,18,23,24]) (ids:=[2,12,14]) rfl rfl ?_
   obtain ⟨hn4,H⟩:=zab H
   refine W.zah H (fun i4 (s4:(List Int))=>[(1,.clo (.func p1_g) p1_a p1_b),(2,.lp 2 0),(5,.lp 14 0),(6,.int .i64 ((i2:Int))),(17,.int .i64 (((p0.Tasks.length:Nat):Int))),(18,.int .i64 ((i2:Int))),(23,.int .i64 (((p0.Tasks.length:Nat):Int))),(24,.int .i64 ((i4:Int)))]) (fun i4 (s4:(List Int))=>[(2,.cells [roL 4 zal p0.Tasks,roL 1 zac p0.Travel,roL 3 zak p0.Hands]),(12,bufL 3 1 zaa s4),(14,.cells [roL 4 zal p0.Tasks,roL 1 zac p0.Travel,roL 3 zak p0.Hands,.buf 12 (s4).length])]) (.cons .q (.cons .q (.cons .q (.cons .qi (.cons .qi (.cons .qi (.cons .qi (.cons .qi .nil)))))))) (.cons .q (.cons .q (.cons (BSim.cells (.cons .q (.cons .q (.cons .q (.cons .qc .nil))))) .nil))) (fun k4 i4 s4 hle4 H1 H2 K0 hK4=>?_)
   refine W.rg env [1,2,5,6,17,18,23,24,25] [2,12,14] ?_
   refine W.seq ?_
   refine W.cond rfl (fun hb5=>?_) (fun hb5=>?_)
   · have hi4:i4<p0.Tasks.length:=by have:=of_decide_eq_true hb5;omega
     have H:=H1 hi4
     refine W.skip ?_
     refine At.zad ?_
     refine W.seq ?_
     refine W.block ?_
     refine W.rg env [1,2,5,6,7,17,18,23,24] [2,12,14] ?_
     refine W.seq ?_
     obtain ⟨y6,hy7,H⟩:=zaf H
     refine W.region env [] [⟨.int .i64 (y6),[],0,[]⟩] rfl rfl rfl (.cons id (.cons id (.cons id (.cons id (.cons id (.cons id .nil)))))) (.on (fun hW=>zkn p0 (i2:Int) (i4:Int) p1 p1_g p1_a p1_b p1_h (zai hy7 hW)) .nil) (At.keep (ts:=[1,2,5,6,7,17,18,23,24,37]) (ids:=[2,12,14]) rfl rfl ?_)
     refine At.zad ?_
     refine W.cond rfl (fun hb8=>?_) (fun hb8=>?_)
     · have H:=zai H hb8
       obtain ⟨hc9,H⟩:=zab H
       obtain ⟨hc10,H⟩:=zab H
       obtain ⟨hc11,H⟩:=zab H
       obtain ⟨hc12,H⟩:=zab H
       refine W.region env [] [] rfl rfl (by first|rfl|kernel_rfl) (.cons (⟨by first|rfl|(simp;done)|omega|(simp;omega),hc9⟩) (.cons (⟨by first|rfl|(simp;done)|omega|(simp;omega),(by have:=hc9;first|omega|(simp only [List.length_set];omega)|(simp only [Int.toNat_natCast] at *;omega)|(simp at this ⊢;omega))⟩) (.cons hc10 (.cons hc11 (.cons (⟨by first|rfl|(simp;done)|omega|(simp;omega),hc12⟩) (.cons (⟨by first|rfl|(simp;done)|omega|(simp;omega),(by have:=hc12;first|omega|(simp only [List.length_set];omega)|(simp only [Int.toNat_natCast] at *;omega)|(simp at this ⊢;omega))⟩) .nil)))))) .nil (At.keep (ts:=[1,2,5,6,17,18,23,24]) (ids:=[2,12,14]) rfl rfl ?_)
       refine At.zbo (.cons (.refl _) (.cons (y:=bufL 3 1 zaa (s4.set i2 ((((s4.getD i2 default):Int).toNat ||| (((1:Int) * 2 ^ ((i4:Int):Int).toNat):Int).toNat:Nat):Int))) (BSim.seg (Seg.set (Seg.refl zaa _) ((((s4.getD i2 default):Int).toNat ||| (((1:Int) * 2 ^ ((i4:Int):Int).toNat):Int).toNat:Nat):Int) rfl)) (.cons (.refl _) .nil))) ?_
       refine At.inb ?_
       refine At.zad ?_
       refine W.region env [] [] rfl rfl rfl (.cons (by unfold inI;have:=hn4;(try unfold maxLen at this);omega) .nil) .nil (At.keep (ts:=[1,2,5,6,17,18,23,24]) (ids:=[2,12,14]) rfl rfl ?_)
       refine At.zaE (At.keep (ts:=[1,2,5,6,17,18,23,24]) (ids:=[2,12,14]) rfl rfl ?_)
       exact At.conv (.cons .q (.cons .q (.cons .q (.cons .qi (.cons .qi (.cons .qi (.cons .qi (.cons .qi .nil)))))))) (.cons .q (.cons .q (.cons (BSim.cells (.cons .q (.cons .q (.cons .q (.cons .qc .nil))))) .nil))) (hK4 hi4 (s4.set i2 ((((s4.getD i2 default):Int).toNat ||| (((1:Int) * 2 ^ ((i4:Int):Int).toNat):Int).toNat:Nat):Int)) H)
     · have H:=zag H hb8
       refine W.skip ?_
       refine At.inb ?_
       refine At.zad ?_
       refine W.region env [] [] rfl rfl rfl (.cons (by unfold inI;have:=hn4;(try unfold maxLen at this);omega) .nil) .nil (At.keep (ts:=[1,2,5,6,17,18,23,24]) (ids:=[2,12,14]) rfl rfl ?_)
       refine At.zaE (At.keep (ts:=[1,2,5,6,17,18,23,24]) (ids:=[2,12,14]) rfl rfl ?_)
       exact At.conv (.cons .q (.cons .q (.cons .q (.cons .qi (.cons .qi (.cons .qi (.cons .qi (.cons .qi .nil)))))))) (.cons .q (.cons .q (.cons (BSim.cells (.cons .q (.cons .q (.cons .q (.cons .qc .nil))))) .nil))) (hK4 hi4 s4 H)
   · have H:=H2 (by have:=of_decide_eq_false hb5;omega)
     refine W.exit ?_
     refine At.xthen ?_
     refine At.xthen ?_
     refine At.xhere ?_
     refine At.inb ?_
     refine At.zad ?_
     refine W.region env [] [] rfl rfl rfl (.cons (by unfold inI;have:=hn2;(try unfold maxLen at this);omega) .nil) .nil (At.keep (ts:=[1,2,5,17,18]) (ids:=[2,12,14]) rfl rfl ?_)
     refine At.zaE (At.keep (ts:=[1,2,5,17,18]) (ids:=[2,12,14]) rfl rfl ?_)
     exact At.conv (.cons .q (.cons .q (.cons .q (.cons .qi (.cons .qi .nil))))) (.cons .q (.cons .q (.cons (BSim.cells (.cons .q (.cons .q (.cons .q (.cons .qc .nil))))) .nil))) (hK2 hi2 s4 H)
 · have H:=H2 (by have:=of_decide_eq_false hb3;omega)
   refine W.exit ?_
   refine At.xthen ?_
   refine At.xthen ?_
   refine At.xhere ?_
   refine At.zad ?_
   refine W.rg env [4] [12,14] ?_
   refine W.ret ?_
   cases H
   exact At.ret env.ty rfl rfl (fun q hq=>by cases hq;exact (by first|rfl|(simp;done)|omega|(simp;omega))) (Sim.po_rp rfl (.cons (.refl _) (.cons (.refl _) (.cons (.refl _) (.cons (.refl _) .nil))))) hval
theorem zko (p0:Range):Ctr Tryz.prog 75 [.agg [.int .i64 (p0.Lo),.int .i64 (p0.Hi)]] (.int .i64 ((zeh p0))):=by
 obtain ⟨r,H⟩:∃ r,zeh p0=r:=⟨_,rfl⟩
 rw [H]
 unfold zeh at H
 refine Ctr.zan (N:=5) Tryz.func75 (by kernel_rfl) (c:=_) rfl Tryz.ntmps75 rfl (fun w0 h0 hval=>?_)
 refine W.rg env [1] [1] ?_
 refine W.rg env [2] [] ?_
 refine W.ret ?_
 cases H
 exact At.ret env.ty rfl rfl nofun (.refl _) hval
theorem zc4 (p0:crew_plan) (p1:Int):Ctr Tryz.prog 45 [.rp [roL 4 zal p0.Crew.Tasks,roL 1 zac p0.Crew.Travel,roL 3 zak p0.Crew.Hands,roL 1 zaa p0.next],.int .i64 (p1)] (.clo (.func 91) [] [.rp [.rp [roL 4 zal p0.Crew.Tasks,roL 1 zac p0.Crew.Travel,roL 3 zak p0.Crew.Hands,roL 1 zaa p0.next]],.rp [.int .i64 (p1)]]):=by
 refine Ctr.zan (N:=6) Tryz.func45 (by kernel_rfl) (c:=_) rfl Tryz.ntmps45 rfl (fun w0 h0 hval=>?_)
 refine W.rg env [2,3] [2,3] ?_
 refine W.rg env [4] [2,3] ?_
 refine W.ret ?_
 exact At.ret env.ty rfl rfl nofun (.refl _) hval
theorem zcR (c0:crew_plan) (c1:Int) {r:List (Int)} (H:zaT c0 c1=some r):Iter Tryz.prog 91 [.rp [.rp [roL 4 zal c0.Crew.Tasks,roL 1 zac c0.Crew.Travel,roL 3 zak c0.Crew.Hands,roL 1 zaa c0.next]],.rp [.int .i64 (c1)]] (r.map (fun (x:Int)=>[.int .i64 (x)])):=by
 unfold zaT at H
 have hYl:=Yl.start r
 skip
 refine Iter.zan (N:=31) Tryz.func91 (by kernel_rfl) (c:=_) rfl Tryz.ntmps91 rfl (fun w0 h0 lp J hJ hval hY=>?_)
 refine W.rg env [0,1,2,9,10] [] ?_
 refine W.block ?_
 refine At.keep (ts:=[0,1,2,9,10]) (ids:=[]) rfl rfl ?_
 obtain ⟨hn1,H⟩:=zab H
 refine W.zlE H hYl (fun i1 (s1:Unit)=>[(0,.fn (.yield lp) [] []),(1,.rp [.rp [roL 4 zal c0.Crew.Tasks,roL 1 zac c0.Crew.Travel,roL 3 zak c0.Crew.Hands,roL 1 zaa c0.next]]),(2,.rp [.int .i64 (c1)]),(9,.int .i64 (((c0.next.length:Nat):Int))),(10,.int .i64 ((i1:Int)))]) (fun i1 (s1:Unit)=>[]) (.cons .q (.cons .q (.cons .q (.cons .qi (.cons .qi .nil))))) .nil (fun k1 i1 s1 g r hle1 hYl H1 H2 K0 hK1=>?_)
 refine W.rg env [0,1,2,9,10,11] [] ?_
 refine W.seq ?_
 refine W.cond rfl (fun hb2=>?_) (fun hb2=>?_)
 · have hi1:i1<c0.next.length:=by have:=of_decide_eq_true hb2;omega
   have H:=H1 hi1
   refine W.skip ?_
   refine At.zad ?_
   refine W.seq ?_
   refine W.block ?_
   refine W.rg env [0,1,2,4,9,10] [] ?_
   refine W.seq ?_
   obtain ⟨hc3,H⟩:=zab H
   obtain ⟨hc4,H⟩:=zab H
   obtain ⟨hc5,H⟩:=zab H
   refine W.zof env hY [] 14 [] [] rfl rfl rfl rfl rfl rfl rfl rfl (fun b=>rfl) rfl (fun b=>by cases b <;> rfl) (.cons hc3 (.cons hc4 (.cons hc5 .nil))) .nil (.cons id (.cons id .nil)) (fun b=>(.cons id (.cons id .nil))) (fun b=>.nil) (fun hW=>Yl.item (fun (x:Int)=>[.int .i64 (x)]) H hYl hW) (fun b g1 hg1 hg2=>?_)
   refine At.keep (ts:=[0,1,2,9,10,29]) (ids:=[]) rfl rfl ?_
   refine At.zad ?_
   rcases Yl.split hg1 hg2 with ⟨hw1,hw2,rfl⟩|⟨hw1,hw2,hw3⟩
   · refine W.cond rfl (fun hb=>?_) (fun hb=>?_)
     · refine W.ret ?_
       refine At.rinb ?_
       refine At.rthen ?_
       refine At.rthen ?_
       refine At.rinb ?_
       exact At.iret rfl (.inl rfl) hval
     · exact absurd hb (by rw [hw1,hw2];simp)
   · refine W.cond rfl (fun hb=>?_) (fun hb=>?_)
     · exact absurd hb (by intro hb;simp only [Bool.and_eq_true,Bool.not_eq_true'] at hb;have:=hw1 (by first|exact hb.1|(simp only [Bool.and_eq_true];exact hb.1));rw [this] at hb;simp at hb)
     · obtain ⟨r,H,hYl⟩:=Yl.next H hYl hw2 hw3
       refine W.skip ?_
       refine At.inb ?_
       refine At.zad ?_
       refine W.region env [] [] rfl rfl rfl (.cons (by unfold inI;have:=hn1;(try unfold maxLen at this);omega) .nil) .nil (At.keep (ts:=[0,1,2,9,10]) (ids:=[]) rfl rfl ?_)
       refine At.zaE (At.keep (ts:=[0,1,2,9,10]) (ids:=[]) rfl rfl ?_)
       exact At.conv (.cons .q (.cons .q (.cons .q (.cons .qi (.cons .qi .nil))))) .nil (hK1 hi1 () _ _ hYl H)
 · have H:=H2 (by have:=of_decide_eq_false hb2;omega)
   refine W.exit ?_
   refine At.xthen ?_
   refine At.xthen ?_
   refine At.xhere ?_
   refine At.zjZ ?_
   exact At.iret rfl (.inr (Yl.fin (fun (x:Int)=>[.int .i64 (x)]) H hYl)) hval
theorem zeF (fuel:Nat):∀ (n:Nat) (p0:Int) (c0:crew_plan) (c1:Int) (c2:(List Int)) (c4:(List Int)) {r:(Bool×Int×(List Int)×(List Int))} (H:zbd fuel n p0 c0 c1 c2 c4=some r),CtrO Tryz.prog 90 [.int .i64 (p0),.lp 90000 0,.lp 90001 0,.lp 90002 0,.lp 90004 0,.lp 90005 0] [(90000,.cells [.rp [roL 4 zal c0.Crew.Tasks,roL 1 zac c0.Crew.Travel,roL 3 zak c0.Crew.Hands,roL 1 zaa c0.next]]),(90001,.cells [.int .i64 (c1)]),(90002,.cells [.buf 90003 (c2).length]),(90003,bufL 3 1 zaa c2),(90004,.cells [.fn (.func 90) [] [.lp 90000 0,.lp 90001 0,.lp 90002 0,.lp 90004 0,.lp 90005 0]]),(90005,.cells [.buf 90006 (c4).length]),(90006,bufL 3 1 zaa c4)] (.bool (r.1)) [(90000,.cells [.rp [roL 4 zal c0.Crew.Tasks,roL 1 zac c0.Crew.Travel,roL 3 zak c0.Crew.Hands,roL 1 zaa c0.next]]),(90001,.cells [.int .i64 (r.2.1)]),(90002,.cells [.buf 90003 (r.2.2.1).length]),(90003,bufL 3 1 zaa r.2.2.1),(90004,.cells [.fn (.func 90) [] [.lp 90000 0,.lp 90001 0,.lp 90002 0,.lp 90004 0,.lp 90005 0]]),(90005,.cells [.buf 90006 (r.2.2.2).length]),(90006,bufL 3 1 zaa r.2.2.2)]:=by
 intro n;induction n with
 | zero=>intro p0 c0 c1 c2 c4 r H;cases H
 | succ n ih=>
  intro p0 c0 c1 c2 c4 r H
  have H:zbm fuel (zbd fuel n) p0 c0 c1 c2 c4=some r:=H
  unfold zbm at H
  refine CtrL.zan (N:=43) Tryz.func90 (by kernel_rfl) (c:=_) rfl Tryz.ntmps90 rfl rfl (fun w0 h0 ρb hval hdom hent=>?_)
  refine W.rg env [1,2,3,4,5,6,7] [6,7,90000,90001,90002,90003,90004,90005,90006] ?_
  refine W.seq ?_
  refine W.sr env [] [⟨.clo (.func 91) [] [.rp [.rp [roL 4 zal c0.Crew.Tasks,roL 1 zac c0.Crew.Travel,roL 3 zak c0.Crew.Hands,roL 1 zaa c0.next]],.rp [.int .i64 (p0)]],[],0,[]⟩] [2,3,4,5,6,7,11] [6,7,90000,90001,90002,90003,90004,90005,90006] rfl rfl rfl .nil (.free (zc4 c0 p0) .nil) ?_
  refine W.block ?_
  obtain ⟨it1,hit1,H⟩:=zaf H
  refine At.keep (ts:=[2,3,4,5,6,7,11]) (ids:=[6,7,90000,90001,90002,90003,90004,90005,90006]) rfl rfl ?_
  refine W.zdk H (fun (x:Int)=>[.int .i64 (x)]) (zcR c0 p0 hit1) rfl (fun _=>⟨rfl,rfl⟩) rfl rfl rfl (fun (s2:(List Int)×(List Int)×Int)=>[(6,.cells [.int .i64 (p0)]),(7,.cells [.bool (false)]),(90000,.cells [.rp [roL 4 zal c0.Crew.Tasks,roL 1 zac c0.Crew.Travel,roL 3 zak c0.Crew.Hands,roL 1 zaa c0.next]]),(90001,.cells [.int .i64 (s2.2.2)]),(90002,.cells [.buf 90003 (s2.1).length]),(90003,bufL 3 1 zaa s2.1),(90004,.cells [.fn (.func 90) [] [.lp 90000 0,.lp 90001 0,.lp 90002 0,.lp 90004 0,.lp 90005 0]]),(90005,.cells [.buf 90006 (s2.2.1).length]),(90006,bufL 3 1 zaa s2.2.1)]) (.cons .q (.cons .q (.cons .q (.cons .q (.cons (BSim.cells (.cons .qc .nil)) (.cons .q (.cons .q (.cons (BSim.cells (.cons .qc .nil)) (.cons .q .nil))))))))) (fun (x1:Int)=>[(2,.lp 90001 0),(3,.lp 90002 0),(4,.lp 90004 0),(5,.lp 90005 0),(6,.lp 6 0),(7,.lp 7 0),(8,.int .i64 (x1))]) (fun (x1:Int) (s2:(List Int)×(List Int)×Int)=>[(6,.cells [.int .i64 (p0)]),(7,.cells [.bool (false)]),(90000,.cells [.rp [roL 4 zal c0.Crew.Tasks,roL 1 zac c0.Crew.Travel,roL 3 zak c0.Crew.Hands,roL 1 zaa c0.next]]),(90001,.cells [.int .i64 (s2.2.2)]),(90002,.cells [.buf 90003 (s2.1).length]),(90003,bufL 3 1 zaa s2.1),(90004,.cells [.fn (.func 90) [] [.lp 90000 0,.lp 90001 0,.lp 90002 0,.lp 90004 0,.lp 90005 0]]),(90005,.cells [.buf 90006 (s2.2.1).length]),(90006,bufL 3 1 zaa s2.2.1)]) (fun e (sx:Bool×Int×(List Int)×(List Int))=>e=Exit.ret∧some (sx.1,sx.2.1,sx.2.2.1,sx.2.2.2)=some r) (fun _ (sx:Bool×Int×(List Int)×(List Int))=>[(6,.cells [.int .i64 (p0)]),(7,.cells [.bool (sx.1)]),(90000,.cells [.rp [roL 4 zal c0.Crew.Tasks,roL 1 zac c0.Crew.Travel,roL 3 zak c0.Crew.Hands,roL 1 zaa c0.next]]),(90001,.cells [.int .i64 (sx.2.1)]),(90002,.cells [.buf 90003 (sx.2.2.1).length]),(90003,bufL 3 1 zaa sx.2.2.1),(90004,.cells [.fn (.func 90) [] [.lp 90000 0,.lp 90001 0,.lp 90002 0,.lp 90004 0,.lp 90005 0]]),(90005,.cells [.buf 90006 (sx.2.2.2).length]),(90006,bufL 3 1 zaa sx.2.2.2)]) (fun e s h=>.inl h.1) hval (fun h1 vs gh st lp x1 s2 K hK=>?_) (fun k2 h1 vs gh st lp x1 s2 H Qr hQ2 hX2=>?_) (fun s2 H=>?_) (fun e sx h=>?_)
  · refine W.region env [] [] rfl rfl rfl .nil .nil (At.keep (ts:=[2,3,4,5,6,7,8]) (ids:=[6,7,90000,90001,90002,90003,90004,90005,90006]) rfl rfl ?_)
    refine At.zaE (At.keep (ts:=[2,3,4,5,6,7,8]) (ids:=[6,7,90000,90001,90002,90003,90004,90005,90006]) rfl rfl ?_)
    exact hK
  · refine W.block ?_
    refine W.seq ?_
    obtain ⟨hc3,H⟩:=zab H
    obtain ⟨hc4,H⟩:=zab H
    refine W.sr env [] [] [2,3,4,5,6,7,8,17] [6,7,90000,90001,90002,90003,90004,90005,90006] rfl rfl rfl (.cons hc3 (.cons hc4 .nil)) .nil ?_
    refine W.cond rfl (fun hb5=>?_) (fun hb5=>?_)
    · have H:=zai H hb5
      refine W.exit ?_
      refine At.xthen ?_
      refine At.xhere ?_
      refine At.keep (ts:=[]) (ids:=[6,7,90000,90001,90002,90003,90004,90005,90006]) rfl rfl ?_
      exact At.conv .nil (.cons .q (.cons .q (.cons .q (.cons .q (.cons (BSim.cells (.cons .qc .nil)) (.cons .q (.cons .q (.cons (BSim.cells (.cons .qc .nil)) (.cons .q .nil))))))))) (hQ2 (s2.1,s2.2.1,s2.2.2) H)
    · have H:=zag H hb5
      refine W.skip ?_
      refine At.zad ?_
      obtain ⟨hc6,H⟩:=zab H
      obtain ⟨hc7,H⟩:=zab H
      refine W.sr env [] [] [3,4,5,6,7,8] [6,7,90000,90001,90002,90003,90004,90005,90006] rfl rfl (by first|rfl|kernel_rfl) (.cons hc6 (.cons hc7 .nil)) .nil ?_
      refine W.seq ?_
      obtain ⟨hc8,H⟩:=zab H
      obtain ⟨hc9,H⟩:=zab H
      obtain ⟨y10,hy11,H⟩:=zaf H
      refine W.region env [] [⟨.bool (y10.1),[(90000,.cells [.rp [roL 4 zal c0.Crew.Tasks,roL 1 zac c0.Crew.Travel,roL 3 zak c0.Crew.Hands,roL 1 zaa c0.next]]),(90001,.cells [.int .i64 (y10.2.1)]),(90002,.cells [.buf 90003 (y10.2.2.1).length]),(90003,bufL 3 1 zaa y10.2.2.1),(90004,.cells [.fn (.func 90) [] [.lp 90000 0,.lp 90001 0,.lp 90002 0,.lp 90004 0,.lp 90005 0]]),(90005,.cells [.buf 90006 (y10.2.2.2).length]),(90006,bufL 3 1 zaa y10.2.2.2)],0,[90000,90001,90002,90003,90004,90005,90006]⟩] rfl rfl (by kernel_rfl) (.cons (⟨by first|rfl|(simp;done)|omega|(simp;omega),hc8⟩) (.cons (⟨by first|rfl|(simp;done)|omega|(simp;omega),(by have:=hc8;first|omega|(simp only [List.length_set];omega)|(simp only [Int.toNat_natCast] at *;omega)|(simp at this ⊢;omega))⟩) (.cons (fun hW=>⟨by first|rfl|(simp;done)|omega|(simp;omega),hc9 hW⟩) (.cons id (.cons id (.cons (fun hW=>(⟨by first|rfl|(simp;done)|omega|(simp;omega),(by have:=hc9 hW;first|omega|(simp only [List.length_set];omega)|(simp only [Int.toNat_natCast] at *;omega)|(simp at this ⊢;omega))⟩)) (.cons id (.cons (fun hW=>by obtain rfl:=zcv hy11 hW;first|exact .refl _|exact .q) (.cons (fun hW=>by obtain rfl:=zcv hy11 hW;first|exact .refl _|exact .q) (.cons (fun hW=>by obtain rfl:=zcv hy11 hW;first|exact .refl _|exact .q) (.cons (fun hW=>by obtain rfl:=zcv hy11 hW;first|exact .refl _|exact .q) (.cons (fun hW=>by obtain rfl:=zcv hy11 hW;first|exact .refl _|exact .q) (.cons (fun hW=>by obtain rfl:=zcv hy11 hW;first|exact .refl _|exact .q) (.cons (fun hW=>by obtain rfl:=zcv hy11 hW;first|exact .refl _|exact .q) (.cons id (.cons id (.cons (fun h=>by rw [h];rfl) .nil))))))))))))))))) (.on (fun hW=>(CtrO.sim (CtrO.ren (ih (s2.1.getD (x1).toNat default) c0 (((s2.2.2:Int).toNat ||| (((1:Int) * 2 ^ (x1:Int).toNat):Int).toNat:Nat):Int) s2.1 s2.2.1 (zai hy11 hW)) [(90000,90000),(90001,90001),(90002,90002),(90003,90003),(90004,90004),(90005,90005),(90006,90006)]) (.cons (.refl _) (.cons (.refl _) (.cons (.refl _) (.cons (.refl _) (.cons (.refl _) (.cons (.refl _) .nil)))))) (.cons (.refl _) (.cons (.refl _) (.cons (BSim.cells (.cons .qc .nil)) (.cons (.refl _) (.cons (.refl _) (.cons (BSim.cells (.cons .qc .nil)) (.cons (.refl _) .nil))))))))) .nil) (At.keep (ts:=[3,5,6,7,8,34]) (ids:=[6,7,90000,90001,90002,90003,90004,90005,90006]) rfl rfl ?_)
      refine At.zad ?_
      refine W.cond rfl (fun hb12=>?_) (fun hb12=>?_)
      · have H:=zai H hb12
        refine W.seq ?_
        obtain ⟨hc13,H⟩:=zab H
        obtain ⟨hc14,H⟩:=zab H
        refine W.region env [] [] rfl rfl (by first|rfl|kernel_rfl) (.cons (⟨by first|rfl|(simp;done)|omega|(simp;omega),hc13⟩) (.cons (⟨by first|rfl|(simp;done)|omega|(simp;omega),(by have:=hc13;first|omega|(simp only [List.length_set];omega)|(simp only [Int.toNat_natCast] at *;omega)|(simp at this ⊢;omega))⟩) (.cons (⟨by first|rfl|(simp;done)|omega|(simp;omega),hc14⟩) (.cons (⟨by first|rfl|(simp;done)|omega|(simp;omega),(by have:=hc14;first|omega|(simp only [List.length_set];omega)|(simp only [Int.toNat_natCast] at *;omega)|(simp at this ⊢;omega))⟩) .nil)))) .nil (At.keep (ts:=[7]) (ids:=[6,7,90000,90001,90002,90003,90004,90005,90006]) rfl rfl ?_)
        refine At.zbo (.cons (.refl _) (.cons (.refl _) (.cons (.refl _) (.cons (.refl _) (.cons (.refl _) (.cons (y:=bufL 3 1 zaa (y10.2.2.1.set (x1).toNat p0)) (BSim.seg (Seg.set (Seg.refl zaa _) p0 rfl)) (.cons (.refl _) (.cons (.refl _) (.cons (y:=bufL 3 1 zaa (y10.2.2.2.set (p0).toNat x1)) (BSim.seg (Seg.set (Seg.refl zaa _) x1 rfl)) .nil))))))))) ?_
        refine At.zad ?_
        refine W.rg env [7] [6,7,90000,90001,90002,90003,90004,90005,90006] ?_
        refine W.ret ?_
        refine At.rinb ?_
        refine At.keep (ts:=[]) (ids:=[6,7,90000,90001,90002,90003,90004,90005,90006]) rfl rfl ?_
        exact At.conv .nil (.cons .q (.cons .q (.cons .q (.cons .q (.cons (BSim.cells (.cons .qc .nil)) (.cons .q (.cons .q (.cons (BSim.cells (.cons .qc .nil)) (.cons .q .nil))))))))) (hX2 .ret (true,y10.2.1,(y10.2.2.1.set (x1).toNat p0),(y10.2.2.2.set (p0).toNat x1)) ⟨rfl,H⟩)
      · have H:=zag H hb12
        refine W.skip ?_
        refine At.inb ?_
        refine At.keep (ts:=[]) (ids:=[6,7,90000,90001,90002,90003,90004,90005,90006]) rfl rfl ?_
        exact At.conv .nil (.cons .q (.cons .q (.cons .q (.cons .q (.cons (BSim.cells (.cons .qc .nil)) (.cons .q (.cons .q (.cons (BSim.cells (.cons .qc .nil)) (.cons .q .nil))))))))) (hQ2 (y10.2.2.1,y10.2.2.2,y10.2.1) H)
  · refine At.inb ?_
    refine At.zad ?_
    refine W.rg env [7] [7,90000,90001,90002,90003,90004,90005,90006] ?_
    refine W.ret ?_
    cases H
    exact At.retL env.ty [90000,90001,90002,90003,90004,90005,90006] rfl rfl rfl rfl (.cons (.refl _) (.cons (.refl _) (.cons (BSim.cells (.cons .qc .nil)) (.cons (.refl _) (.cons (.refl _) (.cons (BSim.cells (.cons .qc .nil)) (.cons (.refl _) .nil))))))) (.refl _) hval hdom hent rfl rfl
  · obtain ⟨rfl,H⟩:=h
    refine At.rinb ?_
    refine At.rthen ?_
    cases H
    exact At.retL env.ty [90000,90001,90002,90003,90004,90005,90006] rfl rfl rfl rfl (.cons (.refl _) (.cons (.refl _) (.cons (BSim.cells (.cons .qc .nil)) (.cons (.refl _) (.cons (.refl _) (.cons (BSim.cells (.cons .qc .nil)) (.cons (.refl _) .nil))))))) (.refl _) hval hdom hent rfl rfl
theorem zda (fuel:Nat) (p0:crew_plan) {r:((List Int)×(List Int))} (H:zbE fuel p0=some r):Ctr Tryz.prog 43 [.rp [roL 4 zal p0.Crew.Tasks,roL 1 zac p0.Crew.Travel,roL 3 zak p0.Crew.Hands,roL 1 zaa p0.next]] (.tup [roL 1 zaa r.1,roL 1 zaa r.2]):=by
 unfold zbE at H
 refine Ctr.zan (N:=47) Tryz.func43 (by kernel_rfl) (c:=_) rfl Tryz.ntmps43 rfl (fun w0 h0 hval=>?_)
 refine W.rg env [1,2,3] [1,2,3] ?_
 refine W.seq ?_
 obtain ⟨hc1,H⟩:=zab H
 obtain ⟨hc2,H⟩:=zab H
 refine W.region env [] [] rfl rfl (by first|rfl|kernel_rfl) (.cons hc1 (.cons hc2 .nil)) .nil (At.keep (ts:=[1,2,3]) (ids:=[1,2,3,13,19]) rfl rfl ?_)
 refine At.zbo (.cons (.refl _) (.cons (.refl _) (.cons (.refl _) (.cons (y:=bufL 3 1 zaa (List.replicate (((p0.next.length:Nat):Int)).toNat (0:Int))) (BSim.seg (Seg.made (f:=zaa) 0 rfl)) (.cons (y:=bufL 3 1 zaa (List.replicate (((p0.next.length:Nat):Int)).toNat (0:Int))) (BSim.seg (Seg.made (f:=zaa) 0 rfl)) .nil))))) ?_
 refine At.zad ?_
 refine W.seq ?_
 refine W.sr env [] [] [1,2,3,21,22] [1,2,3,13,19] rfl rfl rfl (.cons (by first|rfl|(simp;done)|omega|(simp;omega)) .nil) .nil ?_
 refine W.block ?_
 refine At.keep (ts:=[1,2,3,21,22]) (ids:=[1,2,3,13,19]) rfl rfl ?_
 obtain ⟨hn3,H⟩:=zab H
 refine W.zah H (fun i3 (s3:(List Int)×(List Int))=>[(1,.lp 1 0),(2,.lp 2 0),(3,.lp 3 0),(21,.int .i64 ((((List.replicate (((p0.next.length:Nat):Int)).toNat (0:Int)).length:Nat):Int))),(22,.int .i64 ((i3:Int)))]) (fun i3 (s3:(List Int)×(List Int))=>[(1,.cells [.rp [roL 4 zal p0.Crew.Tasks,roL 1 zac p0.Crew.Travel,roL 3 zak p0.Crew.Hands,roL 1 zaa p0.next]]),(2,.cells [.buf 13 (s3.1).length]),(3,.cells [.buf 19 (s3.2).length]),(13,bufL 3 1 zaa s3.1),(19,bufL 3 1 zaa s3.2)]) (.cons .q (.cons .q (.cons .q (.cons .qi (.cons .qi .nil))))) (.cons .q (.cons (BSim.cells (.cons .qc .nil)) (.cons (BSim.cells (.cons .qc .nil)) (.cons .q (.cons .q .nil))))) (fun k3 i3 s3 hle3 H1 H2 K0 hK3=>?_)
 refine W.rg env [1,2,3,21,22,23] [1,2,3,13,19] ?_
 refine W.seq ?_
 refine W.cond rfl (fun hb4=>?_) (fun hb4=>?_)
 · have hi3:i3<(List.replicate (((p0.next.length:Nat):Int)).toNat (0:Int)).length:=by have:=of_decide_eq_true hb4;omega
   have H:=H1 hi3
   refine W.skip ?_
   refine At.zad ?_
   refine W.seq ?_
   refine W.block ?_
   refine W.rg env [1,2,3,4,21,22] [1,2,3,13,19] ?_
   obtain ⟨hc5,H⟩:=zab H
   obtain ⟨hc6,H⟩:=zab H
   refine W.region env [] [] rfl rfl (by first|rfl|kernel_rfl) (.cons (⟨by first|rfl|(simp;done)|omega|(simp;omega),hc5⟩) (.cons (⟨by first|rfl|(simp;done)|omega|(simp;omega),(by have:=hc5;first|omega|(simp only [List.length_set];omega)|(simp only [Int.toNat_natCast] at *;omega)|(simp at this ⊢;omega))⟩) (.cons (⟨by first|rfl|(simp;done)|omega|(simp;omega),hc6⟩) (.cons (⟨by first|rfl|(simp;done)|omega|(simp;omega),(by have:=hc6;first|omega|(simp only [List.length_set];omega)|(simp only [Int.toNat_natCast] at *;omega)|(simp at this ⊢;omega))⟩) .nil)))) .nil (At.keep (ts:=[1,2,3,21,22]) (ids:=[1,2,3,13,19]) rfl rfl ?_)
   refine At.zbo (.cons (.refl _) (.cons (.refl _) (.cons (.refl _) (.cons (y:=bufL 3 1 zaa (s3.1.set i3 (-1))) (BSim.seg (Seg.set (Seg.refl zaa _) (-1) rfl)) (.cons (y:=bufL 3 1 zaa (s3.2.set i3 (-1))) (BSim.seg (Seg.set (Seg.refl zaa _) (-1) rfl)) .nil))))) ?_
   refine At.inb ?_
   refine At.zad ?_
   refine W.region env [] [] rfl rfl rfl (.cons (by unfold inI;have:=hn3;(try unfold maxLen at this);omega) .nil) .nil (At.keep (ts:=[1,2,3,21,22]) (ids:=[1,2,3,13,19]) rfl rfl ?_)
   refine At.zaE (At.keep (ts:=[1,2,3,21,22]) (ids:=[1,2,3,13,19]) rfl rfl ?_)
   exact At.conv (.cons .q (.cons .q (.cons .q (.cons .qi (.cons .qi .nil))))) (.cons .q (.cons (BSim.cells (.cons .qc .nil)) (.cons (BSim.cells (.cons .qc .nil)) (.cons .q (.cons .q .nil))))) (hK3 hi3 ((s3.1.set i3 (-1)),(s3.2.set i3 (-1))) H)
 · have H:=H2 (by have:=of_decide_eq_false hb4;omega)
   refine W.exit ?_
   refine At.xthen ?_
   refine At.xthen ?_
   refine At.xhere ?_
   refine At.zad ?_
   refine W.seq ?_
   refine W.rg env [1,2,3,36,37] [1,2,3,13,19] ?_
   refine W.block ?_
   refine At.keep (ts:=[1,2,3,36,37]) (ids:=[1,2,3,13,19]) rfl rfl ?_
   obtain ⟨hn7,H⟩:=zab H
   refine W.zah H (fun i7 (s7:(List Int)×(List Int))=>[(1,.lp 1 0),(2,.lp 2 0),(3,.lp 3 0),(36,.int .i64 (((p0.next.length:Nat):Int))),(37,.int .i64 ((i7:Int)))]) (fun i7 (s7:(List Int)×(List Int))=>[(1,.cells [.rp [roL 4 zal p0.Crew.Tasks,roL 1 zac p0.Crew.Travel,roL 3 zak p0.Crew.Hands,roL 1 zaa p0.next]]),(2,.cells [.buf 13 (s7.1).length]),(3,.cells [.buf 19 (s7.2).length]),(13,bufL 3 1 zaa s7.1),(19,bufL 3 1 zaa s7.2)]) (.cons .q (.cons .q (.cons .q (.cons .qi (.cons .qi .nil))))) (.cons .q (.cons (BSim.cells (.cons .qc .nil)) (.cons (BSim.cells (.cons .qc .nil)) (.cons .q (.cons .q .nil))))) (fun k7 i7 s7 hle7 H1 H2 K0 hK7=>?_)
   refine W.rg env [1,2,3,36,37,38] [1,2,3,13,19] ?_
   refine W.seq ?_
   refine W.cond rfl (fun hb8=>?_) (fun hb8=>?_)
   · have hi7:i7<p0.next.length:=by have:=of_decide_eq_true hb8;omega
     have H:=H1 hi7
     refine W.skip ?_
     refine At.zad ?_
     refine W.seq ?_
     refine W.block ?_
     refine W.rg env [1,2,3,5,36,37] [1,2,3,13,19] ?_
     refine W.rg env [1,2,3,5,6,36,37] [1,2,3,6,13,19] ?_
     refine W.rg env [1,2,3,5,6,7,36,37] [1,2,3,6,7,13,19] ?_
     refine W.rg env [1,2,3,5,7,36,37] [1,2,3,6,7,13,19] ?_
     obtain ⟨y9,hy10,H⟩:=zaf H
     refine W.region env [] [⟨.bool (y9.1),[(1,.cells [.rp [roL 4 zal p0.Crew.Tasks,roL 1 zac p0.Crew.Travel,roL 3 zak p0.Crew.Hands,roL 1 zaa p0.next]]),(6,.cells [.int .i64 (y9.2.1)]),(2,.cells [.buf 13 (y9.2.2.1).length]),(13,bufL 3 1 zaa y9.2.2.1),(7,.cells [.fn (.func 90) [] [.lp 1 0,.lp 6 0,.lp 2 0,.lp 7 0,.lp 3 0]]),(3,.cells [.buf 19 (y9.2.2.2).length]),(19,bufL 3 1 zaa y9.2.2.2)],0,[1,6,2,13,7,3,19]⟩] rfl rfl (by kernel_rfl) .nil (.free (CtrO.sim (CtrO.ren (zeF fuel fuel (i7:Int) p0 0 s7.1 s7.2 hy10) [(90000,1),(90001,6),(90002,2),(90003,13),(90004,7),(90005,3),(90006,19)]) (.cons (.refl _) (.cons (.refl _) (.cons (.refl _) (.cons (.refl _) (.cons (.refl _) (.cons (.refl _) .nil)))))) (.cons (.refl _) (.cons (.refl _) (.cons (BSim.cells (.cons .qc .nil)) (.cons (.refl _) (.cons (.refl _) (.cons (BSim.cells (.cons .qc .nil)) (.cons (.refl _) .nil)))))))) .nil) (At.keep (ts:=[1,2,3,36,37]) (ids:=[1,2,3,13,19]) rfl rfl ?_)
     refine At.inb ?_
     refine At.zad ?_
     refine W.region env [] [] rfl rfl rfl (.cons (by unfold inI;have:=hn7;(try unfold maxLen at this);omega) .nil) .nil (At.keep (ts:=[1,2,3,36,37]) (ids:=[1,2,3,13,19]) rfl rfl ?_)
     refine At.zaE (At.keep (ts:=[1,2,3,36,37]) (ids:=[1,2,3,13,19]) rfl rfl ?_)
     exact At.conv (.cons .q (.cons .q (.cons .q (.cons .qi (.cons .qi .nil))))) (.cons .q (.cons (BSim.cells (.cons .qc .nil)) (.cons (BSim.cells (.cons .qc .nil)) (.cons .q (.cons .q .nil))))) (hK7 hi7 (y9.2.2.1,y9.2.2.2) H)
   · have H:=H2 (by have:=of_decide_eq_false hb8;omega)
     refine W.exit ?_
     refine At.xthen ?_
     refine At.xthen ?_
     refine At.xhere ?_
     refine At.zad ?_
     refine W.sr env [] [] [2,3] [2,3,13,19] rfl rfl (by first|rfl|kernel_rfl) .nil .nil ?_
     refine W.ret ?_
     cases H
     exact At.ret env.ty rfl rfl (fun q hq=>by cases hq;exact ⟨by first|rfl|(simp;done)|omega|(simp;omega),(by first|rfl|(simp;done)|omega|(simp;omega))⟩) (.refl _) hval
theorem zdU (fuel:Nat) (p0:crew_plan) {r:Int} (H:zbr fuel p0=some r):Ctr Tryz.prog 76 [.rp [roL 4 zal p0.Crew.Tasks,roL 1 zac p0.Crew.Travel,roL 3 zak p0.Crew.Hands,roL 1 zaa p0.next]] (.int .i64 (r)):=by
 unfold zbr at H
 refine Ctr.zan (N:=25) Tryz.func76 (by kernel_rfl) (c:=_) rfl Tryz.ntmps76 rfl (fun w0 h0 hval=>?_)
 refine W.rg env [0] [] ?_
 refine W.seq ?_
 obtain ⟨y1,hy2,H⟩:=zaf H
 refine W.region env [] [⟨.tup [roL 1 zaa y1.1,roL 1 zaa y1.2],[],0,[]⟩] rfl rfl rfl .nil (.free (zda fuel p0 hy2) .nil) (At.keep (ts:=[3]) (ids:=[]) rfl rfl ?_)
 refine At.zad ?_
 refine W.rg env [3,5] [] ?_
 refine W.seq ?_
 refine W.rg env [5,13,14,15] [] ?_
 refine W.block ?_
 refine At.keep (ts:=[5,13,14,15]) (ids:=[]) rfl rfl ?_
 refine W.len (t:=13) rfl (fun (hn3:y1.1.length≤maxLen)=>?_)
 refine W.zah H (fun i3 (s3:Int)=>[(5,.int .i64 (s3)),(13,roL 1 zaa y1.1),(14,.int .i64 (((y1.1.length:Nat):Int))),(15,.int .i64 ((i3:Int)))]) (fun i3 (s3:Int)=>[]) (.cons .qi (.cons .q (.cons .qi (.cons .qi .nil)))) .nil (fun k3 i3 s3 hle3 H1 H2 K0 hK3=>?_)
 refine W.rg env [5,13,14,15,16] [] ?_
 refine W.seq ?_
 refine W.cond rfl (fun hb4=>?_) (fun hb4=>?_)
 · have hi3:i3<y1.1.length:=by have:=of_decide_eq_true hb4;omega
   have H:=H1 hi3
   refine W.skip ?_
   refine At.zad ?_
   refine W.seq ?_
   refine W.block ?_
   refine W.sr env [] [] [5,7,13,14,15] [] rfl rfl rfl (.cons (⟨by omega,by omega⟩:0≤(i3:Int)∧(i3:Int)<((y1.1.length:Nat):Int)) .nil) .nil ?_
   refine W.rg env [5,13,14,15,20] [] ?_
   refine W.cond rfl (fun hb5=>?_) (fun hb5=>?_)
   · have H:=zai H hb5
     obtain ⟨hc6,H⟩:=zab H
     refine W.region env [] [] rfl rfl rfl (.cons hc6 .nil) .nil (At.keep (ts:=[5,13,14,15]) (ids:=[]) rfl rfl ?_)
     refine At.inb ?_
     refine At.zad ?_
     refine W.region env [] [] rfl rfl rfl (.cons (by unfold inI;have:=hn3;(try unfold maxLen at this);omega) .nil) .nil (At.keep (ts:=[5,13,14,15]) (ids:=[]) rfl rfl ?_)
     refine At.zaE (At.keep (ts:=[5,13,14,15]) (ids:=[]) rfl rfl ?_)
     exact At.conv (.cons .qi (.cons .q (.cons .qi (.cons .qi .nil)))) .nil (hK3 hi3 (s3+1) H)
   · have H:=zag H hb5
     refine W.skip ?_
     refine At.inb ?_
     refine At.zad ?_
     refine W.region env [] [] rfl rfl rfl (.cons (by unfold inI;have:=hn3;(try unfold maxLen at this);omega) .nil) .nil (At.keep (ts:=[5,13,14,15]) (ids:=[]) rfl rfl ?_)
     refine At.zaE (At.keep (ts:=[5,13,14,15]) (ids:=[]) rfl rfl ?_)
     exact At.conv (.cons .qi (.cons .q (.cons .qi (.cons .qi .nil)))) .nil (hK3 hi3 s3 H)
 · have H:=H2 (by have:=of_decide_eq_false hb4;omega)
   refine W.exit ?_
   refine At.xthen ?_
   refine At.xthen ?_
   refine At.xhere ?_
   refine At.zad ?_
   refine W.rg env [2] [] ?_
   refine W.ret ?_
   cases H
   exact At.ret env.ty rfl rfl nofun (.refl _) hval
theorem zdK (p0:Range):Ctr Tryz.prog 42 [.agg [.int .i64 (p0.Lo),.int .i64 (p0.Hi)]] (.int .i64 ((zbM p0))):=by
 obtain ⟨r,H⟩:∃ r,zbM p0=r:=⟨_,rfl⟩
 rw [H]
 unfold zbM at H
 refine Ctr.zan (N:=5) Tryz.func42 (by kernel_rfl) (c:=_) rfl Tryz.ntmps42 rfl (fun w0 h0 hval=>?_)
 refine W.rg env [1] [1] ?_
 refine W.rg env [2] [] ?_
 refine W.ret ?_
 cases H
 exact At.ret env.ty rfl rfl nofun (.refl _) hval
theorem zjA (fuel:Nat) (p0:Crew) {r:(Range×Int)} (H:zfH fuel p0=some r):Ctr Tryz.prog 26 [.agg [roL 4 zal p0.Tasks,roL 1 zac p0.Travel,roL 3 zak p0.Hands]] (.tup [.agg [.int .i64 (r.1.Lo),.int .i64 (r.1.Hi)],.int .i64 (r.2)]):=by
 unfold zfH at H
 refine Ctr.zan (N:=18) Tryz.func26 (by kernel_rfl) (c:=_) rfl Tryz.ntmps26 rfl (fun w0 h0 hval=>?_)
 refine W.rg env [1,2] [1,2] ?_
 refine W.seq ?_
 refine W.seq ?_
 obtain ⟨y1,hy2,H⟩:=zaf H
 refine W.region env [] [⟨.int .i64 (y1),[],0,[]⟩] rfl rfl rfl .nil (.free (zcT p0 hy2) .nil) (At.keep (ts:=[1,2,4]) (ids:=[1,2]) rfl rfl ?_)
 refine At.zad ?_
 refine W.rg env [1,2,4,8] [1,2] ?_
 refine W.cond rfl (fun hb3=>?_) (fun hb3=>?_)
 · have H:=zai H hb3
   refine W.rg env [2,3] [2] ?_
   refine W.ret ?_
   refine At.rthen ?_
   cases H
   exact At.ret env.ty rfl rfl nofun (.refl _) hval
 · have H:=zag H hb3
   refine W.skip ?_
   refine At.zad ?_
   refine W.seq ?_
   obtain ⟨y4,hy5,H⟩:=zaf H
   obtain ⟨hc6,H⟩:=zab H
   obtain ⟨y7,hy8,H⟩:=zaf H
   obtain ⟨y9,hy10,H⟩:=zaf H
   obtain ⟨hc11,H⟩:=zab H
   obtain ⟨y12,hy13,H⟩:=zaf H
   refine W.region env [] [⟨.po y4.isSome [roL 4 zal ((y4.getD default).Crew.Tasks),roL 1 zac ((y4.getD default).Crew.Travel),roL 3 zak ((y4.getD default).Crew.Hands),roL 1 zaa ((y4.getD default).next)],[],0,[]⟩,⟨.int .i64 (y7),[],0,[]⟩,⟨.po y9.isSome [roL 4 zal ((y9.getD default).Crew.Tasks),roL 1 zac ((y9.getD default).Crew.Travel),roL 3 zak ((y9.getD default).Crew.Hands),roL 1 zaa ((y9.getD default).next)],[],0,[]⟩,⟨.int .i64 (y12),[],0,[]⟩] rfl rfl (by kernel_rfl) .nil (.free (zch p0 (fun x0=>some (zeh x0)) 75 [] [] (fun x0 r h=>by cases h;exact zko x0) hy5) (.free (Ctr.sim (.cons (Sim.zib hc6) .nil) (zdU fuel (y4.getD default) hy8)) (.free (zch p0 (fun x0=>some (zbM x0)) 42 [] [] (fun x0 r h=>by cases h;exact zdK x0) hy10) (.free (Ctr.sim (.cons (Sim.zib hc11) .nil) (zdU fuel (y9.getD default) hy13)) .nil)))) (At.keep (ts:=[2,3]) (ids:=[2]) rfl rfl ?_)
   refine At.zad ?_
   refine W.ret ?_
   cases H
   exact At.ret env.ty rfl rfl nofun (.refl _) hval
theorem zfL (fuel:Nat) {r:Bool} (H:zcx fuel=some r):Ctr Tryz.prog 4 [] (.bool (r)):=by
 unfold zcx at H
 refine Ctr.zan (N:=37) Tryz.func4 (by kernel_rfl) (c:=_) rfl Tryz.ntmps4 rfl (fun w0 h0 hval=>?_)
 refine W.rg env [] [] ?_
 refine W.rg env [1] [1] ?_
 refine W.seq ?_
 obtain ⟨y1,hy2,H⟩:=zaf H
 refine W.region env [] [⟨.tup [roL 1 zac y1.1,.int .i64 (y1.2)],[],0,[]⟩] rfl rfl rfl .nil (.free (Ctr.sim (.cons (Sim.aggL (.cons (.refl _) (.cons (Sim.lit (f:=zaC) ([(⟨0,1,(⟨5,8⟩:Range),(⟨0,1439⟩:Range),0⟩:Way),(⟨1,0,(⟨5,8⟩:Range),(⟨0,1439⟩:Range),0⟩:Way)]:List Way) rfl rfl (fun _=>rfl)) .nil))) .nil) (zfv fuel (⟨2,([(⟨0,1,(⟨5,8⟩:Range),(⟨0,1439⟩:Range),0⟩:Way),(⟨1,0,(⟨5,8⟩:Range),(⟨0,1439⟩:Range),0⟩:Way)]:List Way)⟩:Chart) hy2)) .nil) (At.keep (ts:=[2,3]) (ids:=[]) rfl rfl ?_)
 refine At.zad ?_
 refine W.seq ?_
 refine W.rg env [2,20] [] ?_
 refine W.cond rfl (fun hb3=>?_) (fun hb3=>?_)
 · have H:=zai H hb3
   refine W.rg env [0] [] ?_
   refine W.ret ?_
   refine At.rthen ?_
   cases H
   exact At.ret env.ty rfl rfl nofun (.refl _) hval
 · have H:=zag H hb3
   refine W.skip ?_
   refine At.zad ?_
   refine W.seq ?_
   obtain ⟨y4,hy5,H⟩:=zaf H
   refine W.region env [] [⟨.tup [.agg [.int .i64 (y4.1.Lo),.int .i64 (y4.1.Hi)],.int .i64 (y4.2)],[],0,[]⟩] rfl rfl rfl .nil (.free (Ctr.sim (.cons (Sim.aggL (.cons (Sim.lit (f:=zal) ([(⟨1,0,300,2⟩:Task),(⟨2,1,308,2⟩:Task)]:List Task) rfl rfl (fun _=>rfl)) (.cons (.refl _) (.cons (Sim.nil _ _) .nil)))) .nil) (zjA fuel (⟨([(⟨1,0,300,2⟩:Task),(⟨2,1,308,2⟩:Task)]:List Task),y1.1,[]⟩:Crew) hy5)) .nil) (At.keep (ts:=[4,5]) (ids:=[4]) rfl rfl ?_)
   refine At.zad ?_
   refine W.sr env [] [] [0] [] rfl rfl rfl (.cons id (.cons id (.cons id .nil))) .nil ?_
   refine W.ret ?_
   cases H
   exact At.ret env.ty rfl rfl nofun (.refl _) hval
theorem zax (p0:Int) (p1:Int) {r:Int} (H:zas p0 p1=some r):Ctr Tryz.prog 11 [.int .i64 (p0),.int .i64 (p1)] (.int .i64 (r)):=by
 unfold zas at H
 refine Ctr.zan (N:=12) Tryz.func11 (by kernel_rfl) (c:=_) rfl Tryz.ntmps11 rfl (fun w0 h0 hval=>?_)
 refine W.rg env [0,1] [] ?_
 obtain ⟨hc1,H⟩:=zab H
 obtain ⟨hc2,H⟩:=zab H
 obtain ⟨hc3,H⟩:=zab H
 refine W.sr env [] [] [4] [] rfl rfl rfl (.cons hc1 (.cons hc2 (.cons hc3 .nil))) .nil ?_
 refine W.ret ?_
 cases H
 exact At.ret env.ty rfl rfl nofun (.refl _) hval
theorem ze1 (fuel:Nat) (p0:gasoliertop_Town) {r:(Chart×(List Int))} (H:zbD fuel p0=some r):Ctr Tryz.prog 5 [.agg [roL 3 zaF p0.Ways,roL 3 zaF p0.Lamps,.int .i64 (p0.Law.x0),.int .i64 (p0.Law.x1),.int .i64 (p0.Law.x2),.int .i64 (p0.Law.x3),.int .i64 (p0.Night.x0),.int .i64 (p0.Night.x1),.int .i64 (p0.Night.x2),.int .i64 (p0.Night.x3),roL 2 zbb p0.Hands]] (.tup [.agg [.int .i64 (r.1.Places),roL 7 zaC r.1.Ways],roL 1 zaa r.2]):=by
 unfold zbD at H
 refine Ctr.zan (N:=71) Tryz.func5 (by kernel_rfl) (c:=_) rfl Tryz.ntmps5 rfl (fun w0 h0 hval=>?_)
 refine W.rg env [1,2] [1,2] ?_
 refine W.rg env [1,2,4] [1,2,4] ?_
 refine W.rg env [1,2,4,5] [1,2,4] ?_
 refine W.seq ?_
 refine W.rg env [1,2,4,5,6] [1,2,4] ?_
 refine W.block ?_
 refine At.zgs 4 1 801 88 7 (e:=fun i=>zaC (([]:List Way).getD i default)) rfl rfl rfl ?_
 refine At.zeR 5 505 3 1 (e:=fun i=>zaa (([]:List Int).getD i default)) rfl rfl ?_
 refine At.keep (ts:=[1,2,4,5,6]) (ids:=[1,2,4,505,801]) rfl rfl ?_
 refine W.loopGo H (fun (s1:Int×(List Int)×(List Way))=>[(1,.lp 1 0),(2,.lp 2 0),(4,.lp 4 0),(5,.buf 505 (s1.2.1).length),(6,.int .i64 (s1.1))]) (fun (s1:Int×(List Int)×(List Way))=>[(1,.cells [roL 3 zaF p0.Ways,roL 3 zaF p0.Lamps,.int .i64 (p0.Law.x0),.int .i64 (p0.Law.x1),.int .i64 (p0.Law.x2),.int .i64 (p0.Law.x3),.int .i64 (p0.Night.x0),.int .i64 (p0.Night.x1),.int .i64 (p0.Night.x2),.int .i64 (p0.Night.x3),roL 2 zbb p0.Hands]),(2,.cells [.int .i64 (0),.nilS]),(4,.cells [.int .i64 (3),.buf 801 (s1.2.2).length]),(505,bufL 3 1 zaa s1.2.1),(801,bufL 88 7 zaC s1.2.2)]) (.cons .q (.cons .q (.cons .q (.cons .qb (.cons .qi .nil))))) (.cons .q (.cons .q (.cons (BSim.cells (.cons .q (.cons .qc .nil))) (.cons .q (.cons .q .nil))))) (fun k1 s1 H K0 hK1=>?_)
 refine W.seq ?_
 refine W.rg env [1,2,4,5,6,13] [1,2,4,505,801] ?_
 refine W.cond rfl (fun hb2=>?_) (fun hb2=>?_)
 · have H:=zai H hb2
   refine W.skip ?_
   refine At.zad ?_
   refine W.seq ?_
   refine W.block ?_
   refine W.rg env [1,2,4,5,6,7] [1,2,4,505,801] ?_
   refine W.block ?_
   refine At.keep (ts:=[1,2,4,5,6,7]) (ids:=[1,2,4,505,801]) rfl rfl ?_
   refine W.loopGo H (fun (s3:Int×(List Int)×(List Way))=>[(1,.lp 1 0),(2,.lp 2 0),(4,.lp 4 0),(5,.buf 505 (s3.2.1).length),(6,.int .i64 (s1.1)),(7,.int .i64 (s3.1))]) (fun (s3:Int×(List Int)×(List Way))=>[(1,.cells [roL 3 zaF p0.Ways,roL 3 zaF p0.Lamps,.int .i64 (p0.Law.x0),.int .i64 (p0.Law.x1),.int .i64 (p0.Law.x2),.int .i64 (p0.Law.x3),.int .i64 (p0.Night.x0),.int .i64 (p0.Night.x1),.int .i64 (p0.Night.x2),.int .i64 (p0.Night.x3),roL 2 zbb p0.Hands]),(2,.cells [.int .i64 (0),.nilS]),(4,.cells [.int .i64 (3),.buf 801 (s3.2.2).length]),(505,bufL 3 1 zaa s3.2.1),(801,bufL 88 7 zaC s3.2.2)]) (.cons .q (.cons .q (.cons .q (.cons .qb (.cons .qi (.cons .qi .nil)))))) (.cons .q (.cons .q (.cons (BSim.cells (.cons .q (.cons .qc .nil))) (.cons .q (.cons .q .nil))))) (fun k3 s3 H K0 hK3=>?_)
   refine W.seq ?_
   refine W.rg env [1,2,4,5,6,7,17] [1,2,4,505,801] ?_
   refine W.cond rfl (fun hb4=>?_) (fun hb4=>?_)
   · have H:=zai H hb4
     refine W.skip ?_
     refine At.zad ?_
     refine W.seq ?_
     refine W.zhG H (fun (s5:(List Int)×(List Way))=>[(1,.lp 1 0),(2,.lp 2 0),(4,.lp 4 0),(5,.buf 505 (s5.1).length),(6,.int .i64 (s1.1)),(7,.int .i64 (s3.1))]) (fun (s5:(List Int)×(List Way))=>[(1,.cells [roL 3 zaF p0.Ways,roL 3 zaF p0.Lamps,.int .i64 (p0.Law.x0),.int .i64 (p0.Law.x1),.int .i64 (p0.Law.x2),.int .i64 (p0.Law.x3),.int .i64 (p0.Night.x0),.int .i64 (p0.Night.x1),.int .i64 (p0.Night.x2),.int .i64 (p0.Night.x3),roL 2 zbb p0.Hands]),(2,.cells [.int .i64 (0),.nilS]),(4,.cells [.int .i64 (3),.buf 801 (s5.2).length]),(505,bufL 3 1 zaa s5.1),(801,bufL 88 7 zaC s5.2)]) (fun s5 H=>?_) (fun k5 H hK5=>?_)
     · obtain ⟨hc6,H⟩:=zab H
       refine W.region env [] [] rfl rfl rfl (.cons hc6 .nil) .nil (At.keep (ts:=[1,2,4,5,6,7]) (ids:=[1,2,4,505,801]) rfl rfl ?_)
       refine At.zaE (At.keep (ts:=[1,2,4,5,6,7]) (ids:=[1,2,4,505,801]) rfl rfl ?_)
       exact At.conv (.cons .q (.cons .q (.cons .q (.cons .qb (.cons .qi (.cons .qi .nil)))))) (.cons .q (.cons .q (.cons (BSim.cells (.cons .q (.cons .qc .nil))) (.cons .q (.cons .q .nil))))) (hK3 ((s3.1+1),s5.1,s5.2) H)
     · refine W.block ?_
       refine W.seq ?_
       refine W.rg env [1,2,4,5,6,7,22] [1,2,4,505,801] ?_
       refine W.cond rfl (fun hb7=>?_) (fun hb7=>?_)
       · have H:=zai H hb7
         refine W.exit ?_
         refine At.xthen ?_
         refine At.xhere ?_
         refine At.zaE (At.keep (ts:=[1,2,4,5,6,7]) (ids:=[1,2,4,505,801]) rfl rfl ?_)
         exact At.conv (.cons .q (.cons .q (.cons .q (.cons .qb (.cons .qi (.cons .qi .nil)))))) (.cons .q (.cons .q (.cons (BSim.cells (.cons .q (.cons .qc .nil))) (.cons .q (.cons .q .nil))))) (hK5 (s3.2.1,s3.2.2) H)
       · have H:=zag H hb7
         refine W.skip ?_
         refine At.zad ?_
         refine W.rg env [1,2,4,5,6,7,8] [1,2,4,8,505,801] ?_
         refine W.seq ?_
         refine W.rg env [1,2,4,5,6,7,8,27] [1,2,4,8,505,801] ?_
         refine W.zhG H (fun (s8:(Arr3 Int))=>[(1,.lp 1 0),(2,.lp 2 0),(4,.lp 4 0),(5,.buf 505 (s3.2.1).length),(6,.int .i64 (s1.1)),(7,.int .i64 (s3.1)),(8,.lp 8 0)]) (fun (s8:(Arr3 Int))=>[(1,.cells [roL 3 zaF p0.Ways,roL 3 zaF p0.Lamps,.int .i64 (p0.Law.x0),.int .i64 (p0.Law.x1),.int .i64 (p0.Law.x2),.int .i64 (p0.Law.x3),.int .i64 (p0.Night.x0),.int .i64 (p0.Night.x1),.int .i64 (p0.Night.x2),.int .i64 (p0.Night.x3),roL 2 zbb p0.Hands]),(2,.cells [.int .i64 (0),.nilS]),(4,.cells [.int .i64 (3),.buf 801 (s3.2.2).length]),(8,.cells [.int .i64 (s8.x0),.int .i64 (s8.x1),.int .i64 (s8.x2)]),(505,bufL 3 1 zaa s3.2.1),(801,bufL 88 7 zaC s3.2.2)]) (fun s8 H=>?_) (fun k8 H hK8=>?_)
         · refine W.seq ?_
           obtain ⟨y9,hy10,H⟩:=zaf H
           obtain ⟨hc11,H⟩:=zab H
           refine W.region env [] [⟨.int .i64 (y9),[],0,[]⟩] rfl rfl rfl (.cons (by decide) (.cons hc11 .nil)) (.free (zax s8.x0 20 hy10) .nil) (At.keep (ts:=[1,2,4,5,6,7,8,9]) (ids:=[1,2,4,8,505,801]) rfl rfl ?_)
           refine At.zad ?_
           refine W.seq ?_
           obtain ⟨y12,hy13,H⟩:=zaf H
           refine W.region env [] [⟨.int .i64 (y12),[],0,[]⟩] rfl rfl rfl (.cons (by decide) .nil) (.free (zax s8.x1 15 hy13) .nil) (At.keep (ts:=[1,2,4,5,6,7,8,9,10]) (ids:=[1,2,4,8,505,801]) rfl rfl ?_)
           refine At.zad ?_
           refine W.seq ?_
           obtain ⟨hc14,H⟩:=zab H
           obtain ⟨hc15,H⟩:=zab H
           refine W.region env [] [] rfl rfl rfl (.cons hc14 (.cons (⟨by first|rfl|(simp;done)|omega|(simp;omega),by have:=hc15;first|simpa using this|(unfold room at this ⊢;simp at this ⊢;omega)⟩) .nil)) .nil (At.keep (ts:=[1,2,4,5,6,7,8,9,10]) (ids:=[1,2,4,8,505,801]) rfl rfl ?_)
           refine At.zbo (.cons (.refl _) (.cons (.refl _) (.cons (.refl _) (.cons (.refl _) (.cons (.refl _) (.cons (y:=bufL 88 7 zaC (s3.2.2++([(⟨s1.1,s3.1,(⟨(1+y9),((1+y9)+y12)⟩:Range),(⟨0,1439⟩:Range),0⟩:Way)]:List Way))) (BSim.seg (Seg.push (Seg.refl zaC _) (Seg.lit (f:=zaC) (sz:=7) ([(⟨s1.1,s3.1,(⟨(1+y9),((1+y9)+y12)⟩:Range),(⟨0,1439⟩:Range),0⟩:Way)]:List Way) rfl rfl (fun _=>rfl)))) .nil)))))) ?_
           refine At.zad ?_
           obtain ⟨hc16,H⟩:=zab H
           obtain ⟨y17,hy18,H⟩:=zaf H
           obtain ⟨hc19,H⟩:=zab H
           obtain ⟨hc20,H⟩:=zab H
           refine W.region env [] [⟨.int .i64 (y17),[],0,[]⟩] rfl rfl rfl (.cons (by decide) (.cons hc16 (.cons hc19 (.cons (⟨by first|rfl|(simp;done)|omega|(simp;omega),by have:=hc20;first|simpa using this|(unfold room at this ⊢;simp at this ⊢;omega)⟩) .nil)))) (.free (zax s8.x2 (y12+1) hy18) .nil) (At.keep (ts:=[1,2,4,5,6,7]) (ids:=[1,2,4,505,801]) rfl rfl ?_)
           refine At.zbo (.cons (.refl _) (.cons (.refl _) (.cons (.refl _) (.cons (y:=bufL 3 1 zaa (s3.2.1++([((1+y9)+y17)]:List Int))) (BSim.seg (Seg.push (Seg.refl zaa _) (Seg.lit (f:=zaa) (sz:=1) ([((1+y9)+y17)]:List Int) rfl rfl (fun _=>rfl)))) (.cons (.refl _) .nil))))) ?_
           refine At.inb ?_
           refine At.zaE (At.keep (ts:=[1,2,4,5,6,7]) (ids:=[1,2,4,505,801]) rfl rfl ?_)
           exact At.conv (.cons .q (.cons .q (.cons .q (.cons .qb (.cons .qi (.cons .qi .nil)))))) (.cons .q (.cons .q (.cons (BSim.cells (.cons .q (.cons .qc .nil))) (.cons .q (.cons .q .nil))))) (hK5 ((s3.2.1++([((1+y9)+y17)]:List Int)),(s3.2.2++([(⟨s1.1,s3.1,(⟨(1+y9),((1+y9)+y12)⟩:Range),(⟨0,1439⟩:Range),0⟩:Way)]:List Way))) H)
         · refine W.cond rfl (fun hb21=>?_) (fun hb21=>?_)
           · have H:=zai H hb21
             obtain ⟨hc22,H⟩:=zab H
             obtain ⟨hc23,H⟩:=zab H
             refine W.region env [] [] rfl rfl (by first|rfl|kernel_rfl) (.cons (by first|rfl|(simp;done)|omega|(simp;omega)) (.cons hc22 (.cons hc23 .nil))) .nil (At.keep (ts:=[1,2,4,5,6,7,8]) (ids:=[1,2,4,8,505,801]) rfl rfl ?_)
             refine At.zaE (At.keep (ts:=[1,2,4,5,6,7,8]) (ids:=[1,2,4,8,505,801]) rfl rfl ?_)
             exact At.conv (.cons .q (.cons .q (.cons .q (.cons .qb (.cons .qi (.cons .qi (.cons .q .nil))))))) (.cons .q (.cons .q (.cons (BSim.cells (.cons .q (.cons .qc .nil))) (.cons .q (.cons .q (.cons .q .nil)))))) (hK8 (p0.Ways.getD ((Int.tmod ((s3.2.1.length:Nat):Int) ((p0.Ways.length:Nat):Int))).toNat default) H)
           · have H:=zag H hb21
             refine W.skip ?_
             refine At.zaE (At.keep (ts:=[1,2,4,5,6,7,8]) (ids:=[1,2,4,8,505,801]) rfl rfl ?_)
             exact At.conv (.cons .q (.cons .q (.cons .q (.cons .qb (.cons .qi (.cons .qi (.cons .q .nil))))))) (.cons .q (.cons .q (.cons (BSim.cells (.cons .q (.cons .qc .nil))) (.cons .q (.cons .q (.cons .q .nil)))))) (hK8 (⟨4,3,1⟩:(Arr3 Int)) H)
   · have H:=zag H hb4
     refine W.exit ?_
     refine At.xthen ?_
     refine At.xthen ?_
     refine At.xhere ?_
     refine At.inb ?_
     refine At.zad ?_
     obtain ⟨hc24,H⟩:=zab H
     refine W.region env [] [] rfl rfl rfl (.cons hc24 .nil) .nil (At.keep (ts:=[1,2,4,5,6]) (ids:=[1,2,4,505,801]) rfl rfl ?_)
     refine At.zaE (At.keep (ts:=[1,2,4,5,6]) (ids:=[1,2,4,505,801]) rfl rfl ?_)
     exact At.conv (.cons .q (.cons .q (.cons .q (.cons .qb (.cons .qi .nil))))) (.cons .q (.cons .q (.cons (BSim.cells (.cons .q (.cons .qc .nil))) (.cons .q (.cons .q .nil))))) (hK1 ((s1.1+1),s3.2.1,s3.2.2) H)
 · have H:=zag H hb2
   refine W.exit ?_
   refine At.xthen ?_
   refine At.xthen ?_
   refine At.xhere ?_
   refine At.zad ?_
   refine W.rg env [2,3] [2,505,801] ?_
   refine W.ret ?_
   cases H
   exact At.ret env.ty rfl rfl (fun q hq=>by cases hq;exact ⟨by first|rfl|(simp;done)|omega|(simp;omega),(by first|rfl|(simp;done)|omega|(simp;omega))⟩) (.refl _) hval
theorem zfM (p0:gasoliertop_Town) (p1:Int) {r:(Bylaw×Night)} (H:zbZ p0 p1=some r):Ctr Tryz.prog 6 [.agg [roL 3 zaF p0.Ways,roL 3 zaF p0.Lamps,.int .i64 (p0.Law.x0),.int .i64 (p0.Law.x1),.int .i64 (p0.Law.x2),.int .i64 (p0.Law.x3),.int .i64 (p0.Night.x0),.int .i64 (p0.Night.x1),.int .i64 (p0.Night.x2),.int .i64 (p0.Night.x3),roL 2 zbb p0.Hands],.int .i64 (p1)] (.tup [.agg [roL 11 zaK r.1.Versions,roL 5 zaI r.1.Streets],.agg [.int .i64 (r.2.No),.int .i64 (r.2.Set.Lo),.int .i64 (r.2.Set.Hi),.int .i64 (r.2.Rise.Lo),.int .i64 (r.2.Rise.Hi),.int .i64 (r.2.Light.Lo),.int .i64 (r.2.Light.Hi),.int .i64 (r.2.Fog)]]):=by
 unfold zbZ at H
 refine Ctr.zan (N:=60) Tryz.func6 (by kernel_rfl) (c:=_) rfl Tryz.ntmps6 rfl (fun w0 h0 hval=>?_)
 refine W.rg env [1,2,4,5] [2,4,5] ?_
 refine W.seq ?_
 obtain ⟨y1,hy2,H⟩:=zaf H
 obtain ⟨y3,hy4,H⟩:=zaf H
 refine W.region env [] [⟨.int .i64 (y1),[],0,[]⟩,⟨.int .i64 (y3),[],0,[]⟩] rfl rfl (by kernel_rfl) (.cons (by decide) (.cons (by decide) .nil)) (.free (zax p0.Law.x0 30 hy2) (.free (zax p0.Law.x2 20 hy4) .nil)) (At.keep (ts:=[1,2,4,5,6]) (ids:=[2,4,5,6]) rfl rfl ?_)
 refine At.zad ?_
 refine W.seq ?_
 obtain ⟨hc5,H⟩:=zab H
 obtain ⟨y6,hy7,H⟩:=zaf H
 obtain ⟨hc8,H⟩:=zab H
 refine W.region env [] [⟨.int .i64 (y6),[],0,[]⟩] rfl rfl (by kernel_rfl) (.cons hc5 (.cons (by decide) (.cons hc8 .nil))) (.free (zax p0.Law.x1 60 hy7) .nil) (At.keep (ts:=[1,2,4,5,6]) (ids:=[2,4,5,6]) rfl rfl ?_)
 refine At.zad ?_
 refine W.seq ?_
 obtain ⟨y9,hy10,H⟩:=zaf H
 obtain ⟨hc11,H⟩:=zab H
 obtain ⟨y12,hy13,H⟩:=zaf H
 refine W.region env [] [⟨.int .i64 (y9),[],0,[]⟩,⟨.int .i64 (y12),[],0,[]⟩] rfl rfl (by kernel_rfl) (.cons (by decide) (.cons hc11 (.cons (by decide) .nil))) (.free (zax p0.Night.x0 20 hy10) (.free (zax p0.Night.x2 3 hy13) .nil)) (At.keep (ts:=[1,2,4,5,6,7]) (ids:=[2,4,5,6,7]) rfl rfl ?_)
 refine At.zad ?_
 refine W.seq ?_
 obtain ⟨y14,hy15,H⟩:=zaf H
 obtain ⟨hc16,H⟩:=zab H
 refine W.region env [] [⟨.int .i64 (y14),[],0,[]⟩] rfl rfl (by kernel_rfl) (.cons (by decide) (.cons hc16 .nil)) (.free (zax p0.Night.x1 10 hy15) .nil) (At.keep (ts:=[1,4,5,6,7]) (ids:=[4,5,6,7]) rfl rfl ?_)
 refine At.zad ?_
 refine W.sr env [] [] [4,5] [4,5] rfl rfl (by first|rfl|kernel_rfl) .nil .nil ?_
 refine W.ret ?_
 cases H
 exact At.ret env.ty rfl rfl nofun (Sim.tupL (.cons (Sim.aggL (.cons (Sim.lit (f:=zaK) ([(⟨1,1,0,(⟨y1,((y1+20)+y6)⟩:Range),(⟨5,60⟩:Range),1001,y3,0,0⟩:Version)]:List Version) rfl rfl (fun _=>rfl)) (.cons (Sim.lit (f:=zaI) ([(⟨1,1,1,1,(max p1 1)⟩:Street)]:List Street) rfl rfl (fun _=>rfl)) .nil))) (.cons (.refl _) .nil))) hval
theorem zeZ (p0:Chart) (p1:(List Int)) {r:Bool} (H:zct p0 p1=some r):Ctr Tryz.prog 31 [.agg [.int .i64 (p0.Places),roL 7 zaC p0.Ways],roL 1 zaa p1] (.bool (r)):=by
 unfold zct at H
 refine Ctr.zan (N:=35) Tryz.func31 (by kernel_rfl) (c:=_) rfl Tryz.ntmps31 rfl (fun w0 h0 hval=>?_)
 refine W.rg env [1,2] [2] ?_
 refine W.seq ?_
 refine W.rg env [1,2,13] [2] ?_
 refine W.cond rfl (fun hb1=>?_) (fun hb1=>?_)
 · have H:=zai H hb1
   refine W.rg env [4] [] ?_
   refine W.ret ?_
   refine At.rthen ?_
   cases H
   exact At.ret env.ty rfl rfl nofun (.refl _) hval
 · have H:=zag H hb1
   refine W.skip ?_
   refine At.zad ?_
   refine W.seq ?_
   refine W.rg env [2,14,15,16] [2] ?_
   refine W.block ?_
   refine At.keep (ts:=[2,14,15,16]) (ids:=[2]) rfl rfl ?_
   refine W.len (t:=14) rfl (fun (hn2:p1.length≤maxLen)=>?_)
   refine W.zah H (fun i2 (s2:Unit)=>[(2,.lp 2 0),(14,roL 1 zaa p1),(15,.int .i64 (((p1.length:Nat):Int))),(16,.int .i64 ((i2:Int)))]) (fun i2 (s2:Unit)=>[(2,.cells [.int .i64 (p0.Places),roL 7 zaC p0.Ways])]) (.cons .q (.cons .q (.cons .qi (.cons .qi .nil)))) (.cons .q .nil) (fun k2 i2 s2 hle2 H1 H2 K0 hK2=>?_)
   refine W.rg env [2,14,15,16,17] [2] ?_
   refine W.seq ?_
   refine W.cond rfl (fun hb3=>?_) (fun hb3=>?_)
   · have hi2:i2<p1.length:=by have:=of_decide_eq_true hb3;omega
     have H:=H1 hi2
     refine W.skip ?_
     refine At.zad ?_
     refine W.seq ?_
     refine W.block ?_
     refine W.sr env [] [] [2,5,6,14,15,16] [2] rfl rfl rfl (.cons (⟨by omega,by omega⟩:0≤(i2:Int)∧(i2:Int)<((p1.length:Nat):Int)) .nil) .nil ?_
     obtain ⟨hc4,H⟩:=zab H
     refine W.sr env [] [] [2,6,7,14,15,16] [2,7] rfl rfl rfl (.cons hc4 .nil) .nil ?_
     refine W.sr env [] [⟨.bool ((zaB (p1.getD i2 default) ((p0.Ways.getD i2 default).Takes.Lo) ((p0.Ways.getD i2 default).Takes.Hi))),[],0,[]⟩] [2,14,15,16,33] [2] rfl rfl rfl .nil (.free (zbQ (p1.getD i2 default) ((p0.Ways.getD i2 default).Takes.Lo) ((p0.Ways.getD i2 default).Takes.Hi)) .nil) ?_
     refine W.cond rfl (fun hb5=>?_) (fun hb5=>?_)
     · have H:=zai H hb5
       refine W.rg env [4] [] ?_
       refine W.ret ?_
       refine At.rinb ?_
       refine At.rthen ?_
       refine At.rthen ?_
       refine At.rinb ?_
       refine At.rthen ?_
       cases H
       exact At.ret env.ty rfl rfl nofun (.refl _) hval
     · have H:=zag H hb5
       refine W.skip ?_
       refine At.inb ?_
       refine At.zad ?_
       refine W.region env [] [] rfl rfl rfl (.cons (by unfold inI;have:=hn2;(try unfold maxLen at this);omega) .nil) .nil (At.keep (ts:=[2,14,15,16]) (ids:=[2]) rfl rfl ?_)
       refine At.zaE (At.keep (ts:=[2,14,15,16]) (ids:=[2]) rfl rfl ?_)
       exact At.conv (.cons .q (.cons .q (.cons .qi (.cons .qi .nil)))) (.cons .q .nil) (hK2 hi2 () H)
   · have H:=H2 (by have:=of_decide_eq_false hb3;omega)
     refine W.exit ?_
     refine At.xthen ?_
     refine At.xthen ?_
     refine At.xhere ?_
     refine At.zad ?_
     refine W.rg env [4] [] ?_
     refine W.ret ?_
     cases H
     exact At.ret env.ty rfl rfl nofun (.refl _) hval
theorem zgE (p0:Chart) (p1:(List Int)) {r:Int} (H:zbY p0 p1=some r):Ctr Tryz.prog 8 [.agg [.int .i64 (p0.Places),roL 7 zaC p0.Ways],roL 1 zaa p1] (.int .i64 (r)):=by
 unfold zbY at H
 refine Ctr.zan (N:=15) Tryz.func8 (by kernel_rfl) (c:=_) rfl Tryz.ntmps8 rfl (fun w0 h0 hval=>?_)
 refine W.rg env [1,2] [2] ?_
 refine W.seq ?_
 refine W.seq ?_
 obtain ⟨y1,hy2,H⟩:=zaf H
 refine W.region env [] [⟨.int .i64 (y1),[],0,[]⟩] rfl rfl rfl .nil (.free (zeB p0 hy2) .nil) (At.keep (ts:=[1,2,5]) (ids:=[2]) rfl rfl ?_)
 refine At.zad ?_
 refine W.rg env [1,2,5,9] [2] ?_
 refine W.cond rfl (fun hb3=>?_) (fun hb3=>?_)
 · have H:=zai H hb3
   refine W.rg env [4] [] ?_
   refine W.ret ?_
   refine At.rthen ?_
   cases H
   exact At.ret env.ty rfl rfl nofun (.refl _) hval
 · have H:=zag H hb3
   refine W.skip ?_
   refine At.zad ?_
   refine W.seq ?_
   refine W.seq ?_
   obtain ⟨y4,hy5,H⟩:=zaf H
   refine W.region env [] [⟨.bool (y4),[],0,[]⟩] rfl rfl rfl .nil (.free (zeZ p0 p1 hy5) .nil) (At.keep (ts:=[14]) (ids:=[]) rfl rfl ?_)
   refine At.zad ?_
   refine W.cond rfl (fun hb6=>?_) (fun hb6=>?_)
   · have H:=zai H hb6
     refine W.rg env [4] [] ?_
     refine W.ret ?_
     refine At.rthen ?_
     cases H
     exact At.ret env.ty rfl rfl nofun (.refl _) hval
   · have H:=zag H hb6
     refine W.skip ?_
     refine At.zad ?_
     refine W.rg env [4] [] ?_
     refine W.ret ?_
     cases H
     exact At.ret env.ty rfl rfl nofun (.refl _) hval
theorem zeJ (p0:(List Version)) (p1:Int) (p2:Version→Option Int) (p2_g:Nat) (p2_a p2_b:List AV) (p2_h:∀ x0 r,p2 x0=some r→Ctr Tryz.prog p2_g (p2_a++([.agg [.int .i64 (x0.Source),.int .i64 (x0.Class),.int .i64 (x0.From),.int .i64 (x0.On.Lo),.int .i64 (x0.On.Hi),.int .i64 (x0.Off.Lo),.int .i64 (x0.Off.Hi),.int .i64 (x0.Moon),.int .i64 (x0.Fog),.int .i64 (x0.Known),.int .i64 (x0.Until)]]++p2_b)) (.int .i64 (r))) (p3:Version→Option Int) (p3_g:Nat) (p3_a p3_b:List AV) (p3_h:∀ x0 r,p3 x0=some r→Ctr Tryz.prog p3_g (p3_a++([.agg [.int .i64 (x0.Source),.int .i64 (x0.Class),.int .i64 (x0.From),.int .i64 (x0.On.Lo),.int .i64 (x0.On.Hi),.int .i64 (x0.Off.Lo),.int .i64 (x0.Off.Hi),.int .i64 (x0.Moon),.int .i64 (x0.Fog),.int .i64 (x0.Known),.int .i64 (x0.Until)]]++p3_b)) (.int .i64 (r))) {r:Bool} (H:zbv p0 p1 p2 p3=some r):Ctr Tryz.prog 32 [roL 11 zaK p0,.int .i64 (p1),.clo (.func p2_g) p2_a p2_b,.clo (.func p3_g) p3_a p3_b] (.bool (r)):=by
 unfold zbv at H
 refine Ctr.zan (N:=44) Tryz.func32 (by kernel_rfl) (c:=_) rfl Tryz.ntmps32 rfl (fun w0 h0 hval=>?_)
 refine W.rg env [0,1,2,3] [] ?_
 refine W.seq ?_
 refine W.rg env [0,1,2,3,11,12,13] [] ?_
 refine W.block ?_
 refine At.keep (ts:=[0,1,2,3,11,12,13]) (ids:=[]) rfl rfl ?_
 refine W.len (t:=11) rfl (fun (hn1:p0.length≤maxLen)=>?_)
 refine W.zah H (fun i1 (s1:Unit)=>[(0,roL 11 zaK p0),(1,.int .i64 (p1)),(2,.clo (.func p2_g) p2_a p2_b),(3,.clo (.func p3_g) p3_a p3_b),(11,roL 11 zaK p0),(12,.int .i64 (((p0.length:Nat):Int))),(13,.int .i64 ((i1:Int)))]) (fun i1 (s1:Unit)=>[]) (.cons .q (.cons .qi (.cons .q (.cons .q (.cons .q (.cons .qi (.cons .qi .nil))))))) .nil (fun k1 i1 s1 hle1 H1 H2 K0 hK1=>?_)
 refine W.rg env [0,1,2,3,11,12,13,14] [] ?_
 refine W.seq ?_
 refine W.cond rfl (fun hb2=>?_) (fun hb2=>?_)
 · have hi1:i1<p0.length:=by have:=of_decide_eq_true hb2;omega
   have H:=H1 hi1
   refine W.skip ?_
   refine At.zad ?_
   refine W.seq ?_
   refine W.block ?_
   refine W.sr env [] [] [0,1,2,3,9,10,11,12,13] [10] rfl rfl rfl (.cons (⟨by omega,by omega⟩:0≤(i1:Int)∧(i1:Int)<((p0.length:Nat):Int)) .nil) .nil ?_
   refine W.seq ?_
   obtain ⟨y3,hy4,H⟩:=zaf H
   obtain ⟨hc5,H⟩:=zab H
   obtain ⟨hc6,H⟩:=zab H
   obtain ⟨y7,hy8,H⟩:=zaf H
   obtain ⟨y9,hy10,H⟩:=zaf H
   refine W.region env [] [⟨.int .i64 (y3),[],0,[]⟩,⟨.int .i64 (y7),[],0,[]⟩,⟨.int .i64 (y9),[],0,[]⟩] rfl rfl (by kernel_rfl) (.cons id (.cons id (.cons hc5 (.cons id (.cons hc6 (.cons id (.cons id (.cons id (.cons id (.cons id (.cons id (.cons id (.cons id (.cons id (.cons id (.cons (fun hW h=>by revert hW h;first|(simp +contextual;done)|grind) (.cons (fun h=>by rw [h];rfl) .nil))))))))))))))))) (.free (p2_h (p0.getD i1 default) _ hy4) (.on (fun hW=>p3_h (p0.getD (((i1:Int) - 1)).toNat default) _ (zai hy8 hW)) (.on (fun hW=>p3_h (p0.getD i1 default) _ (zai hy10 hW)) .nil))) (At.keep (ts:=[0,1,2,3,11,12,13,38]) (ids:=[]) rfl rfl ?_)
   refine At.zad ?_
   refine W.cond rfl (fun hb11=>?_) (fun hb11=>?_)
   · have H:=zai H hb11
     refine W.rg env [8] [] ?_
     refine W.ret ?_
     refine At.rinb ?_
     refine At.rthen ?_
     refine At.rthen ?_
     refine At.rinb ?_
     refine At.rthen ?_
     cases H
     exact At.ret env.ty rfl rfl nofun (.refl _) hval
   · have H:=zag H hb11
     refine W.skip ?_
     refine At.inb ?_
     refine At.zad ?_
     refine W.region env [] [] rfl rfl rfl (.cons (by unfold inI;have:=hn1;(try unfold maxLen at this);omega) .nil) .nil (At.keep (ts:=[0,1,2,3,11,12,13]) (ids:=[]) rfl rfl ?_)
     refine At.zaE (At.keep (ts:=[0,1,2,3,11,12,13]) (ids:=[]) rfl rfl ?_)
     exact At.conv (.cons .q (.cons .qi (.cons .q (.cons .q (.cons .q (.cons .qi (.cons .qi .nil))))))) .nil (hK1 hi1 () H)
 · have H:=H2 (by have:=of_decide_eq_false hb2;omega)
   refine W.exit ?_
   refine At.xthen ?_
   refine At.xthen ?_
   refine At.xhere ?_
   refine At.zad ?_
   refine W.rg env [8] [] ?_
   refine W.ret ?_
   cases H
   exact At.ret env.ty rfl rfl nofun (.refl _) hval
theorem za6 (p0:Int) (p1:Int) (p2:Int):Ctr Tryz.prog 84 [.int .i64 (p0),.int .i64 (p1),.int .i64 (p2)] (.bool ((zau p0 p1 p2))):=by
 obtain ⟨r,H⟩:∃ r,zau p0 p1 p2=r:=⟨_,rfl⟩
 rw [H]
 unfold zau at H
 refine Ctr.zan (N:=15) Tryz.func84 (by kernel_rfl) (c:=_) rfl Tryz.ntmps84 rfl (fun w0 h0 hval=>?_)
 refine W.rg env [0,1,2] [] ?_
 refine W.sr env [] [] [6] [] rfl rfl rfl (.cons id (.cons id (.cons id .nil))) .nil ?_
 refine W.ret ?_
 cases H
 exact At.ret env.ty rfl rfl nofun (.refl _) hval
theorem zb4 (p0:Int):Ctr Tryz.prog 61 [.int .i64 (p0)] (.bool ((zaJ p0))):=by
 obtain ⟨r,H⟩:∃ r,zaJ p0=r:=⟨_,rfl⟩
 rw [H]
 unfold zaJ at H
 refine Ctr.zan (N:=5) Tryz.func61 (by kernel_rfl) (c:=_) rfl Tryz.ntmps61 rfl (fun w0 h0 hval=>?_)
 refine W.rg env [0] [] ?_
 refine W.sr env [] [⟨.bool ((zau p0 0 100000)),[],0,[]⟩] [2] [] rfl rfl rfl .nil (.free (za6 p0 0 100000) .nil) ?_
 refine W.ret ?_
 cases H
 exact At.ret env.ty rfl rfl nofun (.refl _) hval
theorem zcr (p0:Range) (p1:Int):Ctr Tryz.prog 85 [.agg [.int .i64 (p0.Lo),.int .i64 (p0.Hi)],.int .i64 (p1)] (.bool ((zaL p0 p1))):=by
 obtain ⟨r,H⟩:∃ r,zaL p0 p1=r:=⟨_,rfl⟩
 rw [H]
 unfold zaL at H
 refine Ctr.zan (N:=21) Tryz.func85 (by kernel_rfl) (c:=_) rfl Tryz.ntmps85 rfl (fun w0 h0 hval=>?_)
 refine W.rg env [1,2] [2] ?_
 refine W.sr env [] [] [4] [] rfl rfl rfl (.cons id (.cons id (.cons id (.cons id (.cons id (.cons id (.cons id (.cons id (.cons id .nil))))))))) .nil ?_
 refine W.ret ?_
 cases H
 exact At.ret env.ty rfl rfl nofun (.refl _) hval
theorem zfr (p0:Version) {r:Int} (H:zaS p0=some r):Ctr Tryz.prog 33 [.agg [.int .i64 (p0.Source),.int .i64 (p0.Class),.int .i64 (p0.From),.int .i64 (p0.On.Lo),.int .i64 (p0.On.Hi),.int .i64 (p0.Off.Lo),.int .i64 (p0.Off.Hi),.int .i64 (p0.Moon),.int .i64 (p0.Fog),.int .i64 (p0.Known),.int .i64 (p0.Until)]] (.int .i64 (r)):=by
 unfold zaS at H
 refine Ctr.zan (N:=63) Tryz.func33 (by kernel_rfl) (c:=_) rfl Tryz.ntmps33 rfl (fun w0 h0 hval=>?_)
 refine W.rg env [1] [1] ?_
 refine W.seq ?_
 obtain ⟨hc1,H⟩:=zab H
 refine W.sr env [] [⟨.bool ((zau p0.Source 1 99999)),[],0,[]⟩,⟨.bool ((zau p0.Class 1 9)),[],0,[]⟩,⟨.bool ((zaJ p0.From)),[],0,[]⟩,⟨.bool ((zaL p0.On 600)),[],0,[]⟩,⟨.bool ((zaL p0.Off 600)),[],0,[]⟩,⟨.bool ((zau p0.Moon 0 1001)),[],0,[]⟩,⟨.bool ((zau p0.Fog 0 600)),[],0,[]⟩,⟨.bool ((zaJ p0.Known)),[],0,[]⟩,⟨.bool ((zau p0.Until (p0.Known+1) 100000)),[],0,[]⟩] [62] [] rfl rfl rfl (.cons id (.cons id (.cons id (.cons (fun h=>by rw [h];rfl) (.cons id (.cons id (.cons id (.cons (fun h=>by rw [h];rfl) (.cons id (.cons id (.cons id (.cons (fun h=>by rw [h];rfl) (.cons id (.cons id (.cons id (.cons (fun h=>by rw [h];rfl) (.cons id (.cons id (.cons id (.cons (fun h=>by rw [h];rfl) (.cons id (.cons id (.cons id (.cons (fun h=>by rw [h];rfl) (.cons id (.cons id (.cons id (.cons (fun h=>by rw [h];rfl) (.cons id (.cons id (.cons id (.cons id (.cons id (.cons hc1 (.cons id (.cons id (.cons id (.cons id (.cons id (.cons (fun hW h=>by revert hW h;first|(simp +contextual;done)|grind) (.cons (fun h=>by rw [h];rfl) .nil))))))))))))))))))))))))))))))))))))))))) (.free (za6 p0.Source 1 99999) (.on (fun hW=>za6 p0.Class 1 9) (.on (fun hW=>zb4 p0.From) (.on (fun hW=>zcr p0.On 600) (.on (fun hW=>zcr p0.Off 600) (.on (fun hW=>za6 p0.Moon 0 1001) (.on (fun hW=>za6 p0.Fog 0 600) (.on (fun hW=>zb4 p0.Known) (.on (fun hW=>za6 p0.Until (p0.Known+1) 100000) .nil))))))))) ?_
 refine W.cond rfl (fun hb2=>?_) (fun hb2=>?_)
 · have H:=zai H hb2
   refine W.rg env [2] [] ?_
   refine W.ret ?_
   refine At.rthen ?_
   cases H
   exact At.ret env.ty rfl rfl nofun (.refl _) hval
 · have H:=zag H hb2
   refine W.skip ?_
   refine At.zad ?_
   refine W.rg env [2] [] ?_
   refine W.ret ?_
   cases H
   exact At.ret env.ty rfl rfl nofun (.refl _) hval
theorem zg1 (p0:Version):Ctr Tryz.prog 34 [.agg [.int .i64 (p0.Source),.int .i64 (p0.Class),.int .i64 (p0.From),.int .i64 (p0.On.Lo),.int .i64 (p0.On.Hi),.int .i64 (p0.Off.Lo),.int .i64 (p0.Off.Hi),.int .i64 (p0.Moon),.int .i64 (p0.Fog),.int .i64 (p0.Known),.int .i64 (p0.Until)]] (.int .i64 ((zci p0))):=by
 obtain ⟨r,H⟩:∃ r,zci p0=r:=⟨_,rfl⟩
 rw [H]
 unfold zci at H
 refine Ctr.zan (N:=5) Tryz.func34 (by kernel_rfl) (c:=_) rfl Tryz.ntmps34 rfl (fun w0 h0 hval=>?_)
 refine W.rg env [1] [1] ?_
 refine W.rg env [2] [] ?_
 refine W.ret ?_
 cases H
 exact At.ret env.ty rfl rfl nofun (.refl _) hval
theorem ze3 (p0:(List Street)) (p1:Int) (p2:Street→Option Int) (p2_g:Nat) (p2_a p2_b:List AV) (p2_h:∀ x0 r,p2 x0=some r→Ctr Tryz.prog p2_g (p2_a++([.agg [.int .i64 (x0.Id),.int .i64 (x0.Class),.int .i64 (x0.District),.int .i64 (x0.First),.int .i64 (x0.Many)]]++p2_b)) (.int .i64 (r))) (p3:Street→Option Int) (p3_g:Nat) (p3_a p3_b:List AV) (p3_h:∀ x0 r,p3 x0=some r→Ctr Tryz.prog p3_g (p3_a++([.agg [.int .i64 (x0.Id),.int .i64 (x0.Class),.int .i64 (x0.District),.int .i64 (x0.First),.int .i64 (x0.Many)]]++p3_b)) (.int .i64 (r))) {r:Bool} (H:zbF p0 p1 p2 p3=some r):Ctr Tryz.prog 35 [roL 5 zaI p0,.int .i64 (p1),.clo (.func p2_g) p2_a p2_b,.clo (.func p3_g) p3_a p3_b] (.bool (r)):=by
 unfold zbF at H
 refine Ctr.zan (N:=44) Tryz.func35 (by kernel_rfl) (c:=_) rfl Tryz.ntmps35 rfl (fun w0 h0 hval=>?_)
 refine W.rg env [0,1,2,3] [] ?_
 refine W.seq ?_
 refine W.rg env [0,1,2,3,11,12,13] [] ?_
 refine W.block ?_
 refine At.keep (ts:=[0,1,2,3,11,12,13]) (ids:=[]) rfl rfl ?_
 refine W.len (t:=11) rfl (fun (hn1:p0.length≤maxLen)=>?_)
 refine W.zah H (fun i1 (s1:Unit)=>[(0,roL 5 zaI p0),(1,.int .i64 (p1)),(2,.clo (.func p2_g) p2_a p2_b),(3,.clo (.func p3_g) p3_a p3_b),(11,roL 5 zaI p0),(12,.int .i64 (((p0.length:Nat):Int))),(13,.int .i64 ((i1:Int)))]) (fun i1 (s1:Unit)=>[]) (.cons .q (.cons .qi (.cons .q (.cons .q (.cons .q (.cons .qi (.cons .qi .nil))))))) .nil (fun k1 i1 s1 hle1 H1 H2 K0 hK1=>?_)
 refine W.rg env [0,1,2,3,11,12,13,14] [] ?_
 refine W.seq ?_
 refine W.cond rfl (fun hb2=>?_) (fun hb2=>?_)
 · have hi1:i1<p0.length:=by have:=of_decide_eq_true hb2;omega
   have H:=H1 hi1
   refine W.skip ?_
   refine At.zad ?_
   refine W.seq ?_
   refine W.block ?_
   refine W.sr env [] [] [0,1,2,3,9,10,11,12,13] [10] rfl rfl rfl (.cons (⟨by omega,by omega⟩:0≤(i1:Int)∧(i1:Int)<((p0.length:Nat):Int)) .nil) .nil ?_
   refine W.seq ?_
   obtain ⟨y3,hy4,H⟩:=zaf H
   obtain ⟨hc5,H⟩:=zab H
   obtain ⟨hc6,H⟩:=zab H
   obtain ⟨y7,hy8,H⟩:=zaf H
   obtain ⟨y9,hy10,H⟩:=zaf H
   refine W.region env [] [⟨.int .i64 (y3),[],0,[]⟩,⟨.int .i64 (y7),[],0,[]⟩,⟨.int .i64 (y9),[],0,[]⟩] rfl rfl (by kernel_rfl) (.cons id (.cons id (.cons hc5 (.cons id (.cons hc6 (.cons id (.cons id (.cons id (.cons id (.cons id (.cons id (.cons id (.cons id (.cons id (.cons id (.cons (fun hW h=>by revert hW h;first|(simp +contextual;done)|grind) (.cons (fun h=>by rw [h];rfl) .nil))))))))))))))))) (.free (p2_h (p0.getD i1 default) _ hy4) (.on (fun hW=>p3_h (p0.getD (((i1:Int) - 1)).toNat default) _ (zai hy8 hW)) (.on (fun hW=>p3_h (p0.getD i1 default) _ (zai hy10 hW)) .nil))) (At.keep (ts:=[0,1,2,3,11,12,13,38]) (ids:=[]) rfl rfl ?_)
   refine At.zad ?_
   refine W.cond rfl (fun hb11=>?_) (fun hb11=>?_)
   · have H:=zai H hb11
     refine W.rg env [8] [] ?_
     refine W.ret ?_
     refine At.rinb ?_
     refine At.rthen ?_
     refine At.rthen ?_
     refine At.rinb ?_
     refine At.rthen ?_
     cases H
     exact At.ret env.ty rfl rfl nofun (.refl _) hval
   · have H:=zag H hb11
     refine W.skip ?_
     refine At.inb ?_
     refine At.zad ?_
     refine W.region env [] [] rfl rfl rfl (.cons (by unfold inI;have:=hn1;(try unfold maxLen at this);omega) .nil) .nil (At.keep (ts:=[0,1,2,3,11,12,13]) (ids:=[]) rfl rfl ?_)
     refine At.zaE (At.keep (ts:=[0,1,2,3,11,12,13]) (ids:=[]) rfl rfl ?_)
     exact At.conv (.cons .q (.cons .qi (.cons .q (.cons .q (.cons .q (.cons .qi (.cons .qi .nil))))))) .nil (hK1 hi1 () H)
 · have H:=H2 (by have:=of_decide_eq_false hb2;omega)
   refine W.exit ?_
   refine At.xthen ?_
   refine At.xthen ?_
   refine At.xhere ?_
   refine At.zad ?_
   refine W.rg env [8] [] ?_
   refine W.ret ?_
   cases H
   exact At.ret env.ty rfl rfl nofun (.refl _) hval
theorem zfP (p0:Street) {r:Int} (H:za0 p0=some r):Ctr Tryz.prog 36 [.agg [.int .i64 (p0.Id),.int .i64 (p0.Class),.int .i64 (p0.District),.int .i64 (p0.First),.int .i64 (p0.Many)]] (.int .i64 (r)):=by
 unfold za0 at H
 refine Ctr.zan (N:=40) Tryz.func36 (by kernel_rfl) (c:=_) rfl Tryz.ntmps36 rfl (fun w0 h0 hval=>?_)
 refine W.rg env [1] [1] ?_
 refine W.seq ?_
 obtain ⟨hc1,H⟩:=zab H
 obtain ⟨hc2,H⟩:=zab H
 refine W.sr env [] [⟨.bool ((zau p0.Id 1 99)),[],0,[]⟩,⟨.bool ((zau p0.Class 1 9)),[],0,[]⟩,⟨.bool ((zau p0.District 1 9)),[],0,[]⟩,⟨.bool ((zau p0.First 1 999)),[],0,[]⟩,⟨.bool ((zau p0.Many 1 200)),[],0,[]⟩] [39] [] rfl rfl rfl (.cons id (.cons id (.cons id (.cons (fun h=>by rw [h];rfl) (.cons id (.cons id (.cons id (.cons (fun h=>by rw [h];rfl) (.cons id (.cons id (.cons id (.cons (fun h=>by rw [h];rfl) (.cons id (.cons id (.cons id (.cons (fun h=>by rw [h];rfl) (.cons id (.cons id (.cons hc1 (.cons id (.cons id (.cons hc2 (.cons id (.cons id (.cons (fun h=>by rw [h];rfl) .nil))))))))))))))))))))))))) (.free (za6 p0.Id 1 99) (.on (fun hW=>za6 p0.Class 1 9) (.on (fun hW=>za6 p0.District 1 9) (.on (fun hW=>za6 p0.First 1 999) (.on (fun hW=>za6 p0.Many 1 200) .nil))))) ?_
 refine W.cond rfl (fun hb3=>?_) (fun hb3=>?_)
 · have H:=zai H hb3
   refine W.rg env [2] [] ?_
   refine W.ret ?_
   refine At.rthen ?_
   cases H
   exact At.ret env.ty rfl rfl nofun (.refl _) hval
 · have H:=zag H hb3
   refine W.skip ?_
   refine At.zad ?_
   refine W.rg env [2] [] ?_
   refine W.ret ?_
   cases H
   exact At.ret env.ty rfl rfl nofun (.refl _) hval
theorem zkq (p0:Street):Ctr Tryz.prog 37 [.agg [.int .i64 (p0.Id),.int .i64 (p0.Class),.int .i64 (p0.District),.int .i64 (p0.First),.int .i64 (p0.Many)]] (.int .i64 ((zdz p0))):=by
 obtain ⟨r,H⟩:∃ r,zdz p0=r:=⟨_,rfl⟩
 rw [H]
 unfold zdz at H
 refine Ctr.zan (N:=5) Tryz.func37 (by kernel_rfl) (c:=_) rfl Tryz.ntmps37 rfl (fun w0 h0 hval=>?_)
 refine W.rg env [1] [1] ?_
 refine W.rg env [2] [] ?_
 refine W.ret ?_
 cases H
 exact At.ret env.ty rfl rfl nofun (.refl _) hval
theorem zfO (p0:Street) (p1:Int) {r:Bool} (H:zem p0 p1=some r):Ctr Tryz.prog 38 [.agg [.int .i64 (p0.Id),.int .i64 (p0.Class),.int .i64 (p0.District),.int .i64 (p0.First),.int .i64 (p0.Many)],.int .i64 (p1)] (.bool (r)):=by
 unfold zem at H
 refine Ctr.zan (N:=15) Tryz.func38 (by kernel_rfl) (c:=_) rfl Tryz.ntmps38 rfl (fun w0 h0 hval=>?_)
 refine W.rg env [1,2] [2] ?_
 obtain ⟨hc1,H⟩:=zab H
 obtain ⟨hc2,H⟩:=zab H
 refine W.sr env [] [⟨.bool ((zau p1 p0.First ((p0.First+p0.Many) - 1))),[],0,[]⟩] [4] [] rfl rfl rfl (.cons hc1 (.cons hc2 .nil)) (.free (za6 p1 p0.First ((p0.First+p0.Many) - 1)) .nil) ?_
 refine W.ret ?_
 cases H
 exact At.ret env.ty rfl rfl nofun (.refl _) hval
theorem zeC (p0:Bylaw) {r:Int} (H:zcK p0=some r):Ctr Tryz.prog 9 [.agg [roL 11 zaK p0.Versions,roL 5 zaI p0.Streets]] (.int .i64 (r)):=by
 unfold zcK at H
 refine Ctr.zan (N:=46) Tryz.func9 (by kernel_rfl) (c:=_) rfl Tryz.ntmps9 rfl (fun w0 h0 hval=>?_)
 refine W.rg env [1] [1] ?_
 refine W.seq ?_
 refine W.seq ?_
 obtain ⟨y1,hy2,H⟩:=zaf H
 obtain ⟨y3,hy4,H⟩:=zaf H
 refine W.region env [] [⟨.bool (y1),[],0,[]⟩,⟨.bool (y3),[],0,[]⟩] rfl rfl rfl (.cons id (.cons id (.cons id (.cons (fun h=>by rw [h];rfl) .nil)))) (.free (zeJ p0.Versions 60 (fun x0=>zaS x0) 33 [] [] (fun x0 r h=>zfr x0 h) (fun x0=>some (zci x0)) 34 [] [] (fun x0 r h=>by cases h;exact zg1 x0) hy2) (.on (fun hW=>ze3 p0.Streets 20 (fun x0=>za0 x0) 36 [] [] (fun x0 r h=>zfP x0 h) (fun x0=>some (zdz x0)) 37 [] [] (fun x0 r h=>by cases h;exact zkq x0) (zai hy4 hW)) .nil)) (At.keep (ts:=[1,16]) (ids:=[1]) rfl rfl ?_)
 refine At.zad ?_
 refine W.cond rfl (fun hb5=>?_) (fun hb5=>?_)
 · have H:=zai H hb5
   refine W.rg env [2] [] ?_
   refine W.ret ?_
   refine At.rthen ?_
   cases H
   exact At.ret env.ty rfl rfl nofun (.refl _) hval
 · have H:=zag H hb5
   refine W.skip ?_
   refine At.zad ?_
   refine W.seq ?_
   refine W.rg env [1,18,19,20] [1] ?_
   refine W.block ?_
   refine At.keep (ts:=[1,18,19,20]) (ids:=[1]) rfl rfl ?_
   refine W.len (t:=18) rfl (fun (hn6:p0.Streets.length≤maxLen)=>?_)
   refine W.zah H (fun i6 (s6:Unit)=>[(1,.lp 1 0),(18,roL 5 zaI p0.Streets),(19,.int .i64 (((p0.Streets.length:Nat):Int))),(20,.int .i64 ((i6:Int)))]) (fun i6 (s6:Unit)=>[(1,.cells [roL 11 zaK p0.Versions,roL 5 zaI p0.Streets])]) (.cons .q (.cons .q (.cons .qi (.cons .qi .nil)))) (.cons .q .nil) (fun k6 i6 s6 hle6 H1 H2 K0 hK6=>?_)
   refine W.rg env [1,18,19,20,21] [1] ?_
   refine W.seq ?_
   refine W.cond rfl (fun hb7=>?_) (fun hb7=>?_)
   · have hi6:i6<p0.Streets.length:=by have:=of_decide_eq_true hb7;omega
     have H:=H1 hi6
     refine W.skip ?_
     refine At.zad ?_
     refine W.seq ?_
     refine W.block ?_
     refine W.sr env [] [] [1,3,4,18,19,20] [1,4] rfl rfl rfl (.cons (⟨by omega,by omega⟩:0≤(i6:Int)∧(i6:Int)<((p0.Streets.length:Nat):Int)) .nil) .nil ?_
     refine W.seq ?_
     obtain ⟨hc8,H⟩:=zab H
     refine W.region env [] [] rfl rfl rfl (.cons hc8 .nil) .nil (At.keep (ts:=[1,4,18,19,20,28,29,30]) (ids:=[1,4]) rfl rfl ?_)
     refine At.slot (t:=28) (v:=roL 5 zaI (p0.Streets.take i6)) (Sim.seg (Seg.take zaI p0.Streets i6 (by omega))) ?_
     refine At.zad ?_
     refine W.block ?_
     refine At.keep (ts:=[1,4,18,19,20,28,29,30]) (ids:=[1,4]) rfl rfl ?_
     refine W.len (t:=28) rfl (fun (hn9:(p0.Streets.take i6).length≤maxLen)=>?_)
     refine W.zah H (fun i9 (s9:Unit)=>[(1,.lp 1 0),(4,.lp 4 0),(18,roL 5 zaI p0.Streets),(19,.int .i64 (((p0.Streets.length:Nat):Int))),(20,.int .i64 ((i6:Int))),(28,roL 5 zaI (p0.Streets.take i6)),(29,.int .i64 ((((p0.Streets.take i6).length:Nat):Int))),(30,.int .i64 ((i9:Int)))]) (fun i9 (s9:Unit)=>[(1,.cells [roL 11 zaK p0.Versions,roL 5 zaI p0.Streets]),(4,.cells [.int .i64 ((p0.Streets.getD i6 default).Id),.int .i64 ((p0.Streets.getD i6 default).Class),.int .i64 ((p0.Streets.getD i6 default).District),.int .i64 ((p0.Streets.getD i6 default).First),.int .i64 ((p0.Streets.getD i6 default).Many)])]) (.cons .q (.cons .q (.cons .q (.cons .qi (.cons .qi (.cons .q (.cons .qi (.cons .qi .nil)))))))) (.cons .q (.cons .q .nil)) (fun k9 i9 s9 hle9 H1 H2 K0 hK9=>?_)
     refine W.rg env [1,4,18,19,20,28,29,30,31] [1,4] ?_
     refine W.seq ?_
     refine W.cond rfl (fun hb10=>?_) (fun hb10=>?_)
     · have hi9:i9<(p0.Streets.take i6).length:=by have:=of_decide_eq_true hb10;omega
       have H:=H1 hi9
       refine W.skip ?_
       refine At.zad ?_
       refine W.seq ?_
       refine W.block ?_
       refine W.sr env [] [] [1,4,6,18,19,20,28,29,30] [1,4,6] rfl rfl rfl (.cons (⟨by omega,by omega⟩:0≤(i9:Int)∧(i9:Int)<(((p0.Streets.take i6).length:Nat):Int)) .nil) .nil ?_
       refine W.seq ?_
       obtain ⟨y11,hy12,H⟩:=zaf H
       obtain ⟨y13,hy14,H⟩:=zaf H
       refine W.region env [] [⟨.bool (y11),[],0,[]⟩,⟨.bool (y13),[],0,[]⟩] rfl rfl rfl (.cons id (.cons id (.cons id (.cons (fun h=>by rw [h];rfl) .nil)))) (.free (zfO (p0.Streets.getD i6 default) (((p0.Streets.take i6).getD i9 default).First) hy12) (.on (fun hW=>zfO ((p0.Streets.take i6).getD i9 default) ((p0.Streets.getD i6 default).First) (zai hy14 hW)) .nil)) (At.keep (ts:=[1,4,18,19,20,28,29,30,43]) (ids:=[1,4]) rfl rfl ?_)
       refine At.zad ?_
       refine W.cond rfl (fun hb15=>?_) (fun hb15=>?_)
       · have H:=zai H hb15
         refine W.rg env [2] [] ?_
         refine W.ret ?_
         refine At.rinb ?_
         refine At.rthen ?_
         refine At.rthen ?_
         refine At.rinb ?_
         refine At.rinb ?_
         refine At.rthen ?_
         refine At.rthen ?_
         refine At.rinb ?_
         refine At.rthen ?_
         cases H
         exact At.ret env.ty rfl rfl nofun (.refl _) hval
       · have H:=zag H hb15
         refine W.skip ?_
         refine At.inb ?_
         refine At.zad ?_
         refine W.region env [] [] rfl rfl rfl (.cons (by unfold inI;have:=hn9;(try unfold maxLen at this);omega) .nil) .nil (At.keep (ts:=[1,4,18,19,20,28,29,30]) (ids:=[1,4]) rfl rfl ?_)
         refine At.zaE (At.keep (ts:=[1,4,18,19,20,28,29,30]) (ids:=[1,4]) rfl rfl ?_)
         exact At.conv (.cons .q (.cons .q (.cons .q (.cons .qi (.cons .qi (.cons .q (.cons .qi (.cons .qi .nil)))))))) (.cons .q (.cons .q .nil)) (hK9 hi9 () H)
     · have H:=H2 (by have:=of_decide_eq_false hb10;omega)
       refine W.exit ?_
       refine At.xthen ?_
       refine At.xthen ?_
       refine At.xhere ?_
       refine At.inb ?_
       refine At.zad ?_
       refine W.region env [] [] rfl rfl rfl (.cons (by unfold inI;have:=hn6;(try unfold maxLen at this);omega) .nil) .nil (At.keep (ts:=[1,18,19,20]) (ids:=[1]) rfl rfl ?_)
       refine At.zaE (At.keep (ts:=[1,18,19,20]) (ids:=[1]) rfl rfl ?_)
       exact At.conv (.cons .q (.cons .q (.cons .qi (.cons .qi .nil)))) (.cons .q .nil) (hK6 hi6 () H)
   · have H:=H2 (by have:=of_decide_eq_false hb7;omega)
     refine W.exit ?_
     refine At.xthen ?_
     refine At.xthen ?_
     refine At.xhere ?_
     refine At.zad ?_
     refine W.rg env [2] [] ?_
     refine W.ret ?_
     cases H
     exact At.ret env.ty rfl rfl nofun (.refl _) hval
theorem zgd (p0:Night):Ctr Tryz.prog 86 [.agg [.int .i64 (p0.No),.int .i64 (p0.Set.Lo),.int .i64 (p0.Set.Hi),.int .i64 (p0.Rise.Lo),.int .i64 (p0.Rise.Hi),.int .i64 (p0.Light.Lo),.int .i64 (p0.Light.Hi),.int .i64 (p0.Fog)]] (.int .i64 ((za8 p0))):=by
 obtain ⟨r,H⟩:∃ r,za8 p0=r:=⟨_,rfl⟩
 rw [H]
 unfold za8 at H
 refine Ctr.zan (N:=40) Tryz.func86 (by kernel_rfl) (c:=_) rfl Tryz.ntmps86 rfl (fun w0 h0 hval=>?_)
 refine W.rg env [1] [1] ?_
 refine W.seq ?_
 refine W.sr env [] [⟨.bool ((zaJ p0.No)),[],0,[]⟩,⟨.bool ((zaL p0.Set 1439)),[],0,[]⟩,⟨.bool ((zaL p0.Rise 1439)),[],0,[]⟩,⟨.bool ((zaL p0.Light 1000)),[],0,[]⟩,⟨.bool ((zau p0.Fog 0 2)),[],0,[]⟩] [39] [] rfl rfl rfl (.cons id (.cons id (.cons id (.cons (fun h=>by rw [h];rfl) (.cons id (.cons id (.cons id (.cons (fun h=>by rw [h];rfl) (.cons id (.cons id (.cons id (.cons id (.cons id (.cons id (.cons (fun h=>by rw [h];rfl) (.cons id (.cons id (.cons id (.cons (fun h=>by rw [h];rfl) (.cons id (.cons id (.cons id (.cons (fun h=>by rw [h];rfl) .nil))))))))))))))))))))))) (.free (zb4 p0.No) (.on (fun hW=>zcr p0.Set 1439) (.on (fun hW=>zcr p0.Rise 1439) (.on (fun hW=>zcr p0.Light 1000) (.on (fun hW=>za6 p0.Fog 0 2) .nil))))) ?_
 refine W.cond rfl (fun hb1=>?_) (fun hb1=>?_)
 · have H:=zai H hb1
   refine W.rg env [2] [] ?_
   refine W.ret ?_
   refine At.rthen ?_
   cases H
   exact At.ret env.ty rfl rfl nofun (.refl _) hval
 · have H:=zag H hb1
   refine W.skip ?_
   refine At.zad ?_
   refine W.rg env [2] [] ?_
   refine W.ret ?_
   cases H
   exact At.ret env.ty rfl rfl nofun (.refl _) hval
theorem zd1 (p0:(List Street)) (p1:Street→Option Bool) (p1_g:Nat) (p1_a p1_b:List AV) (p1_h:∀ x0 r,p1 x0=some r→Ctr Tryz.prog p1_g (p1_a++([.agg [.int .i64 (x0.Id),.int .i64 (x0.Class),.int .i64 (x0.District),.int .i64 (x0.First),.int .i64 (x0.Many)]]++p1_b)) (.bool (r))) {r:Int} (H:za1 p0 p1=some r):Ctr Tryz.prog 125 [roL 5 zaI p0,.clo (.func p1_g) p1_a p1_b] (.int .i64 (r)):=by
 unfold za1 at H
 refine Ctr.zan (N:=19) Tryz.func125 (by kernel_rfl) (c:=_) rfl Tryz.ntmps125 rfl (fun w0 h0 hval=>?_)
 refine W.rg env [0,1] [] ?_
 refine W.seq ?_
 refine W.rg env [0,1,7,8] [] ?_
 refine W.block ?_
 refine At.keep (ts:=[0,1,7,8]) (ids:=[]) rfl rfl ?_
 refine W.len (t:=0) rfl (fun (hn1:p0.length≤maxLen)=>?_)
 refine W.zah H (fun i1 (s1:Unit)=>[(0,roL 5 zaI p0),(1,.clo (.func p1_g) p1_a p1_b),(7,.int .i64 (((p0.length:Nat):Int))),(8,.int .i64 ((i1:Int)))]) (fun i1 (s1:Unit)=>[]) (.cons .q (.cons .q (.cons .qi (.cons .qi .nil)))) .nil (fun k1 i1 s1 hle1 H1 H2 K0 hK1=>?_)
 refine W.rg env [0,1,7,8,9] [] ?_
 refine W.seq ?_
 refine W.cond rfl (fun hb2=>?_) (fun hb2=>?_)
 · have hi1:i1<p0.length:=by have:=of_decide_eq_true hb2;omega
   have H:=H1 hi1
   refine W.skip ?_
   refine At.zad ?_
   refine W.seq ?_
   refine W.block ?_
   refine W.rg env [0,1,5,7,8] [] ?_
   refine W.seq ?_
   obtain ⟨y3,hy4,H⟩:=zaf H
   refine W.region env [] [⟨.bool (y3),[],0,[]⟩] rfl rfl rfl (.cons (⟨by omega,by omega⟩:0≤(i1:Int)∧(i1:Int)<((p0.length:Nat):Int)) .nil) (.free (p1_h (p0.getD i1 default) _ hy4) .nil) (At.keep (ts:=[0,1,5,7,8,16]) (ids:=[]) rfl rfl ?_)
   refine At.zad ?_
   refine W.cond rfl (fun hb5=>?_) (fun hb5=>?_)
   · have H:=zai H hb5
     refine W.rg env [4] [] ?_
     refine W.ret ?_
     refine At.rinb ?_
     refine At.rthen ?_
     refine At.rthen ?_
     refine At.rinb ?_
     refine At.rthen ?_
     cases H
     exact At.ret env.ty rfl rfl nofun (.refl _) hval
   · have H:=zag H hb5
     refine W.skip ?_
     refine At.inb ?_
     refine At.zad ?_
     refine W.region env [] [] rfl rfl rfl (.cons (by unfold inI;have:=hn1;(try unfold maxLen at this);omega) .nil) .nil (At.keep (ts:=[0,1,7,8]) (ids:=[]) rfl rfl ?_)
     refine At.zaE (At.keep (ts:=[0,1,7,8]) (ids:=[]) rfl rfl ?_)
     exact At.conv (.cons .q (.cons .q (.cons .qi (.cons .qi .nil)))) .nil (hK1 hi1 () H)
 · have H:=H2 (by have:=of_decide_eq_false hb2;omega)
   refine W.exit ?_
   refine At.xthen ?_
   refine At.xthen ?_
   refine At.xhere ?_
   refine At.zad ?_
   refine W.rg env [4] [] ?_
   refine W.ret ?_
   cases H
   exact At.ret env.ty rfl rfl nofun (.refl _) hval
theorem zgb (p0:Street) (c0:Int) {r:Bool} (H:za7 p0 c0=some r):Ctr Tryz.prog 126 [.agg [.int .i64 (p0.Id),.int .i64 (p0.Class),.int .i64 (p0.District),.int .i64 (p0.First),.int .i64 (p0.Many)],.rp [.int .i64 (c0)]] (.bool (r)):=by
 unfold za7 at H
 refine Ctr.zan (N:=7) Tryz.func126 (by kernel_rfl) (c:=_) rfl Tryz.ntmps126 rfl (fun w0 h0 hval=>?_)
 refine W.rg env [1,2] [2] ?_
 refine W.seq ?_
 obtain ⟨y1,hy2,H⟩:=zaf H
 refine W.region env [] [⟨.bool (y1),[],0,[]⟩] rfl rfl rfl .nil (.free (zfO p0 c0 hy2) .nil) (At.keep (ts:=[3]) (ids:=[]) rfl rfl ?_)
 refine At.zad ?_
 refine W.ret ?_
 cases H
 exact At.ret env.ty rfl rfl nofun (.refl _) hval
theorem zg0 (p0:Bylaw) (p1:Int) {r:(Street×Int)} (H:zcF p0 p1=some r):Ctr Tryz.prog 102 [.agg [roL 11 zaK p0.Versions,roL 5 zaI p0.Streets],.int .i64 (p1)] (.tup [.agg [.int .i64 (r.1.Id),.int .i64 (r.1.Class),.int .i64 (r.1.District),.int .i64 (r.1.First),.int .i64 (r.1.Many)],.int .i64 (r.2)]):=by
 unfold zcF at H
 refine Ctr.zan (N:=19) Tryz.func102 (by kernel_rfl) (c:=_) rfl Tryz.ntmps102 rfl (fun w0 h0 hval=>?_)
 refine W.rg env [2,3,4] [2,3,4] ?_
 refine W.seq ?_
 obtain ⟨y1,hy2,H⟩:=zaf H
 refine W.region env [] [⟨.int .i64 (y1),[],0,[]⟩] rfl rfl rfl .nil (.free (zd1 p0.Streets (fun x0=>za7 x0 p1) 126 [] ([.rp [.int .i64 (p1)]]) (fun x0 r h=>zgb x0 p1 h) hy2) .nil) (At.keep (ts:=[2,4,6]) (ids:=[2,4]) rfl rfl ?_)
 refine At.zad ?_
 refine W.seq ?_
 refine W.rg env [2,4,6,12] [2,4] ?_
 refine W.cond rfl (fun hb3=>?_) (fun hb3=>?_)
 · have H:=zai H hb3
   refine W.rg env [4,5] [4] ?_
   refine W.ret ?_
   refine At.rthen ?_
   cases H
   exact At.ret env.ty rfl rfl nofun (.refl _) hval
 · have H:=zag H hb3
   refine W.skip ?_
   refine At.zad ?_
   obtain ⟨hc4,H⟩:=zab H
   refine W.sr env [] [] [4,5] [4] rfl rfl rfl (.cons hc4 .nil) .nil ?_
   refine W.ret ?_
   cases H
   exact At.ret env.ty rfl rfl nofun (.refl _) hval
theorem zh8 (p0:Bylaw) (p1:Int) (p2:Int) (p3:Int) {r:(Version×Int)} (H:zc2 p0 p1 p2 p3=some r):Ctr Tryz.prog 103 [.agg [roL 11 zaK p0.Versions,roL 5 zaI p0.Streets],.int .i64 (p1),.int .i64 (p2),.int .i64 (p3)] (.tup [.agg [.int .i64 (r.1.Source),.int .i64 (r.1.Class),.int .i64 (r.1.From),.int .i64 (r.1.On.Lo),.int .i64 (r.1.On.Hi),.int .i64 (r.1.Off.Lo),.int .i64 (r.1.Off.Hi),.int .i64 (r.1.Moon),.int .i64 (r.1.Fog),.int .i64 (r.1.Known),.int .i64 (r.1.Until)],.int .i64 (r.2)]):=by
 unfold zc2 at H
 refine Ctr.zan (N:=61) Tryz.func103 (by kernel_rfl) (c:=_) rfl Tryz.ntmps103 rfl (fun w0 h0 hval=>?_)
 refine W.rg env [1,2,3,4,8] [4,8] ?_
 refine W.rg env [1,2,3,4,8,10] [4,8,10] ?_
 refine W.seq ?_
 refine W.rg env [1,2,3,8,10,14,15,16] [8,10] ?_
 refine W.block ?_
 refine At.keep (ts:=[1,2,3,8,10,14,15,16]) (ids:=[8,10]) rfl rfl ?_
 refine W.len (t:=14) rfl (fun (hn1:p0.Versions.length≤maxLen)=>?_)
 refine W.zah H (fun i1 (s1:Version)=>[(1,.int .i64 (p1)),(2,.int .i64 (p2)),(3,.int .i64 (p3)),(8,.lp 8 0),(10,.lp 10 0),(14,roL 11 zaK p0.Versions),(15,.int .i64 (((p0.Versions.length:Nat):Int))),(16,.int .i64 ((i1:Int)))]) (fun i1 (s1:Version)=>[(8,.cells [.int .i64 (0),.int .i64 (0),.int .i64 (0),.int .i64 (0),.int .i64 (0),.int .i64 (0),.int .i64 (0),.int .i64 (0),.int .i64 (0),.int .i64 (0),.int .i64 (0)]),(10,.cells [.int .i64 (s1.Source),.int .i64 (s1.Class),.int .i64 (s1.From),.int .i64 (s1.On.Lo),.int .i64 (s1.On.Hi),.int .i64 (s1.Off.Lo),.int .i64 (s1.Off.Hi),.int .i64 (s1.Moon),.int .i64 (s1.Fog),.int .i64 (s1.Known),.int .i64 (s1.Until)])]) (.cons .qi (.cons .qi (.cons .qi (.cons .q (.cons .q (.cons .q (.cons .qi (.cons .qi .nil)))))))) (.cons .q (.cons .q .nil)) (fun k1 i1 s1 hle1 H1 H2 K0 hK1=>?_)
 refine W.rg env [1,2,3,8,10,14,15,16,17] [8,10] ?_
 refine W.seq ?_
 refine W.cond rfl (fun hb2=>?_) (fun hb2=>?_)
 · have hi1:i1<p0.Versions.length:=by have:=of_decide_eq_true hb2;omega
   have H:=H1 hi1
   refine W.skip ?_
   refine At.zad ?_
   refine W.seq ?_
   refine W.block ?_
   refine W.sr env [] [] [1,2,3,8,10,12,14,15,16] [8,10,12] rfl rfl rfl (.cons (⟨by omega,by omega⟩:0≤(i1:Int)∧(i1:Int)<((p0.Versions.length:Nat):Int)) .nil) .nil ?_
   refine W.sr env [] [] [1,2,3,8,10,12,14,15,16,53] [8,10,12] rfl rfl rfl (.cons id (.cons id (.cons id (.cons id (.cons id (.cons id (.cons id (.cons id (.cons id (.cons id (.cons id (.cons id (.cons id (.cons id (.cons id (.cons (fun hW h=>by revert hW h;first|(simp +contextual;done)|grind) (.cons id (.cons id (.cons id (.cons id (.cons id (.cons id .nil)))))))))))))))))))))) .nil ?_
   refine W.cond rfl (fun hb3=>?_) (fun hb3=>?_)
   · have H:=zai H hb3
     refine W.region env [] [] rfl rfl rfl .nil .nil (At.keep (ts:=[1,2,3,8,10,14,15,16]) (ids:=[8,10]) rfl rfl ?_)
     refine At.inb ?_
     refine At.zad ?_
     refine W.region env [] [] rfl rfl rfl (.cons (by unfold inI;have:=hn1;(try unfold maxLen at this);omega) .nil) .nil (At.keep (ts:=[1,2,3,8,10,14,15,16]) (ids:=[8,10]) rfl rfl ?_)
     refine At.zaE (At.keep (ts:=[1,2,3,8,10,14,15,16]) (ids:=[8,10]) rfl rfl ?_)
     exact At.conv (.cons .qi (.cons .qi (.cons .qi (.cons .q (.cons .q (.cons .q (.cons .qi (.cons .qi .nil)))))))) (.cons .q (.cons .q .nil)) (hK1 hi1 (p0.Versions.getD i1 default) H)
   · have H:=zag H hb3
     refine W.skip ?_
     refine At.inb ?_
     refine At.zad ?_
     refine W.region env [] [] rfl rfl rfl (.cons (by unfold inI;have:=hn1;(try unfold maxLen at this);omega) .nil) .nil (At.keep (ts:=[1,2,3,8,10,14,15,16]) (ids:=[8,10]) rfl rfl ?_)
     refine At.zaE (At.keep (ts:=[1,2,3,8,10,14,15,16]) (ids:=[8,10]) rfl rfl ?_)
     exact At.conv (.cons .qi (.cons .qi (.cons .qi (.cons .q (.cons .q (.cons .q (.cons .qi (.cons .qi .nil)))))))) (.cons .q (.cons .q .nil)) (hK1 hi1 s1 H)
 · have H:=H2 (by have:=of_decide_eq_false hb2;omega)
   refine W.exit ?_
   refine At.xthen ?_
   refine At.xthen ?_
   refine At.xhere ?_
   refine At.zad ?_
   refine W.seq ?_
   refine W.rg env [8,10,58] [8,10] ?_
   refine W.cond rfl (fun hb4=>?_) (fun hb4=>?_)
   · have H:=zai H hb4
     refine W.rg env [8,9] [8] ?_
     refine W.ret ?_
     refine At.rthen ?_
     cases H
     exact At.ret env.ty rfl rfl nofun (.refl _) hval
   · have H:=zag H hb4
     refine W.skip ?_
     refine At.zad ?_
     refine W.rg env [8,9] [8] ?_
     refine W.ret ?_
     cases H
     exact At.ret env.ty rfl rfl nofun (.refl _) hval
theorem zgc (p0:Bylaw) (p1:Int) (p2:Night) (p3:Int) {r:(bylaw_window×Int)} (H:zdb p0 p1 p2 p3=some r):Ctr Tryz.prog 62 [.agg [roL 11 zaK p0.Versions,roL 5 zaI p0.Streets],.int .i64 (p1),.agg [.int .i64 (p2.No),.int .i64 (p2.Set.Lo),.int .i64 (p2.Set.Hi),.int .i64 (p2.Rise.Lo),.int .i64 (p2.Rise.Hi),.int .i64 (p2.Light.Lo),.int .i64 (p2.Light.Hi),.int .i64 (p2.Fog)],.int .i64 (p3)] (.tup [.agg [.int .i64 (r.1.v.Source),.int .i64 (r.1.v.Class),.int .i64 (r.1.v.From),.int .i64 (r.1.v.On.Lo),.int .i64 (r.1.v.On.Hi),.int .i64 (r.1.v.Off.Lo),.int .i64 (r.1.v.Off.Hi),.int .i64 (r.1.v.Moon),.int .i64 (r.1.v.Fog),.int .i64 (r.1.v.Known),.int .i64 (r.1.v.Until),.int .i64 (r.1.n.No),.int .i64 (r.1.n.Set.Lo),.int .i64 (r.1.n.Set.Hi),.int .i64 (r.1.n.Rise.Lo),.int .i64 (r.1.n.Rise.Hi),.int .i64 (r.1.n.Light.Lo),.int .i64 (r.1.n.Light.Hi),.int .i64 (r.1.n.Fog)],.int .i64 (r.2)]):=by
 unfold zdb at H
 refine Ctr.zan (N:=37) Tryz.func62 (by kernel_rfl) (c:=_) rfl Tryz.ntmps62 rfl (fun w0 h0 hval=>?_)
 refine W.rg env [1,3,4,6,8] [4,6,8] ?_
 refine W.seq ?_
 obtain ⟨y1,hy2,H⟩:=zaf H
 refine W.region env [] [⟨.tup [.agg [.int .i64 (y1.1.Id),.int .i64 (y1.1.Class),.int .i64 (y1.1.District),.int .i64 (y1.1.First),.int .i64 (y1.1.Many)],.int .i64 (y1.2)],[],0,[]⟩] rfl rfl rfl .nil (.free (zg0 p0 p1 hy2) .nil) (At.keep (ts:=[3,4,6,8,10,11]) (ids:=[4,6,8,10]) rfl rfl ?_)
 refine At.zad ?_
 refine W.seq ?_
 refine W.rg env [3,4,6,8,10,11,20] [4,6,8,10] ?_
 refine W.cond rfl (fun hb3=>?_) (fun hb3=>?_)
 · have H:=zai H hb3
   refine W.rg env [8,9] [8] ?_
   refine W.ret ?_
   refine At.rthen ?_
   cases H
   exact At.ret env.ty rfl rfl nofun (.refl _) hval
 · have H:=zag H hb3
   refine W.skip ?_
   refine At.zad ?_
   refine W.seq ?_
   obtain ⟨y4,hy5,H⟩:=zaf H
   refine W.region env [] [⟨.tup [.agg [.int .i64 (y4.1.Source),.int .i64 (y4.1.Class),.int .i64 (y4.1.From),.int .i64 (y4.1.On.Lo),.int .i64 (y4.1.On.Hi),.int .i64 (y4.1.Off.Lo),.int .i64 (y4.1.Off.Hi),.int .i64 (y4.1.Moon),.int .i64 (y4.1.Fog),.int .i64 (y4.1.Known),.int .i64 (y4.1.Until)],.int .i64 (y4.2)],[],0,[]⟩] rfl rfl rfl .nil (.free (zh8 p0 y1.1.Class p2.No p3 hy5) .nil) (At.keep (ts:=[6,8,11,12]) (ids:=[6,8,12]) rfl rfl ?_)
   refine At.zad ?_
   refine W.rg env [8,9] [8] ?_
   refine W.ret ?_
   cases H
   exact At.ret env.ty rfl rfl nofun (.refl _) hval
theorem zgT (p0:Bylaw) (p1:Int) (p2:Night) (p3:Int) {r:(bylaw_window×Int)} (H:zdy p0 p1 p2 p3=some r):Ctr Tryz.prog 39 [.agg [roL 11 zaK p0.Versions,roL 5 zaI p0.Streets],.int .i64 (p1),.agg [.int .i64 (p2.No),.int .i64 (p2.Set.Lo),.int .i64 (p2.Set.Hi),.int .i64 (p2.Rise.Lo),.int .i64 (p2.Rise.Hi),.int .i64 (p2.Light.Lo),.int .i64 (p2.Light.Hi),.int .i64 (p2.Fog)],.int .i64 (p3)] (.tup [.agg [.int .i64 (r.1.v.Source),.int .i64 (r.1.v.Class),.int .i64 (r.1.v.From),.int .i64 (r.1.v.On.Lo),.int .i64 (r.1.v.On.Hi),.int .i64 (r.1.v.Off.Lo),.int .i64 (r.1.v.Off.Hi),.int .i64 (r.1.v.Moon),.int .i64 (r.1.v.Fog),.int .i64 (r.1.v.Known),.int .i64 (r.1.v.Until),.int .i64 (r.1.n.No),.int .i64 (r.1.n.Set.Lo),.int .i64 (r.1.n.Set.Hi),.int .i64 (r.1.n.Rise.Lo),.int .i64 (r.1.n.Rise.Hi),.int .i64 (r.1.n.Light.Lo),.int .i64 (r.1.n.Light.Hi),.int .i64 (r.1.n.Fog)],.int .i64 (r.2)]):=by
 unfold zdy at H
 refine Ctr.zan (N:=35) Tryz.func39 (by kernel_rfl) (c:=_) rfl Tryz.ntmps39 rfl (fun w0 h0 hval=>?_)
 refine W.rg env [1,3,4,6,8] [4,6,8] ?_
 refine W.seq ?_
 refine W.seq ?_
 obtain ⟨y1,hy2,H⟩:=zaf H
 refine W.region env [] [⟨.int .i64 (y1),[],0,[]⟩] rfl rfl rfl .nil (.free (zeC p0 hy2) .nil) (At.keep (ts:=[1,3,4,6,8,10]) (ids:=[4,6,8]) rfl rfl ?_)
 refine At.zad ?_
 refine W.rg env [1,3,4,6,8,10,15] [4,6,8] ?_
 refine W.cond rfl (fun hb3=>?_) (fun hb3=>?_)
 · have H:=zai H hb3
   refine W.rg env [8,9] [8] ?_
   refine W.ret ?_
   refine At.rthen ?_
   cases H
   exact At.ret env.ty rfl rfl nofun (.refl _) hval
 · have H:=zag H hb3
   refine W.skip ?_
   refine At.zad ?_
   refine W.seq ?_
   refine W.sr env [] [⟨.int .i64 ((za8 p2)),[],0,[]⟩] [1,3,4,6,8,11] [4,6,8] rfl rfl rfl .nil (.free (zgd p2) .nil) ?_
   refine W.rg env [1,3,4,6,8,11,21] [4,6,8] ?_
   refine W.cond rfl (fun hb4=>?_) (fun hb4=>?_)
   · have H:=zai H hb4
     refine W.rg env [8,9] [8] ?_
     refine W.ret ?_
     refine At.rthen ?_
     cases H
     exact At.ret env.ty rfl rfl nofun (.refl _) hval
   · have H:=zag H hb4
     refine W.skip ?_
     refine At.zad ?_
     refine W.seq ?_
     refine W.sr env [] [⟨.bool ((zaJ p3)),[],0,[]⟩] [1,3,4,6,8,26] [4,6,8] rfl rfl rfl .nil (.free (zb4 p3) .nil) ?_
     refine W.cond rfl (fun hb5=>?_) (fun hb5=>?_)
     · have H:=zai H hb5
       refine W.rg env [8,9] [8] ?_
       refine W.ret ?_
       refine At.rthen ?_
       cases H
       exact At.ret env.ty rfl rfl nofun (.refl _) hval
     · have H:=zag H hb5
       refine W.skip ?_
       refine At.zad ?_
       refine W.seq ?_
       obtain ⟨y6,hy7,H⟩:=zaf H
       refine W.region env [] [⟨.tup [.agg [.int .i64 (y6.1.v.Source),.int .i64 (y6.1.v.Class),.int .i64 (y6.1.v.From),.int .i64 (y6.1.v.On.Lo),.int .i64 (y6.1.v.On.Hi),.int .i64 (y6.1.v.Off.Lo),.int .i64 (y6.1.v.Off.Hi),.int .i64 (y6.1.v.Moon),.int .i64 (y6.1.v.Fog),.int .i64 (y6.1.v.Known),.int .i64 (y6.1.v.Until),.int .i64 (y6.1.n.No),.int .i64 (y6.1.n.Set.Lo),.int .i64 (y6.1.n.Set.Hi),.int .i64 (y6.1.n.Rise.Lo),.int .i64 (y6.1.n.Rise.Hi),.int .i64 (y6.1.n.Light.Lo),.int .i64 (y6.1.n.Light.Hi),.int .i64 (y6.1.n.Fog)],.int .i64 (y6.2)],[],0,[]⟩] rfl rfl rfl .nil (.free (zgc p0 p1 p2 p3 hy7) .nil) (At.keep (ts:=[8,9]) (ids:=[8]) rfl rfl ?_)
       refine At.zad ?_
       refine W.ret ?_
       cases H
       exact At.ret env.ty rfl rfl nofun (.refl _) hval
theorem zdM (p0:bylaw_window):Ctr Tryz.prog 87 [.agg [.int .i64 (p0.v.Source),.int .i64 (p0.v.Class),.int .i64 (p0.v.From),.int .i64 (p0.v.On.Lo),.int .i64 (p0.v.On.Hi),.int .i64 (p0.v.Off.Lo),.int .i64 (p0.v.Off.Hi),.int .i64 (p0.v.Moon),.int .i64 (p0.v.Fog),.int .i64 (p0.v.Known),.int .i64 (p0.v.Until),.int .i64 (p0.n.No),.int .i64 (p0.n.Set.Lo),.int .i64 (p0.n.Set.Hi),.int .i64 (p0.n.Rise.Lo),.int .i64 (p0.n.Rise.Hi),.int .i64 (p0.n.Light.Lo),.int .i64 (p0.n.Light.Hi),.int .i64 (p0.n.Fog)]] (.int .i64 ((zaP p0))):=by
 obtain ⟨r,H⟩:∃ r,zaP p0=r:=⟨_,rfl⟩
 rw [H]
 unfold zaP at H
 refine Ctr.zan (N:=35) Tryz.func87 (by kernel_rfl) (c:=_) rfl Tryz.ntmps87 rfl (fun w0 h0 hval=>?_)
 refine W.rg env [1] [1] ?_
 refine W.rg env [1,3] [1] ?_
 refine W.seq ?_
 refine W.block ?_
 refine W.sr env [] [] [1,12] [1] rfl rfl rfl (.cons (fun h=>by rw [h];rfl) .nil) .nil ?_
 refine W.cond rfl (fun hb1=>?_) (fun hb1=>?_)
 · have H:=zai H hb1
   refine W.rg env [2] [] ?_
   refine W.ret ?_
   refine At.rinb ?_
   refine At.rthen ?_
   cases H
   exact At.ret env.ty rfl rfl nofun (.refl _) hval
 · have H:=zag H hb1
   refine W.sr env [] [] [20] [] rfl rfl rfl (.cons id (.cons id (.cons id (.cons id (.cons id (.cons id (.cons id (.cons id .nil)))))))) .nil ?_
   refine W.cond rfl (fun hb2=>?_) (fun hb2=>?_)
   · have H:=zai H hb2
     refine W.rg env [2] [] ?_
     refine W.ret ?_
     refine At.rinb ?_
     refine At.rthen ?_
     cases H
     exact At.ret env.ty rfl rfl nofun (.refl _) hval
   · have H:=zag H hb2
     refine W.skip ?_
     refine At.inb ?_
     refine At.zad ?_
     refine W.rg env [2] [] ?_
     refine W.ret ?_
     cases H
     exact At.ret env.ty rfl rfl nofun (.refl _) hval
theorem zcb (p0:bylaw_window) (p1:Option Range) (p1_g:Nat) (p1_a p1_b:List AV) (p1_h:∀  r,p1  = some r→Ctr Tryz.prog p1_g (p1_a++([]++p1_b)) (.agg [.int .i64 (r.Lo),.int .i64 (r.Hi)])) {r:(Range×Int)} (H:zaG p0 p1=some r):Ctr Tryz.prog 57 [.agg [.int .i64 (p0.v.Source),.int .i64 (p0.v.Class),.int .i64 (p0.v.From),.int .i64 (p0.v.On.Lo),.int .i64 (p0.v.On.Hi),.int .i64 (p0.v.Off.Lo),.int .i64 (p0.v.Off.Hi),.int .i64 (p0.v.Moon),.int .i64 (p0.v.Fog),.int .i64 (p0.v.Known),.int .i64 (p0.v.Until),.int .i64 (p0.n.No),.int .i64 (p0.n.Set.Lo),.int .i64 (p0.n.Set.Hi),.int .i64 (p0.n.Rise.Lo),.int .i64 (p0.n.Rise.Hi),.int .i64 (p0.n.Light.Lo),.int .i64 (p0.n.Light.Hi),.int .i64 (p0.n.Fog)],.clo (.func p1_g) p1_a p1_b] (.tup [.agg [.int .i64 (r.1.Lo),.int .i64 (r.1.Hi)],.int .i64 (r.2)]):=by
 unfold zaG at H
 refine Ctr.zan (N:=20) Tryz.func57 (by kernel_rfl) (c:=_) rfl Tryz.ntmps57 rfl (fun w0 h0 hval=>?_)
 refine W.rg env [1,2,4] [2,4] ?_
 refine W.seq ?_
 refine W.sr env [] [⟨.int .i64 ((zaP p0)),[],0,[]⟩] [1,4,9] [4] rfl rfl rfl .nil (.free (zdM p0) .nil) ?_
 refine W.cond rfl (fun hb1=>?_) (fun hb1=>?_)
 · have H:=zai H hb1
   refine W.rg env [4,5] [4] ?_
   refine W.ret ?_
   refine At.rthen ?_
   cases H
   exact At.ret env.ty rfl rfl nofun (.refl _) hval
 · have H:=zag H hb1
   refine W.skip ?_
   refine At.zad ?_
   refine W.seq ?_
   obtain ⟨y2,hy3,H⟩:=zaf H
   refine W.region env [] [⟨.agg [.int .i64 (y2.Lo),.int .i64 (y2.Hi)],[],0,[]⟩] rfl rfl rfl .nil (.free (p1_h  _ hy3) .nil) (At.keep (ts:=[4,6]) (ids:=[4,6]) rfl rfl ?_)
   refine At.zad ?_
   refine W.seq ?_
   refine W.rg env [4,6,17] [4,6] ?_
   refine W.cond rfl (fun hb4=>?_) (fun hb4=>?_)
   · have H:=zai H hb4
     refine W.rg env [4,5] [4] ?_
     refine W.ret ?_
     refine At.rthen ?_
     cases H
     exact At.ret env.ty rfl rfl nofun (.refl _) hval
   · have H:=zag H hb4
     refine W.skip ?_
     refine At.zad ?_
     refine W.rg env [4,5] [4] ?_
     refine W.ret ?_
     cases H
     exact At.ret env.ty rfl rfl nofun (.refl _) hval
theorem zdN (p0:bylaw_window) (p1:(List Int)) {r:Int} (H:zaZ p0 p1=some r):Ctr Tryz.prog 110 [.agg [.int .i64 (p0.v.Source),.int .i64 (p0.v.Class),.int .i64 (p0.v.From),.int .i64 (p0.v.On.Lo),.int .i64 (p0.v.On.Hi),.int .i64 (p0.v.Off.Lo),.int .i64 (p0.v.Off.Hi),.int .i64 (p0.v.Moon),.int .i64 (p0.v.Fog),.int .i64 (p0.v.Known),.int .i64 (p0.v.Until),.int .i64 (p0.n.No),.int .i64 (p0.n.Set.Lo),.int .i64 (p0.n.Set.Hi),.int .i64 (p0.n.Rise.Lo),.int .i64 (p0.n.Rise.Hi),.int .i64 (p0.n.Light.Lo),.int .i64 (p0.n.Light.Hi),.int .i64 (p0.n.Fog)],roL 1 zaa p1] (.int .i64 (r)):=by
 unfold zaZ at H
 refine Ctr.zan (N:=22) Tryz.func110 (by kernel_rfl) (c:=_) rfl Tryz.ntmps110 rfl (fun w0 h0 hval=>?_)
 refine W.rg env [1,2] [2] ?_
 refine W.seq ?_
 refine W.rg env [2,7,8,9] [2] ?_
 refine W.block ?_
 refine At.keep (ts:=[2,7,8,9]) (ids:=[2]) rfl rfl ?_
 refine W.len (t:=7) rfl (fun (hn1:p1.length≤maxLen)=>?_)
 refine W.zah H (fun i1 (s1:Unit)=>[(2,.lp 2 0),(7,roL 1 zaa p1),(8,.int .i64 (((p1.length:Nat):Int))),(9,.int .i64 ((i1:Int)))]) (fun i1 (s1:Unit)=>[(2,.cells [.int .i64 (p0.v.Source),.int .i64 (p0.v.Class),.int .i64 (p0.v.From),.int .i64 (p0.v.On.Lo),.int .i64 (p0.v.On.Hi),.int .i64 (p0.v.Off.Lo),.int .i64 (p0.v.Off.Hi),.int .i64 (p0.v.Moon),.int .i64 (p0.v.Fog),.int .i64 (p0.v.Known),.int .i64 (p0.v.Until),.int .i64 (p0.n.No),.int .i64 (p0.n.Set.Lo),.int .i64 (p0.n.Set.Hi),.int .i64 (p0.n.Rise.Lo),.int .i64 (p0.n.Rise.Hi),.int .i64 (p0.n.Light.Lo),.int .i64 (p0.n.Light.Hi),.int .i64 (p0.n.Fog)])]) (.cons .q (.cons .q (.cons .qi (.cons .qi .nil)))) (.cons .q .nil) (fun k1 i1 s1 hle1 H1 H2 K0 hK1=>?_)
 refine W.rg env [2,7,8,9,10] [2] ?_
 refine W.seq ?_
 refine W.cond rfl (fun hb2=>?_) (fun hb2=>?_)
 · have hi1:i1<p1.length:=by have:=of_decide_eq_true hb2;omega
   have H:=H1 hi1
   refine W.skip ?_
   refine At.zad ?_
   refine W.seq ?_
   refine W.block ?_
   refine W.sr env [] [] [2,6,7,8,9] [2] rfl rfl rfl (.cons (⟨by omega,by omega⟩:0≤(i1:Int)∧(i1:Int)<((p1.length:Nat):Int)) .nil) .nil ?_
   refine W.rg env [2,7,8,9,17] [2] ?_
   refine W.cond rfl (fun hb3=>?_) (fun hb3=>?_)
   · have H:=zai H hb3
     refine W.rg env [4] [] ?_
     refine W.ret ?_
     refine At.rinb ?_
     refine At.rthen ?_
     refine At.rthen ?_
     refine At.rinb ?_
     refine At.rthen ?_
     cases H
     exact At.ret env.ty rfl rfl nofun (.refl _) hval
   · have H:=zag H hb3
     refine W.skip ?_
     refine At.inb ?_
     refine At.zad ?_
     refine W.region env [] [] rfl rfl rfl (.cons (by unfold inI;have:=hn1;(try unfold maxLen at this);omega) .nil) .nil (At.keep (ts:=[2,7,8,9]) (ids:=[2]) rfl rfl ?_)
     refine At.zaE (At.keep (ts:=[2,7,8,9]) (ids:=[2]) rfl rfl ?_)
     exact At.conv (.cons .q (.cons .q (.cons .qi (.cons .qi .nil)))) (.cons .q .nil) (hK1 hi1 () H)
 · have H:=H2 (by have:=of_decide_eq_false hb2;omega)
   refine W.exit ?_
   refine At.xthen ?_
   refine At.xthen ?_
   refine At.xhere ?_
   refine At.zad ?_
   refine W.rg env [4] [] ?_
   refine W.ret ?_
   cases H
   exact At.ret env.ty rfl rfl nofun (.refl _) hval
theorem zgU (p0:Int) (p1:Int):Ctr Tryz.prog 101 [.int .i64 (p0),.int .i64 (p1)] (.agg [.int .i64 ((zb5 p0 p1).Lo),.int .i64 ((zb5 p0 p1).Hi)]):=by
 obtain ⟨r,H⟩:∃ r,zb5 p0 p1=r:=⟨_,rfl⟩
 rw [H]
 unfold zb5 at H
 refine Ctr.zan (N:=10) Tryz.func101 (by kernel_rfl) (c:=_) rfl Tryz.ntmps101 rfl (fun w0 h0 hval=>?_)
 refine W.rg env [0,1,4] [4] ?_
 refine W.rg env [4] [4] ?_
 refine W.ret ?_
 cases H
 exact At.ret env.ty rfl rfl nofun (.refl _) hval
theorem zga (p0:bylaw_window) {r:Range} (H:zbs p0=some r):Ctr Tryz.prog 88 [.agg [.int .i64 (p0.v.Source),.int .i64 (p0.v.Class),.int .i64 (p0.v.From),.int .i64 (p0.v.On.Lo),.int .i64 (p0.v.On.Hi),.int .i64 (p0.v.Off.Lo),.int .i64 (p0.v.Off.Hi),.int .i64 (p0.v.Moon),.int .i64 (p0.v.Fog),.int .i64 (p0.v.Known),.int .i64 (p0.v.Until),.int .i64 (p0.n.No),.int .i64 (p0.n.Set.Lo),.int .i64 (p0.n.Set.Hi),.int .i64 (p0.n.Rise.Lo),.int .i64 (p0.n.Rise.Hi),.int .i64 (p0.n.Light.Lo),.int .i64 (p0.n.Light.Hi),.int .i64 (p0.n.Fog)]] (.agg [.int .i64 (r.Lo),.int .i64 (r.Hi)]):=by
 unfold zbs at H
 refine Ctr.zan (N:=30) Tryz.func88 (by kernel_rfl) (c:=_) rfl Tryz.ntmps88 rfl (fun w0 h0 hval=>?_)
 refine W.rg env [1,2] [1,2] ?_
 refine W.seq ?_
 obtain ⟨hc1,H⟩:=zab H
 obtain ⟨y2,hy3,H⟩:=zaf H
 obtain ⟨hc4,H⟩:=zab H
 obtain ⟨hc5,H⟩:=zab H
 obtain ⟨y6,hy7,H⟩:=zaf H
 obtain ⟨hc8,H⟩:=zab H
 refine W.region env [] [⟨.int .i64 (y2),[],0,[]⟩,⟨.int .i64 (y6),[],0,[]⟩,⟨.agg [.int .i64 ((zb5 ((p0.n.Set.Hi+p0.v.On.Lo) - y2) ((p0.n.Set.Lo+p0.v.On.Hi) - y6)).Lo),.int .i64 ((zb5 ((p0.n.Set.Hi+p0.v.On.Lo) - y2) ((p0.n.Set.Lo+p0.v.On.Hi) - y6)).Hi)],[],0,[]⟩] rfl rfl (by kernel_rfl) (.cons hc1 (.cons hc4 (.cons hc5 (.cons hc8 .nil)))) (.free (Ctr.sim (.cons (.refl _) (.cons (Sim.lit (f:=zaa) ([1]:List Int) rfl rfl (fun _=>rfl)) .nil)) (zdN p0 ([1]:List Int) hy3)) (.free (Ctr.sim (.cons (.refl _) (.cons (Sim.lit (f:=zaa) ([1,2]:List Int) rfl rfl (fun _=>rfl)) .nil)) (zdN p0 ([1,2]:List Int) hy7)) (.free (zgU ((p0.n.Set.Hi+p0.v.On.Lo) - y2) ((p0.n.Set.Lo+p0.v.On.Hi) - y6)) .nil))) (At.keep (ts:=[2]) (ids:=[2]) rfl rfl ?_)
 refine At.zad ?_
 refine W.ret ?_
 cases H
 exact At.ret env.ty rfl rfl nofun (.refl _) hval
theorem zdL (p0:bylaw_window) {r:Range} (H:zaO p0=some r):Ctr Tryz.prog 58 [.agg [.int .i64 (p0.v.Source),.int .i64 (p0.v.Class),.int .i64 (p0.v.From),.int .i64 (p0.v.On.Lo),.int .i64 (p0.v.On.Hi),.int .i64 (p0.v.Off.Lo),.int .i64 (p0.v.Off.Hi),.int .i64 (p0.v.Moon),.int .i64 (p0.v.Fog),.int .i64 (p0.v.Known),.int .i64 (p0.v.Until),.int .i64 (p0.n.No),.int .i64 (p0.n.Set.Lo),.int .i64 (p0.n.Set.Hi),.int .i64 (p0.n.Rise.Lo),.int .i64 (p0.n.Rise.Hi),.int .i64 (p0.n.Light.Lo),.int .i64 (p0.n.Light.Hi),.int .i64 (p0.n.Fog)]] (.agg [.int .i64 (r.Lo),.int .i64 (r.Hi)]):=by
 unfold zaO at H
 refine Ctr.zan (N:=22) Tryz.func58 (by kernel_rfl) (c:=_) rfl Tryz.ntmps58 rfl (fun w0 h0 hval=>?_)
 refine W.rg env [1,2] [1,2] ?_
 obtain ⟨hc1,H⟩:=zab H
 obtain ⟨hc2,H⟩:=zab H
 refine W.sr env [] [⟨.agg [.int .i64 ((zb5 (p0.n.Rise.Hi - p0.v.Off.Hi) (p0.n.Rise.Lo - p0.v.Off.Lo)).Lo),.int .i64 ((zb5 (p0.n.Rise.Hi - p0.v.Off.Hi) (p0.n.Rise.Lo - p0.v.Off.Lo)).Hi)],[],0,[]⟩] [2] [2] rfl rfl rfl (.cons hc1 (.cons hc2 .nil)) (.free (zgU (p0.n.Rise.Hi - p0.v.Off.Hi) (p0.n.Rise.Lo - p0.v.Off.Lo)) .nil) ?_
 refine W.ret ?_
 cases H
 exact At.ret env.ty rfl rfl nofun (.refl _) hval
theorem zfq (p0:bylaw_window) {r:(Duty×Int)} (H:zbN p0=some r):Ctr Tryz.prog 40 [.agg [.int .i64 (p0.v.Source),.int .i64 (p0.v.Class),.int .i64 (p0.v.From),.int .i64 (p0.v.On.Lo),.int .i64 (p0.v.On.Hi),.int .i64 (p0.v.Off.Lo),.int .i64 (p0.v.Off.Hi),.int .i64 (p0.v.Moon),.int .i64 (p0.v.Fog),.int .i64 (p0.v.Known),.int .i64 (p0.v.Until),.int .i64 (p0.n.No),.int .i64 (p0.n.Set.Lo),.int .i64 (p0.n.Set.Hi),.int .i64 (p0.n.Rise.Lo),.int .i64 (p0.n.Rise.Hi),.int .i64 (p0.n.Light.Lo),.int .i64 (p0.n.Light.Hi),.int .i64 (p0.n.Fog)]] (.tup [.agg [.int .i64 (r.1.Lit),.int .i64 (r.1.On.Lo),.int .i64 (r.1.On.Hi),.int .i64 (r.1.Off.Lo),.int .i64 (r.1.Off.Hi)],.int .i64 (r.2)]):=by
 unfold zbN at H
 refine Ctr.zan (N:=39) Tryz.func40 (by kernel_rfl) (c:=_) rfl Tryz.ntmps40 rfl (fun w0 h0 hval=>?_)
 refine W.rg env [1,2] [1,2] ?_
 refine W.sr env [] [⟨.int .i64 ((zaP p0)),[],0,[]⟩] [1,2,4] [1,2] rfl rfl rfl .nil (.free (zdM p0) .nil) ?_
 refine W.seq ?_
 refine W.rg env [1,2,4,11] [1,2] ?_
 refine W.cond rfl (fun hb1=>?_) (fun hb1=>?_)
 · have H:=zai H hb1
   refine W.rg env [2,3] [2] ?_
   refine W.ret ?_
   refine At.rthen ?_
   cases H
   exact At.ret env.ty rfl rfl nofun (.refl _) hval
 · have H:=zag H hb1
   refine W.skip ?_
   refine At.zad ?_
   refine W.seq ?_
   obtain ⟨y2,hy3,H⟩:=zaf H
   refine W.region env [] [⟨.tup [.agg [.int .i64 (y2.1.Lo),.int .i64 (y2.1.Hi)],.int .i64 (y2.2)],[],0,[]⟩] rfl rfl rfl .nil (.free (zcb p0 (zbs p0) 88 ([.agg [.int .i64 (p0.v.Source),.int .i64 (p0.v.Class),.int .i64 (p0.v.From),.int .i64 (p0.v.On.Lo),.int .i64 (p0.v.On.Hi),.int .i64 (p0.v.Off.Lo),.int .i64 (p0.v.Off.Hi),.int .i64 (p0.v.Moon),.int .i64 (p0.v.Fog),.int .i64 (p0.v.Known),.int .i64 (p0.v.Until),.int .i64 (p0.n.No),.int .i64 (p0.n.Set.Lo),.int .i64 (p0.n.Set.Hi),.int .i64 (p0.n.Rise.Lo),.int .i64 (p0.n.Rise.Hi),.int .i64 (p0.n.Light.Lo),.int .i64 (p0.n.Light.Hi),.int .i64 (p0.n.Fog)]]) [] (fun  r h=>zga p0 h) hy3) .nil) (At.keep (ts:=[1,2,4,5,6]) (ids:=[1,2,5]) rfl rfl ?_)
   refine At.zad ?_
   refine W.seq ?_
   refine W.rg env [1,2,4,5,6,21] [1,2,5] ?_
   refine W.cond rfl (fun hb4=>?_) (fun hb4=>?_)
   · have H:=zai H hb4
     refine W.rg env [2,3] [2] ?_
     refine W.ret ?_
     refine At.rthen ?_
     cases H
     exact At.ret env.ty rfl rfl nofun (.refl _) hval
   · have H:=zag H hb4
     refine W.skip ?_
     refine At.zad ?_
     refine W.seq ?_
     obtain ⟨y5,hy6,H⟩:=zaf H
     refine W.region env [] [⟨.tup [.agg [.int .i64 (y5.1.Lo),.int .i64 (y5.1.Hi)],.int .i64 (y5.2)],[],0,[]⟩] rfl rfl rfl .nil (.free (zcb p0 (zaO p0) 58 ([.agg [.int .i64 (p0.v.Source),.int .i64 (p0.v.Class),.int .i64 (p0.v.From),.int .i64 (p0.v.On.Lo),.int .i64 (p0.v.On.Hi),.int .i64 (p0.v.Off.Lo),.int .i64 (p0.v.Off.Hi),.int .i64 (p0.v.Moon),.int .i64 (p0.v.Fog),.int .i64 (p0.v.Known),.int .i64 (p0.v.Until),.int .i64 (p0.n.No),.int .i64 (p0.n.Set.Lo),.int .i64 (p0.n.Set.Hi),.int .i64 (p0.n.Rise.Lo),.int .i64 (p0.n.Rise.Hi),.int .i64 (p0.n.Light.Lo),.int .i64 (p0.n.Light.Hi),.int .i64 (p0.n.Fog)]]) [] (fun  r h=>zdL p0 h) hy6) .nil) (At.keep (ts:=[2,4,5,6,7]) (ids:=[2,5,7]) rfl rfl ?_)
     refine At.zad ?_
     refine W.seq ?_
     refine W.rg env [2,4,5,6,7,32] [2,5,7] ?_
     refine W.cond rfl (fun hb7=>?_) (fun hb7=>?_)
     · have H:=zai H hb7
       refine W.rg env [2,3] [2] ?_
       refine W.ret ?_
       refine At.rthen ?_
       cases H
       exact At.ret env.ty rfl rfl nofun (.refl _) hval
     · have H:=zag H hb7
       refine W.skip ?_
       refine At.zad ?_
       refine W.rg env [2,3] [2] ?_
       refine W.ret ?_
       cases H
       exact At.ret env.ty rfl rfl nofun (.refl _) hval
theorem zks (p0:Bylaw) (p1:Int) (p2:Night) (p3:Int) {r:(Duty×Int)} (H:zeo p0 p1 p2 p3=some r):Ctr Tryz.prog 10 [.agg [roL 11 zaK p0.Versions,roL 5 zaI p0.Streets],.int .i64 (p1),.agg [.int .i64 (p2.No),.int .i64 (p2.Set.Lo),.int .i64 (p2.Set.Hi),.int .i64 (p2.Rise.Lo),.int .i64 (p2.Rise.Hi),.int .i64 (p2.Light.Lo),.int .i64 (p2.Light.Hi),.int .i64 (p2.Fog)],.int .i64 (p3)] (.tup [.agg [.int .i64 (r.1.Lit),.int .i64 (r.1.On.Lo),.int .i64 (r.1.On.Hi),.int .i64 (r.1.Off.Lo),.int .i64 (r.1.Off.Hi)],.int .i64 (r.2)]):=by
 unfold zeo at H
 refine Ctr.zan (N:=28) Tryz.func10 (by kernel_rfl) (c:=_) rfl Tryz.ntmps10 rfl (fun w0 h0 hval=>?_)
 refine W.rg env [1,3,4,6,8] [4,6,8] ?_
 refine W.seq ?_
 obtain ⟨y1,hy2,H⟩:=zaf H
 refine W.region env [] [⟨.tup [.agg [.int .i64 (y1.1.v.Source),.int .i64 (y1.1.v.Class),.int .i64 (y1.1.v.From),.int .i64 (y1.1.v.On.Lo),.int .i64 (y1.1.v.On.Hi),.int .i64 (y1.1.v.Off.Lo),.int .i64 (y1.1.v.Off.Hi),.int .i64 (y1.1.v.Moon),.int .i64 (y1.1.v.Fog),.int .i64 (y1.1.v.Known),.int .i64 (y1.1.v.Until),.int .i64 (y1.1.n.No),.int .i64 (y1.1.n.Set.Lo),.int .i64 (y1.1.n.Set.Hi),.int .i64 (y1.1.n.Rise.Lo),.int .i64 (y1.1.n.Rise.Hi),.int .i64 (y1.1.n.Light.Lo),.int .i64 (y1.1.n.Light.Hi),.int .i64 (y1.1.n.Fog)],.int .i64 (y1.2)],[],0,[]⟩] rfl rfl rfl .nil (.free (zgT p0 p1 p2 p3 hy2) .nil) (At.keep (ts:=[8,10,11]) (ids:=[8,10]) rfl rfl ?_)
 refine At.zad ?_
 refine W.seq ?_
 refine W.rg env [8,10,11,21] [8,10] ?_
 refine W.cond rfl (fun hb3=>?_) (fun hb3=>?_)
 · have H:=zai H hb3
   refine W.rg env [8,9] [8] ?_
   refine W.ret ?_
   refine At.rthen ?_
   cases H
   exact At.ret env.ty rfl rfl nofun (.refl _) hval
 · have H:=zag H hb3
   refine W.skip ?_
   refine At.zad ?_
   refine W.seq ?_
   obtain ⟨y4,hy5,H⟩:=zaf H
   refine W.region env [] [⟨.tup [.agg [.int .i64 (y4.1.Lit),.int .i64 (y4.1.On.Lo),.int .i64 (y4.1.On.Hi),.int .i64 (y4.1.Off.Lo),.int .i64 (y4.1.Off.Hi)],.int .i64 (y4.2)],[],0,[]⟩] rfl rfl rfl .nil (.free (zfq y1.1 hy5) .nil) (At.keep (ts:=[8,9]) (ids:=[8]) rfl rfl ?_)
   refine At.zad ?_
   refine W.ret ?_
   cases H
   exact At.ret env.ty rfl rfl nofun (.refl _) hval
theorem zjz (fuel:Nat) (p0:Crew) {r:((List (List Int))×Int)} (H:zdI fuel p0=some r):Ctr Tryz.prog 12 [.agg [roL 4 zal p0.Tasks,roL 1 zac p0.Travel,roL 3 zak p0.Hands]] (.tup [roL 1 zaj r.1,.int .i64 (r.2)]):=by
 unfold zdI at H
 refine Ctr.zan (N:=49) Tryz.func12 (by kernel_rfl) (c:=_) rfl Tryz.ntmps12 rfl (fun w0 h0 hval=>?_)
 refine W.rg env [1] [1] ?_
 refine W.seq ?_
 refine W.seq ?_
 obtain ⟨y1,hy2,H⟩:=zaf H
 refine W.region env [] [⟨.int .i64 (y1),[],0,[]⟩] rfl rfl rfl .nil (.free (zcT p0 hy2) .nil) (At.keep (ts:=[1,4]) (ids:=[1]) rfl rfl ?_)
 refine At.zad ?_
 refine W.rg env [1,4,14] [1] ?_
 refine W.cond rfl (fun hb3=>?_) (fun hb3=>?_)
 · have H:=zai H hb3
   refine W.rg env [2,3] [] ?_
   refine W.ret ?_
   refine At.rthen ?_
   cases H
   exact At.ret env.ty rfl rfl nofun (Sim.tupL (.cons (Sim.nil _ _) (.cons (.refl _) .nil))) hval
 · have H:=zag H hb3
   refine W.skip ?_
   refine At.zad ?_
   refine W.seq ?_
   obtain ⟨y4,hy5,H⟩:=zaf H
   obtain ⟨hc6,H⟩:=zab H
   obtain ⟨y7,hy8,H⟩:=zaf H
   refine W.region env [] [⟨.po y4.isSome [roL 4 zal ((y4.getD default).Crew.Tasks),roL 1 zac ((y4.getD default).Crew.Travel),roL 3 zak ((y4.getD default).Crew.Hands),roL 1 zaa ((y4.getD default).next)],[],0,[]⟩,⟨.tup [roL 1 zaa y7.1,roL 1 zaa y7.2],[],0,[]⟩] rfl rfl rfl .nil (.free (zch p0 (fun x0=>some (zbM x0)) 42 [] [] (fun x0 r h=>by cases h;exact zdK x0) hy5) (.free (Ctr.sim (.cons (Sim.zib hc6) .nil) (zda fuel (y4.getD default) hy8)) .nil)) (At.keep (ts:=[5,6]) (ids:=[]) rfl rfl ?_)
   refine At.zad ?_
   refine W.rg env [5,6,7] [] ?_
   refine W.seq ?_
   refine W.rg env [5,6,7,23,24] [] ?_
   refine W.block ?_
   refine At.zeR 7 507 31 1 (e:=fun i=>zaj (([]:List (List Int)).getD i default)) rfl rfl ?_
   refine At.keep (ts:=[5,6,7,23,24]) (ids:=[507]) rfl rfl ?_
   refine W.len (t:=5) rfl (fun (hn9:y7.1.length≤maxLen)=>?_)
   refine W.zah H (fun i9 (s9:(List (List Int)))=>[(5,roL 1 zaa y7.1),(6,roL 1 zaa y7.2),(7,.buf 507 (s9).length),(23,.int .i64 (((y7.1.length:Nat):Int))),(24,.int .i64 ((i9:Int)))]) (fun i9 (s9:(List (List Int)))=>[(507,bufL 31 1 zaj s9)]) (.cons .q (.cons .q (.cons .qb (.cons .qi (.cons .qi .nil))))) (.cons .q .nil) (fun k9 i9 s9 hle9 H1 H2 K0 hK9=>?_)
   refine W.rg env [5,6,7,23,24,25] [507] ?_
   refine W.seq ?_
   refine W.cond rfl (fun hb10=>?_) (fun hb10=>?_)
   · have hi9:i9<y7.1.length:=by have:=of_decide_eq_true hb10;omega
     have H:=H1 hi9
     refine W.skip ?_
     refine At.zad ?_
     refine W.seq ?_
     refine W.block ?_
     refine W.rg env [5,6,7,8,23,24] [507] ?_
     refine W.seq ?_
     refine W.sr env [] [] [5,6,7,8,23,24,31] [507] rfl rfl rfl (.cons (⟨by omega,by omega⟩:0≤(i9:Int)∧(i9:Int)<((y7.1.length:Nat):Int)) .nil) .nil ?_
     refine W.cond rfl (fun hb11=>?_) (fun hb11=>?_)
     · have H:=zai H hb11
       refine W.exit ?_
       refine At.xthen ?_
       refine At.xhere ?_
       refine At.zad ?_
       refine W.region env [] [] rfl rfl rfl (.cons (by unfold inI;have:=hn9;(try unfold maxLen at this);omega) .nil) .nil (At.keep (ts:=[5,6,7,23,24]) (ids:=[507]) rfl rfl ?_)
       refine At.zaE (At.keep (ts:=[5,6,7,23,24]) (ids:=[507]) rfl rfl ?_)
       exact At.conv (.cons .q (.cons .q (.cons .qb (.cons .qi (.cons .qi .nil))))) (.cons .q .nil) (hK9 hi9 s9 H)
     · have H:=zag H hb11
       refine W.skip ?_
       refine At.zad ?_
       refine W.rg env [5,6,7,8,9,23,24] [507] ?_
       refine W.seq ?_
       refine W.rg env [5,6,7,9,10,23,24] [507] ?_
       refine W.block ?_
       refine At.zeR 9 509 3 1 (e:=fun i=>zaa (([]:List Int).getD i default)) rfl rfl ?_
       refine At.keep (ts:=[5,6,7,9,10,23,24]) (ids:=[507,509]) rfl rfl ?_
       refine W.loopGo H (fun (s12:Int×(List Int))=>[(5,roL 1 zaa y7.1),(6,roL 1 zaa y7.2),(7,.buf 507 (s9).length),(9,.buf 509 (s12.2).length),(10,.int .i64 (s12.1)),(23,.int .i64 (((y7.1.length:Nat):Int))),(24,.int .i64 ((i9:Int)))]) (fun (s12:Int×(List Int))=>[(507,bufL 31 1 zaj s9),(509,bufL 3 1 zaa s12.2)]) (.cons .q (.cons .q (.cons .qb (.cons .qb (.cons .qi (.cons .qi (.cons .qi .nil))))))) (.cons .q (.cons .q .nil)) (fun k12 s12 H K0 hK12=>?_)
       refine W.seq ?_
       refine W.rg env [5,6,7,9,10,23,24,34] [507,509] ?_
       refine W.cond rfl (fun hb13=>?_) (fun hb13=>?_)
       · have H:=zai H hb13
         refine W.skip ?_
         refine At.zad ?_
         refine W.seq ?_
         refine W.block ?_
         obtain ⟨hc14,H⟩:=zab H
         refine W.region env [] [] rfl rfl rfl (.cons (⟨by first|rfl|(simp;done)|omega|(simp;omega),by have:=hc14;first|simpa using this|(unfold room at this ⊢;simp at this ⊢;omega)⟩) .nil) .nil (At.keep (ts:=[5,6,7,9,10,23,24]) (ids:=[507,509]) rfl rfl ?_)
         refine At.zbo (.cons (.refl _) (.cons (y:=bufL 3 1 zaa (s12.2++([s12.1]:List Int))) (BSim.seg (Seg.push (Seg.refl zaa _) (Seg.lit (f:=zaa) (sz:=1) ([s12.1]:List Int) rfl rfl (fun _=>rfl)))) .nil)) ?_
         refine At.inb ?_
         refine At.zad ?_
         obtain ⟨hc15,H⟩:=zab H
         refine W.region env [] [] rfl rfl rfl (.cons hc15 .nil) .nil (At.keep (ts:=[5,6,7,9,10,23,24]) (ids:=[507,509]) rfl rfl ?_)
         refine At.zaE (At.keep (ts:=[5,6,7,9,10,23,24]) (ids:=[507,509]) rfl rfl ?_)
         exact At.conv (.cons .q (.cons .q (.cons .qb (.cons .qb (.cons .qi (.cons .qi (.cons .qi .nil))))))) (.cons .q (.cons .q .nil)) (hK12 ((y7.2.getD (s12.1).toNat default),(s12.2++([s12.1]:List Int))) H)
       · have H:=zag H hb13
         refine W.exit ?_
         refine At.xthen ?_
         refine At.xthen ?_
         refine At.xhere ?_
         refine At.zad ?_
         refine At.freeze 9 509 (K:=[507]) (ts:=[5,6,7,23,24]) rfl rfl (by first|rfl|(simp;done)|omega|(simp;omega)) rfl rfl rfl (fun _ h=>h) ?_
         obtain ⟨hc16,H⟩:=zab H
         refine W.region env [] [] rfl rfl rfl (.cons (⟨by first|rfl|(simp;done)|omega|(simp;omega),by have:=hc16;first|simpa using this|(unfold room at this ⊢;simp at this ⊢;omega)⟩) .nil) .nil (At.keep (ts:=[5,6,7,23,24]) (ids:=[507]) rfl rfl ?_)
         refine At.zbo (.cons (y:=bufL 31 1 zaj (s9++([s12.2]:List (List Int)))) (BSim.seg (Seg.push (Seg.refl zaj _) (Seg.lit (f:=zaj) (sz:=1) ([s12.2]:List (List Int)) rfl rfl (fun _=>rfl)))) .nil) ?_
         refine At.inb ?_
         refine At.zad ?_
         refine W.region env [] [] rfl rfl rfl (.cons (by unfold inI;have:=hn9;(try unfold maxLen at this);omega) .nil) .nil (At.keep (ts:=[5,6,7,23,24]) (ids:=[507]) rfl rfl ?_)
         refine At.zaE (At.keep (ts:=[5,6,7,23,24]) (ids:=[507]) rfl rfl ?_)
         exact At.conv (.cons .q (.cons .q (.cons .qb (.cons .qi (.cons .qi .nil))))) (.cons .q .nil) (hK9 hi9 (s9++([s12.2]:List (List Int))) H)
   · have H:=H2 (by have:=of_decide_eq_false hb10;omega)
     refine W.exit ?_
     refine At.xthen ?_
     refine At.xthen ?_
     refine At.xhere ?_
     refine At.zad ?_
     refine W.rg env [2,3] [507] ?_
     refine W.ret ?_
     cases H
     exact At.ret env.ty rfl rfl (fun q hq=>by cases hq;exact (by first|rfl|(simp;done)|omega|(simp;omega))) (.refl _) hval
end Go.Sp
