/- Printed by gen.py. -/
import Derived.Test.YtjdggccejjlijaaGreatFr4
import Derived.Test.YtjdggccejjlijaaGreatFr3
import Derived.Test.YtjdggccejjlijaaGreatProg
import Derived.KernelRfl
import Derived.Shelf.Spec.SlicesInsert
import Derived.Tactics
import Derived.Tactics2
set_option linter.all false
set_option maxRecDepth 100000
set_option maxHeartbeats 1000000
set_option linter.unusedVariables false
namespace Go.Proofs
open Go.Shelf Go.RowKit Go.Lib
theorem zdc {P:Program} (w:World) {ops:Array Oper} {rest:List Oper} {o:Oper} {a:Act} {Q:Exit→Act→World→Prop} (hgd:o.guard=none) (d s:Operand) (t t':TypeId)
 (ho:o.op = .call { callee:=.builtin .append,args:=#[d,s],argTypes:=#[t,t'] }) (v u:Value) (hd:a.eval d=v) (hs:a.eval s=u) {v':Value} {w':World}
 (hr:(Builtin.append_ #[t,t'] o.type #[v,u]).run P w = .ok v' w') (h:wpList P ops Q rest (a.put o.dst v') w'):wpList P ops Q (o::rest) a w:=
 wpList_plain hgd fun _ hK=>by
  unfold Oper.wp execOp
  simp only [ho,resolve,invoke,builtin,Sem.run_bind,Sem.run_pure,Result.andThen_ok,List.map_toArray,List.map_cons,List.map_nil,hd,hs,hr]
  exact hK _ _ h
set_option maxHeartbeats 4000000 in
set_option maxRecDepth 100000 in
theorem zmK:Go.Av.InsW Tryz.prog 49 31 3 91 6 where
 shift:=by
  intro g n c i vb vc w W1 W2 hi hroom hc63 hov hcp1 hcp2
  have hz2:¬ ((i:Int)=(n:Int)):=by omega
  have hw1:IntKind.i64.wrap ((i:Int)+1)=(i:Int)+1:=by rw [IntKind.wrap_i64];omega
  have hw2:IntKind.i64.wrap ((n:Int)+1)=(n:Int)+1:=by rw [IntKind.wrap_i64];omega
  have hb1:(0:Int)≤(i:Int)+1:=by omega
  have hin:i≤n:=by omega
  have htn:((i:Int)+1).toNat=i+1:=by omega
  have hb3:(i:Int)≤(n:Int)+1:=by omega
  have hb2:¬ (c=i+1):=by omega
  have hb4:¬ (c=i):=by omega
  have mixed:Tryz.prog.follows .mixedOrders=true:=by kernel_rfl
  go_enter Tryz.func49,Tryz.ntmps49
  go_wp2_with (simp only [hov])
  go_region_law_o (refine step_copy_runI rfl _ _ 31 31 rfl _ _ (by simp [Act.eval,Act.put]) (by simp [Act.eval,Act.put]) (hcp1 _ _ _) ?_)
  go_wp2_with (at_builtin;refine wpList_copy_runI _ rfl _ _ 31 31 rfl _ _ rfl rfl (hcp2 _ _) ?_)
  go_ret
  exact ⟨rfl,rfl⟩
 end_:=by
  intro g n c vb vc w v' w' hnc hc63 hap
  have mixed:Tryz.prog.follows .mixedOrders=true:=by kernel_rfl
  by_cases hcn:c=n
  · subst hcn
    go_enter Tryz.func49,Tryz.ntmps49
    go_wp2_with (at_builtin;refine zdc _ rfl _ _ 31 31 rfl _ _ rfl rfl (hap _) ?_)
    go_ret
    exact ⟨rfl,rfl⟩
  · go_enter Tryz.func49,Tryz.ntmps49
    go_wp2_with (at_builtin;refine zdc _ rfl _ _ 31 31 rfl _ _ rfl rfl (hap _) ?_)
    go_ret
    exact ⟨rfl,rfl⟩
 nil_:=by
  intro vb vc w v' w' hap
  have mixed:Tryz.prog.follows .mixedOrders=true:=by kernel_rfl
  go_enter Tryz.func49,Tryz.ntmps49
  go_wp2_with (at_builtin;refine zdc _ rfl _ _ 31 31 rfl _ _ rfl rfl (hap _) ?_)
  go_ret
  exact ⟨rfl,rfl⟩
 grow:=by
  intro g n c i vb vc g2 c2 w W1 W2 W3 hi hnc hroom hn63 hc2 hc63 hap hcp1 hcp2
  have hz2:¬ ((i:Int)=(n:Int)):=by omega
  have hw1:IntKind.i64.wrap ((i:Int)+1)=(i:Int)+1:=by rw [IntKind.wrap_i64];omega
  have hw2:IntKind.i64.wrap ((n:Int)+1)=(n:Int)+1:=by rw [IntKind.wrap_i64];omega
  have hb1:(0:Int)≤(i:Int)+1:=by omega
  have hin:i≤n:=by omega
  have htn:((i:Int)+1).toNat=i+1:=by omega
  have hb3:(i:Int)≤(n:Int)+1:=by omega
  have hw3:IntKind.i64.wrap ((n:Int)+1 - (i:Int))=(n:Int)+1 - (i:Int):=by rw [IntKind.wrap_i64];omega
  have hic:i≤c:=by omega
  have hb2:¬ (c2=i+1):=by omega
  have hb4:¬ (c2=i):=by omega
  have hb5:¬ (c=i):=by omega
  have mixed:Tryz.prog.follows .mixedOrders=true:=by kernel_rfl
  go_enter Tryz.func49,Tryz.ntmps49
  go_wp2_with (at_builtin;refine zdc _ rfl _ _ 31 3 rfl _ _ rfl rfl (hap _) ?_)
  go_wp2_with (at_builtin;refine wpList_copy_runI _ rfl _ _ 31 31 rfl _ _ rfl rfl (hcp1 _ _) ?_)
  go_region_law_o (refine step_copy_runI rfl _ _ 31 31 rfl _ _ (by simp [Act.eval,Act.put]) (by simp [Act.eval,Act.put]) (hcp2 _ _ _) ?_)
  go_wp2
  go_ret
  exact ⟨rfl,rfl⟩
theorem zmL (w:World) (a b:Value) (h:(Extern.SlicesOverlaps.overlaps #[31,31] #[4] #[a,b]).run Tryz.prog w = .ok (.bool false) w):(callFunc 91 #[a,b]).run Tryz.prog w = .ok (.value (.bool false)) w:=by
 rw [run_callFunc_extern Tryz.func91 (by kernel_rfl) (by kernel_rfl) (by kernel_rfl) (e:=Extern.SlicesOverlaps.overlaps #[31,31] #[4]) (by kernel_rfl),h]
 rfl
end Go.Proofs
namespace Go.Sp
open Go Go.Av Go.Proofs
def zaa (x:Int):List AV:=[.int .i64 (x)]
def zcC (x:(List Int)):List AV:=[roL 1 zaa x]
def za0 (x:(Arr2 Int)):List AV:=[.int .i64 (x.x0),.int .i64 (x.x1)]
def zaD (x:Look):List AV:=[.int .i64 (x.Source),.int .i64 (x.Lamp),.int .i64 (x.Night),.bool (x.Bad),.int .i64 (x.Known),.int .i64 (x.Until)]
def zaI (x:Range):List AV:=[.int .i64 (x.Lo),.int .i64 (x.Hi)]
def zaA (x:Batch):List AV:=[.int .i64 (x.Id),.int .i64 (x.Life.Lo),.int .i64 (x.Life.Hi)]
def zau (x:Mantle):List AV:=[.int .i64 (x.Source),.int .i64 (x.Lamp),.int .i64 (x.Batch),.int .i64 (x.Night),.int .i64 (x.Known),.int .i64 (x.Until)]
def zaL (x:Burn):List AV:=[.int .i64 (x.Source),.int .i64 (x.Lamp),.int .i64 (x.Night),.int .i64 (x.Minutes.Lo),.int .i64 (x.Minutes.Hi),.int .i64 (x.Known),.int .i64 (x.Until)]
def zcD (x:(Arr3 Int)):List AV:=[.int .i64 (x.x0),.int .i64 (x.x1),.int .i64 (x.x2)]
def za7 (x:Version):List AV:=[.int .i64 (x.Source),.int .i64 (x.Class),.int .i64 (x.From),.int .i64 (x.On.Lo),.int .i64 (x.On.Hi),.int .i64 (x.Off.Lo),.int .i64 (x.Off.Hi),.int .i64 (x.Moon),.int .i64 (x.Fog),.int .i64 (x.Known),.int .i64 (x.Until)]
def zaU (x:Street):List AV:=[.int .i64 (x.Id),.int .i64 (x.Class),.int .i64 (x.District),.int .i64 (x.First),.int .i64 (x.Many)]
def zaz (x:mantle_sight):List AV:=[.int .i64 (x.night),.bool (x.bad)]
abbrev zz6:Value:=.agg #[.slice none 0 0,.slice none 0 0,.slice none 0 0,.slice none 0 0,.slice none 0 0,.slice none 0 0]
abbrev zav (x:Wear):List AV:=[roL 3 zaA x.Batches,roL 6 zau x.Mantles,roL 7 zaL x.Burns,roL 6 zaD x.Looks]
abbrev zat (x:mantle_coat):List AV:=[roL 3 zaA x.w.Batches,roL 6 zau x.w.Mantles,roL 7 zaL x.w.Burns,roL 6 zaD x.w.Looks,roL 1 zaa x.burns,roL 2 zaz x.sights]
abbrev zao (x:mantle_closet):List AV:=[roL 3 zaA x.w.Batches,roL 6 zau x.w.Mantles,roL 7 zaL x.w.Burns,roL 6 zaD x.w.Looks,.int .i64 (x.known),romL zz6 (fun (y:mantle_coat)=>.agg (zat y)) x.coats,roL 2 zaI x.lives]
abbrev zaj (x:mantle_lot):List AV:=[roL 3 zaA x.closet.w.Batches,roL 6 zau x.closet.w.Mantles,roL 7 zaL x.closet.w.Burns,roL 6 zaD x.closet.w.Looks,.int .i64 (x.closet.known),romL zz6 (fun (y:mantle_coat)=>.agg (zat y)) x.closet.coats,roL 2 zaI x.closet.lives,roL 1 zaa x.lamps,roL 1 zaa x.mantles,.int .i64 (x.night)]
abbrev zah (x:mantle_coat):AV:=.agg (zat x)
def tids:List Nat:=[3,4,22,23,24,26,28,29,30,31,33,35,38,41,42,48,52,63,65,67,70,72,73,75,76,78,81,84,88,89,91,92,94,95,97,99,100,103,104,106,110,116,122,132,134,137,143,145,148,153,158,162,166,168,181,205,206,208,209,226]
def Γ:Tys:=[(3,⟨.int .i64,[.int .i64 0],1,8⟩),
 (4,⟨.bool,[.bool false],1,1⟩),
 (22,⟨.slice 42,[.slice none 0 0],1,24⟩),
 (23,⟨.slice 3,[.slice none 0 0],1,24⟩),
 (24,⟨.slice 70,[.slice none 0 0],1,24⟩),
 (26,⟨.struct [(0,22),(1,23),(2,24),(3,23),(4,22),(5,3)],[.slice none 0 0,.slice none 0 0,.slice none 0 0,.slice none 0 0,.slice none 0 0,.int .i64 0],6,128⟩),
 (28,⟨.slice 63,[.slice none 0 0],1,24⟩),
 (29,⟨.slice 65,[.slice none 0 0],1,24⟩),
 (30,⟨.slice 67,[.slice none 0 0],1,24⟩),
 (31,⟨.slice 48,[.slice none 0 0],1,24⟩),
 (33,⟨.struct [(0,28),(1,29),(2,30),(3,31)],[.slice none 0 0,.slice none 0 0,.slice none 0 0,.slice none 0 0],4,96⟩),
 (35,⟨.struct [(0,23),(1,23)],[.slice none 0 0,.slice none 0 0],2,48⟩),
 (38,⟨.int .i64,[.int .i64 0],1,8⟩),
 (41,⟨.func,[.nilFunc],1,8⟩),
 (42,⟨.array 2 3,[.int .i64 0,.int .i64 0],2,16⟩),
 (48,⟨.struct [(0,3),(1,3),(2,3),(3,4),(4,3),(5,3)],[.int .i64 0,.int .i64 0,.int .i64 0,.bool false,.int .i64 0,.int .i64 0],6,48⟩),
 (52,⟨.struct [(0,3),(1,3)],[.int .i64 0,.int .i64 0],2,16⟩),
 (63,⟨.struct [(0,3),(1,52)],[.int .i64 0,.int .i64 0,.int .i64 0],3,24⟩),
 (65,⟨.struct [(0,3),(1,3),(2,3),(3,3),(4,3),(5,3)],[.int .i64 0,.int .i64 0,.int .i64 0,.int .i64 0,.int .i64 0,.int .i64 0],6,48⟩),
 (67,⟨.struct [(0,3),(1,3),(2,3),(3,52),(5,3),(6,3)],[.int .i64 0,.int .i64 0,.int .i64 0,.int .i64 0,.int .i64 0,.int .i64 0,.int .i64 0],7,56⟩),
 (70,⟨.array 3 3,[.int .i64 0,.int .i64 0,.int .i64 0],3,24⟩),
 (72,⟨.struct [(0,3),(1,3),(2,3),(3,52),(5,52),(7,3),(8,3),(9,3),(10,3)],[.int .i64 0,.int .i64 0,.int .i64 0,.int .i64 0,.int .i64 0,.int .i64 0,.int .i64 0,.int .i64 0,.int .i64 0,.int .i64 0,.int .i64 0],11,88⟩),
 (73,⟨.slice 72,[.slice none 0 0],1,24⟩),
 (75,⟨.struct [(0,3),(1,3),(2,3),(3,3),(4,3)],[.int .i64 0,.int .i64 0,.int .i64 0,.int .i64 0,.int .i64 0],5,40⟩),
 (76,⟨.slice 75,[.slice none 0 0],1,24⟩),
 (78,⟨.struct [(0,73),(1,76)],[.slice none 0 0,.slice none 0 0],2,48⟩),
 (81,⟨.struct [(0,3),(1,52),(3,52),(5,52),(7,3)],[.int .i64 0,.int .i64 0,.int .i64 0,.int .i64 0,.int .i64 0,.int .i64 0,.int .i64 0,.int .i64 0],8,64⟩),
 (84,⟨.struct [(0,3),(1,52),(3,52)],[.int .i64 0,.int .i64 0,.int .i64 0,.int .i64 0,.int .i64 0],5,40⟩),
 (88,⟨.func,[.nilFunc],1,8⟩),
 (89,⟨.func,[.nilFunc],1,8⟩),
 (91,⟨.func,[.nilFunc],1,8⟩),
 (92,⟨.func,[.nilFunc],1,8⟩),
 (94,⟨.func,[.nilFunc],1,8⟩),
 (95,⟨.func,[.nilFunc],1,8⟩),
 (97,⟨.func,[.nilFunc],1,8⟩),
 (99,⟨.func,[.nilFunc],1,8⟩),
 (100,⟨.func,[.nilFunc],1,8⟩),
 (103,⟨.map 3 134,[.map none],1,8⟩),
 (104,⟨.slice 52,[.slice none 0 0],1,24⟩),
 (106,⟨.struct [(0,33),(4,3),(5,103),(6,104)],[.slice none 0 0,.slice none 0 0,.slice none 0 0,.slice none 0 0,.int .i64 0,.map none,.slice none 0 0],7,136⟩),
 (110,⟨.struct [(0,106),(7,23),(8,23),(9,3)],[.slice none 0 0,.slice none 0 0,.slice none 0 0,.slice none 0 0,.int .i64 0,.map none,.slice none 0 0,.slice none 0 0,.slice none 0 0,.int .i64 0],10,192⟩),
 (116,⟨.func,[.nilFunc],1,8⟩),
 (122,⟨.func,[.nilFunc],1,8⟩),
 (132,⟨.slice 153,[.slice none 0 0],1,24⟩),
 (134,⟨.struct [(0,33),(4,23),(5,132)],[.slice none 0 0,.slice none 0 0,.slice none 0 0,.slice none 0 0,.slice none 0 0,.slice none 0 0],6,144⟩),
 (137,⟨.struct [(0,72),(11,81)],[.int .i64 0,.int .i64 0,.int .i64 0,.int .i64 0,.int .i64 0,.int .i64 0,.int .i64 0,.int .i64 0,.int .i64 0,.int .i64 0,.int .i64 0,.int .i64 0,.int .i64 0,.int .i64 0,.int .i64 0,.int .i64 0,.int .i64 0,.int .i64 0,.int .i64 0],19,152⟩),
 (143,⟨.func,[.nilFunc],1,8⟩),
 (145,⟨.func,[.nilFunc],1,8⟩),
 (148,⟨.map 3 23,[.map none],1,8⟩),
 (153,⟨.struct [(0,3),(1,4)],[.int .i64 0,.bool false],2,16⟩),
 (158,⟨.func,[.nilFunc],1,8⟩),
 (162,⟨.int .u64,[.int .u64 0],1,8⟩),
 (166,⟨.func,[.nilFunc],1,8⟩),
 (168,⟨.slice 23,[.slice none 0 0],1,24⟩),
 (181,⟨.func,[.nilFunc],1,8⟩),
 (205,⟨.func,[.nilFunc],1,8⟩),
 (206,⟨.func,[.nilFunc],1,8⟩),
 (208,⟨.func,[.nilFunc],1,8⟩),
 (209,⟨.func,[.nilFunc],1,8⟩),
 (226,⟨.func,[.nilFunc],1,8⟩)]
theorem Γ_ok:zpU Tryz.prog tids=some Γ:=by kernel_rfl
theorem env:Env Tryz.prog Γ:=⟨zkd Γ_ok,by decide +kernel,by kernel_rfl⟩
def zqX:Go.Shelf.Ren where
 f:=fun x=>match x with
  | 189=>59
  | 125=>100
  | 257=>99
  | 128=>134
  | 129=>135
  | 294=>126
  | 295=>127
  | 296=>128
  | 297=>129
  | 298=>130
  | 299=>131
  | 216=>101
  | 300=>132
  | 301=>133
  | 328=>153
  | 329=>154
  | 330=>155
  | 331=>156
  | 332=>157
  | 215=>90
  | 343=>162
  | n=>n
 t:=fun x=>match x with
  | 28=>23
  | 3=>3
  | 46=>162
  | 0=>0
  | 51=>200
  | 53=>202
  | 4=>4
  | 183=>194
  | 182=>193
  | 131=>114
  | 5=>5
  | 9=>9
  | 218=>219
  | 222=>223
  | 228=>229
  | 229=>187
  | n=>n
 g:=fun x=>x
theorem zmo:Go.Proofs.Lays.n189 Tryz.prog zqX:=
 {
  mixed:=by kernel_rfl,
  f125:=Tryz.func100.trans (congrArg some (by kernel_rfl)),
  f128:=Tryz.func134.trans (congrArg some (by kernel_rfl)),
  f129:=Tryz.func135.trans (congrArg some (by kernel_rfl)),
  f189:=Tryz.func59.trans (congrArg some (by kernel_rfl)),
  f215:=Tryz.func90.trans (congrArg some (by kernel_rfl)),
  f216:=Tryz.func101.trans (congrArg some (by kernel_rfl)),
  f257:=Tryz.func99.trans (congrArg some (by kernel_rfl)),
  f294:=Tryz.func126.trans (congrArg some (by kernel_rfl)),
  f295:=Tryz.func127.trans (congrArg some (by kernel_rfl)),
  f296:=Tryz.func128.trans (congrArg some (by kernel_rfl)),
  f297:=Tryz.func129.trans (congrArg some (by kernel_rfl)),
  f298:=Tryz.func130.trans (congrArg some (by kernel_rfl)),
  f299:=Tryz.func131.trans (congrArg some (by kernel_rfl)),
  f300:=Tryz.func132.trans (congrArg some (by kernel_rfl)),
  f301:=Tryz.func133.trans (congrArg some (by kernel_rfl)),
  f328:=Tryz.func153.trans (congrArg some (by kernel_rfl)),
  f329:=Tryz.func154.trans (congrArg some (by kernel_rfl)),
  f330:=Tryz.func155.trans (congrArg some (by kernel_rfl)),
  f331:=Tryz.func156.trans (congrArg some (by kernel_rfl)),
  f332:=Tryz.func157.trans (congrArg some (by kernel_rfl)),
  f343:=Tryz.func162.trans (congrArg some (by kernel_rfl)),
  t0:=Tryz.underlying0,
  a0:=Tryz.isAgg0,
  z0:=Tryz.sizeOf0,
  v0:=Tryz.zeroValue0,
  t3:=Tryz.underlying3,
  a3:=Tryz.isAgg3,
  z3:=Tryz.sizeOf3,
  v3:=Tryz.zeroValue3,
  t4:=Tryz.underlying4,
  a4:=Tryz.isAgg4,
  z4:=Tryz.sizeOf4,
  v4:=Tryz.zeroValue4,
  t5:=Tryz.underlying5,
  a5:=Tryz.isAgg5,
  z5:=Tryz.sizeOf5,
  v5:=Tryz.zeroValue5,
  t9:=Tryz.underlying9,
  a9:=Tryz.isAgg9,
  z9:=Tryz.sizeOf9,
  v9:=Tryz.zeroValue9,
  t28:=Tryz.underlying23,
  a28:=Tryz.isAgg23,
  z28:=Tryz.sizeOf23,
  v28:=Tryz.zeroValue23,
  t46:=Tryz.underlying162,
  a46:=Tryz.isAgg162,
  z46:=Tryz.sizeOf162,
  v46:=Tryz.zeroValue162,
  t51:=Tryz.underlying200,
  a51:=Tryz.isAgg200,
  z51:=Tryz.sizeOf200,
  v51:=Tryz.zeroValue200,
  t53:=Tryz.underlying202,
  a53:=Tryz.isAgg202,
  z53:=Tryz.sizeOf202,
  v53:=Tryz.zeroValue202,
  t131:=Tryz.underlying114,
  a131:=Tryz.isAgg114,
  z131:=Tryz.sizeOf114,
  v131:=Tryz.zeroValue114,
  t182:=Tryz.underlying193,
  a182:=Tryz.isAgg193,
  z182:=Tryz.sizeOf193,
  v182:=Tryz.zeroValue193,
  t183:=Tryz.underlying194,
  a183:=Tryz.isAgg194,
  z183:=Tryz.sizeOf194,
  v183:=Tryz.zeroValue194,
  t218:=Tryz.underlying219,
  a218:=Tryz.isAgg219,
  z218:=Tryz.sizeOf219,
  v218:=Tryz.zeroValue219,
  t222:=Tryz.underlying223,
  a222:=Tryz.isAgg223,
  z222:=Tryz.sizeOf223,
  v222:=Tryz.zeroValue223,
  t228:=Tryz.underlying229,
  a228:=Tryz.isAgg229,
  z228:=Tryz.sizeOf229,
  v228:=Tryz.zeroValue229,
  t229:=Tryz.underlying187,
  a229:=Tryz.isAgg187,
  z229:=Tryz.sizeOf187,
  v229:=Tryz.zeroValue187 }
theorem zgo (p0:(List Batch)) (p1:Int) (p2:Batch→Option Int) (p2_g:Nat) (p2_a p2_b:List AV) (p2_h:∀ x0 r,p2 x0=some r→Ctr Tryz.prog p2_g (p2_a++([.agg [.int .i64 (x0.Id),.int .i64 (x0.Life.Lo),.int .i64 (x0.Life.Hi)]]++p2_b)) (.int .i64 (r))) (p3:Batch→Option Int) (p3_g:Nat) (p3_a p3_b:List AV) (p3_h:∀ x0 r,p3 x0=some r→Ctr Tryz.prog p3_g (p3_a++([.agg [.int .i64 (x0.Id),.int .i64 (x0.Life.Lo),.int .i64 (x0.Life.Hi)]]++p3_b)) (.int .i64 (r))) {r:Bool} (H:zcE p0 p1 p2 p3=some r):Ctr Tryz.prog 23 [roL 3 zaA p0,.int .i64 (p1),.clo (.func p2_g) p2_a p2_b,.clo (.func p3_g) p3_a p3_b] (.bool (r)):=by
 unfold zcE at H
 refine Ctr.ob Tryz.func23 Tryz.ntmps23 (fun w0 h0 hval=>?_)
 refine W.rg env [0,1,2,3] [] ?_
 refine W.seq (W.rg env [0,1,2,3,11,12,13] [] ?_)
 refine W.block (At.kp [0,1,2,3,11,12,13] [] ?_)
 refine W.len (t:=11) rfl (fun hn1=>?_)
 refine W.zak H (fun i1 (s1:Unit)=>[(0,roL 3 zaA p0),(1,.int .i64 (p1)),(2,.clo (.func p2_g) p2_a p2_b),(3,.clo (.func p3_g) p3_a p3_b),(11,roL 3 zaA p0),(12,.int .i64 (((p0.length:Nat):Int))),(13,.int .i64 ((i1:Int)))]) (fun i1 (s1:Unit)=>[]) (.cons .q (.cons .qi (.cons .q (.cons .q (.cons .q (.cons .qi (.cons .qi .nil))))))) .nil (fun k1 i1 s1 hle1 H1 H2 K0 hK1=>?_)
 refine W.rg env [0,1,2,3,11,12,13,14] [] ?_
 refine W.seq (W.cond rfl (fun hb2=>?_) (fun hb2=>?_))
 · have hi1:i1<p0.length:=ltD hb2
   have H:=H1 hi1
   refine W.skip (At.zad (W.seq (W.block (W.sr env [] [] [0,1,2,3,9,10,11,12,13] [10] rfl rfl rfl (.cons (inD hi1) .nil) .nil ?_))))
   refine W.seq ?_
   obtain ⟨y3,hy4,H⟩:=zac H
   obtain ⟨hc5,H⟩:=zab H
   obtain ⟨hc6,H⟩:=zab H
   obtain ⟨y7,hy8,H⟩:=zac H
   obtain ⟨y9,hy10,H⟩:=zac H
   refine W.region env [] [⟨.int .i64 (y3),[],0,[]⟩,⟨.int .i64 (y7),[],0,[]⟩,⟨.int .i64 (y9),[],0,[]⟩] rfl rfl (by kernel_rfl) (.cons id (.cons id (.cons hc5 (.cons id (.cons hc6 (.cons id (.cons id (.cons id (.cons id (.cons id (.cons id (.cons id (.cons id (.cons id (.cons id (.cons (fun hW h=>by revert hW h;first|(simp +contextual;done)|grind) (.cons (fun h=>by rw [h];rfl) .nil))))))))))))))))) (.free (p2_h (p0.getD i1 default) _ hy4) (.on (fun hW=>p3_h (p0.getD (((i1:Int) - 1)).toNat default) _ (zbf hy8 hW)) (.on (fun hW=>p3_h (p0.getD i1 default) _ (zbf hy10 hW)) .nil))) (At.kp [0,1,2,3,11,12,13,38] [] ?_)
   refine At.zad (W.co H rfl (fun hb11 H=>?_) (fun hb11 H=>?_))
   · refine W.rg env [8] [] ?_
     refine W.ret (At.rinb ?_)
     refine At.rthen ?_
     refine At.rthen ?_
     refine At.rinb ?_
     refine At.rthen ?_
     cases H
     exact At.rz env hval
   · refine W.skip (At.inb (At.zad (W.region env [] [] rfl rfl rfl (.cons (incD hi1 hn1) .nil) .nil (At.kp [0,1,2,3,11,12,13] [] ?_))))
     refine At.zaG (At.kp [0,1,2,3,11,12,13] [] ?_)
     exact At.conv (.cons .q (.cons .qi (.cons .q (.cons .q (.cons .q (.cons .qi (.cons .qi .nil))))))) .nil (hK1 hi1 () H)
 · have H:=H2 (geD hb2)
   refine W.exit (At.xthen (At.xthen (At.xhere (At.zad (W.rg env [8] [] ?_)))))
   refine W.ret ?_
   cases H
   exact At.rz env hval
theorem zbD (p0:Int) (p1:Int) (p2:Int):Ctr Tryz.prog 67 [.int .i64 (p0),.int .i64 (p1),.int .i64 (p2)] (.bool ((zay p0 p1 p2))):=by
 obtain ⟨r,H⟩:∃ r,zay p0 p1 p2=r:=⟨_,rfl⟩
 rw [H]
 unfold zay at H
 refine Ctr.ob Tryz.func67 Tryz.ntmps67 (fun w0 h0 hval=>?_)
 refine W.rg env [0,1,2] [] ?_
 refine W.sr env [] [] [6] [] rfl rfl rfl (.cons id (.cons id (.cons id .nil))) .nil ?_
 refine W.ret ?_
 cases H
 exact At.rz env hval
theorem zgS (p0:Range) (p1:Int):Ctr Tryz.prog 68 [.agg [.int .i64 (p0.Lo),.int .i64 (p0.Hi)],.int .i64 (p1)] (.bool ((zbT p0 p1))):=by
 obtain ⟨r,H⟩:∃ r,zbT p0 p1=r:=⟨_,rfl⟩
 rw [H]
 unfold zbT at H
 refine Ctr.ob Tryz.func68 Tryz.ntmps68 (fun w0 h0 hval=>?_)
 refine W.rg env [1,2] [2] ?_
 refine W.sr env [] [] [4] [] rfl rfl rfl (.cons id (.cons id (.cons id (.cons id (.cons id (.cons id (.cons id (.cons id (.cons id .nil))))))))) .nil ?_
 refine W.ret ?_
 cases H
 exact At.rz env hval
theorem zhS (p0:Batch):Ctr Tryz.prog 24 [.agg [.int .i64 (p0.Id),.int .i64 (p0.Life.Lo),.int .i64 (p0.Life.Hi)]] (.int .i64 ((zaZ p0))):=by
 obtain ⟨r,H⟩:∃ r,zaZ p0=r:=⟨_,rfl⟩
 rw [H]
 unfold zaZ at H
 refine Ctr.ob Tryz.func24 Tryz.ntmps24 (fun w0 h0 hval=>?_)
 refine W.rg env [1] [1] ?_
 refine W.seq (W.sr env [] [⟨.bool ((zay p0.Id 1 99)),[],0,[]⟩,⟨.bool ((zbT p0.Life 1000000)),[],0,[]⟩] [12] [] rfl rfl rfl (.cons id (.cons id (.cons id (.cons (fun h=>by rw [h];rfl) .nil)))) (.free (zbD p0.Id 1 99) (.on (fun hW=>zgS p0.Life 1000000) .nil)) ?_)
 refine W.co H rfl (fun hb1 H=>?_) (fun hb1 H=>?_)
 · refine W.rg env [2] [] ?_
   refine W.ret (At.rthen ?_)
   cases H
   exact At.rz env hval
 · refine W.skip (At.zad (W.rg env [2] [] ?_))
   refine W.ret ?_
   cases H
   exact At.rz env hval
theorem zjs (p0:Batch):Ctr Tryz.prog 25 [.agg [.int .i64 (p0.Id),.int .i64 (p0.Life.Lo),.int .i64 (p0.Life.Hi)]] (.int .i64 ((zc7 p0))):=by
 obtain ⟨r,H⟩:∃ r,zc7 p0=r:=⟨_,rfl⟩
 rw [H]
 unfold zc7 at H
 refine Ctr.ob Tryz.func25 Tryz.ntmps25 (fun w0 h0 hval=>?_)
 refine W.rg env [1] [1] ?_
 refine W.rg env [2] [] ?_
 refine W.ret ?_
 cases H
 exact At.rz env hval
theorem zgh (p0:(List Mantle)) (p1:Int) (p2:Mantle→Option Int) (p2_g:Nat) (p2_a p2_b:List AV) (p2_h:∀ x0 r,p2 x0=some r→Ctr Tryz.prog p2_g (p2_a++([.agg [.int .i64 (x0.Source),.int .i64 (x0.Lamp),.int .i64 (x0.Batch),.int .i64 (x0.Night),.int .i64 (x0.Known),.int .i64 (x0.Until)]]++p2_b)) (.int .i64 (r))) (p3:Mantle→Option Int) (p3_g:Nat) (p3_a p3_b:List AV) (p3_h:∀ x0 r,p3 x0=some r→Ctr Tryz.prog p3_g (p3_a++([.agg [.int .i64 (x0.Source),.int .i64 (x0.Lamp),.int .i64 (x0.Batch),.int .i64 (x0.Night),.int .i64 (x0.Known),.int .i64 (x0.Until)]]++p3_b)) (.int .i64 (r))) {r:Bool} (H:zcy p0 p1 p2 p3=some r):Ctr Tryz.prog 26 [roL 6 zau p0,.int .i64 (p1),.clo (.func p2_g) p2_a p2_b,.clo (.func p3_g) p3_a p3_b] (.bool (r)):=by
 unfold zcy at H
 refine Ctr.ob Tryz.func26 Tryz.ntmps26 (fun w0 h0 hval=>?_)
 refine W.rg env [0,1,2,3] [] ?_
 refine W.seq (W.rg env [0,1,2,3,11,12,13] [] ?_)
 refine W.block (At.kp [0,1,2,3,11,12,13] [] ?_)
 refine W.len (t:=11) rfl (fun hn1=>?_)
 refine W.zak H (fun i1 (s1:Unit)=>[(0,roL 6 zau p0),(1,.int .i64 (p1)),(2,.clo (.func p2_g) p2_a p2_b),(3,.clo (.func p3_g) p3_a p3_b),(11,roL 6 zau p0),(12,.int .i64 (((p0.length:Nat):Int))),(13,.int .i64 ((i1:Int)))]) (fun i1 (s1:Unit)=>[]) (.cons .q (.cons .qi (.cons .q (.cons .q (.cons .q (.cons .qi (.cons .qi .nil))))))) .nil (fun k1 i1 s1 hle1 H1 H2 K0 hK1=>?_)
 refine W.rg env [0,1,2,3,11,12,13,14] [] ?_
 refine W.seq (W.cond rfl (fun hb2=>?_) (fun hb2=>?_))
 · have hi1:i1<p0.length:=ltD hb2
   have H:=H1 hi1
   refine W.skip (At.zad (W.seq (W.block (W.sr env [] [] [0,1,2,3,9,10,11,12,13] [10] rfl rfl rfl (.cons (inD hi1) .nil) .nil ?_))))
   refine W.seq ?_
   obtain ⟨y3,hy4,H⟩:=zac H
   obtain ⟨hc5,H⟩:=zab H
   obtain ⟨hc6,H⟩:=zab H
   obtain ⟨y7,hy8,H⟩:=zac H
   obtain ⟨y9,hy10,H⟩:=zac H
   refine W.region env [] [⟨.int .i64 (y3),[],0,[]⟩,⟨.int .i64 (y7),[],0,[]⟩,⟨.int .i64 (y9),[],0,[]⟩] rfl rfl (by kernel_rfl) (.cons id (.cons id (.cons hc5 (.cons id (.cons hc6 (.cons id (.cons id (.cons id (.cons id (.cons id (.cons id (.cons id (.cons id (.cons id (.cons id (.cons (fun hW h=>by revert hW h;first|(simp +contextual;done)|grind) (.cons (fun h=>by rw [h];rfl) .nil))))))))))))))))) (.free (p2_h (p0.getD i1 default) _ hy4) (.on (fun hW=>p3_h (p0.getD (((i1:Int) - 1)).toNat default) _ (zbf hy8 hW)) (.on (fun hW=>p3_h (p0.getD i1 default) _ (zbf hy10 hW)) .nil))) (At.kp [0,1,2,3,11,12,13,38] [] ?_)
   refine At.zad (W.co H rfl (fun hb11 H=>?_) (fun hb11 H=>?_))
   · refine W.rg env [8] [] ?_
     refine W.ret (At.rinb ?_)
     refine At.rthen ?_
     refine At.rthen ?_
     refine At.rinb ?_
     refine At.rthen ?_
     cases H
     exact At.rz env hval
   · refine W.skip (At.inb (At.zad (W.region env [] [] rfl rfl rfl (.cons (incD hi1 hn1) .nil) .nil (At.kp [0,1,2,3,11,12,13] [] ?_))))
     refine At.zaG (At.kp [0,1,2,3,11,12,13] [] ?_)
     exact At.conv (.cons .q (.cons .qi (.cons .q (.cons .q (.cons .q (.cons .qi (.cons .qi .nil))))))) .nil (hK1 hi1 () H)
 · have H:=H2 (geD hb2)
   refine W.exit (At.xthen (At.xthen (At.xhere (At.zad (W.rg env [8] [] ?_)))))
   refine W.ret ?_
   cases H
   exact At.rz env hval
theorem zeu (p0:Int):Ctr Tryz.prog 69 [.int .i64 (p0)] (.bool ((za5 p0))):=by
 obtain ⟨r,H⟩:∃ r,za5 p0=r:=⟨_,rfl⟩
 rw [H]
 unfold za5 at H
 refine Ctr.ob Tryz.func69 Tryz.ntmps69 (fun w0 h0 hval=>?_)
 refine W.rg env [0] [] ?_
 refine W.sr env [] [⟨.bool ((zay p0 1 99999)),[],0,[]⟩] [2] [] rfl rfl rfl .nil (.free (zbD p0 1 99999) .nil) ?_
 refine W.ret ?_
 cases H
 exact At.rz env hval
theorem zdq (p0:Int):Ctr Tryz.prog 70 [.int .i64 (p0)] (.bool ((zaH p0))):=by
 obtain ⟨r,H⟩:∃ r,zaH p0=r:=⟨_,rfl⟩
 rw [H]
 unfold zaH at H
 refine Ctr.ob Tryz.func70 Tryz.ntmps70 (fun w0 h0 hval=>?_)
 refine W.rg env [0] [] ?_
 refine W.sr env [] [⟨.bool ((zay p0 1 999)),[],0,[]⟩] [2] [] rfl rfl rfl .nil (.free (zbD p0 1 999) .nil) ?_
 refine W.ret ?_
 cases H
 exact At.rz env hval
theorem zcs (p0:Int):Ctr Tryz.prog 77 [.int .i64 (p0)] (.bool ((zaK p0))):=by
 obtain ⟨r,H⟩:∃ r,zaK p0=r:=⟨_,rfl⟩
 rw [H]
 unfold zaK at H
 refine Ctr.ob Tryz.func77 Tryz.ntmps77 (fun w0 h0 hval=>?_)
 refine W.rg env [0] [] ?_
 refine W.sr env [] [⟨.bool ((zay p0 0 100000)),[],0,[]⟩] [2] [] rfl rfl rfl .nil (.free (zbD p0 0 100000) .nil) ?_
 refine W.ret ?_
 cases H
 exact At.rz env hval
theorem zev (p0:Int) (p1:Int) (p2:Int):Ctr Tryz.prog 71 [.int .i64 (p0),.int .i64 (p1),.int .i64 (p2)] (.bool ((zbc p0 p1 p2))):=by
 obtain ⟨r,H⟩:∃ r,zbc p0 p1 p2=r:=⟨_,rfl⟩
 rw [H]
 unfold zbc at H
 refine Ctr.ob Tryz.func71 Tryz.ntmps71 (fun w0 h0 hval=>?_)
 refine W.rg env [0,1,2] [] ?_
 refine W.sr env [] [⟨.bool ((zaK p0)),[],0,[]⟩,⟨.bool ((zaK p1)),[],0,[]⟩,⟨.bool ((zaK p2)),[],0,[]⟩] [6] [] rfl rfl rfl (.cons id (.cons id (.cons id (.cons id (.cons id (.cons id (.cons id (.cons id (.cons id (.cons (fun hW h=>by revert hW h;first|(simp +contextual;done)|grind) (.cons id (.cons (fun hW h=>by revert hW h;first|(simp +contextual;done)|grind) (.cons id .nil))))))))))))) (.free (zcs p0) (.on (fun hW=>zcs p1) (.on (fun hW=>zcs p2) .nil))) ?_
 refine W.ret ?_
 cases H
 exact At.rz env hval
theorem zhp (p0:Mantle):Ctr Tryz.prog 27 [.agg [.int .i64 (p0.Source),.int .i64 (p0.Lamp),.int .i64 (p0.Batch),.int .i64 (p0.Night),.int .i64 (p0.Known),.int .i64 (p0.Until)]] (.int .i64 ((zbi p0))):=by
 obtain ⟨r,H⟩:∃ r,zbi p0=r:=⟨_,rfl⟩
 rw [H]
 unfold zbi at H
 refine Ctr.ob Tryz.func27 Tryz.ntmps27 (fun w0 h0 hval=>?_)
 refine W.rg env [1] [1] ?_
 refine W.seq (W.sr env [] [⟨.bool ((za5 p0.Source)),[],0,[]⟩,⟨.bool ((zaH p0.Lamp)),[],0,[]⟩,⟨.bool ((zay p0.Batch 1 99)),[],0,[]⟩,⟨.bool ((zbc p0.Night p0.Known p0.Until)),[],0,[]⟩] [28] [] rfl rfl rfl (.cons id (.cons id (.cons id (.cons (fun h=>by rw [h];rfl) (.cons id (.cons id (.cons id (.cons (fun h=>by rw [h];rfl) (.cons id (.cons id (.cons id (.cons id (.cons id (.cons id (.cons id (.cons (fun h=>by rw [h];rfl) .nil)))))))))))))))) (.free (zeu p0.Source) (.on (fun hW=>zdq p0.Lamp) (.on (fun hW=>zbD p0.Batch 1 99) (.on (fun hW=>zev p0.Night p0.Known p0.Until) .nil)))) ?_)
 refine W.co H rfl (fun hb1 H=>?_) (fun hb1 H=>?_)
 · refine W.rg env [2] [] ?_
   refine W.ret (At.rthen ?_)
   cases H
   exact At.rz env hval
 · refine W.skip (At.zad (W.rg env [2] [] ?_))
   refine W.ret ?_
   cases H
   exact At.rz env hval
theorem zjr (p0:Mantle):Ctr Tryz.prog 28 [.agg [.int .i64 (p0.Source),.int .i64 (p0.Lamp),.int .i64 (p0.Batch),.int .i64 (p0.Night),.int .i64 (p0.Known),.int .i64 (p0.Until)]] (.int .i64 ((zc6 p0))):=by
 obtain ⟨r,H⟩:∃ r,zc6 p0=r:=⟨_,rfl⟩
 rw [H]
 unfold zc6 at H
 refine Ctr.ob Tryz.func28 Tryz.ntmps28 (fun w0 h0 hval=>?_)
 refine W.rg env [1] [1] ?_
 refine W.rg env [2] [] ?_
 refine W.ret ?_
 cases H
 exact At.rz env hval
theorem zgU (p0:(List Burn)) (p1:Int) (p2:Burn→Option Int) (p2_g:Nat) (p2_a p2_b:List AV) (p2_h:∀ x0 r,p2 x0=some r→Ctr Tryz.prog p2_g (p2_a++([.agg [.int .i64 (x0.Source),.int .i64 (x0.Lamp),.int .i64 (x0.Night),.int .i64 (x0.Minutes.Lo),.int .i64 (x0.Minutes.Hi),.int .i64 (x0.Known),.int .i64 (x0.Until)]]++p2_b)) (.int .i64 (r))) (p3:Burn→Option Int) (p3_g:Nat) (p3_a p3_b:List AV) (p3_h:∀ x0 r,p3 x0=some r→Ctr Tryz.prog p3_g (p3_a++([.agg [.int .i64 (x0.Source),.int .i64 (x0.Lamp),.int .i64 (x0.Night),.int .i64 (x0.Minutes.Lo),.int .i64 (x0.Minutes.Hi),.int .i64 (x0.Known),.int .i64 (x0.Until)]]++p3_b)) (.int .i64 (r))) {r:Bool} (H:zcW p0 p1 p2 p3=some r):Ctr Tryz.prog 29 [roL 7 zaL p0,.int .i64 (p1),.clo (.func p2_g) p2_a p2_b,.clo (.func p3_g) p3_a p3_b] (.bool (r)):=by
 unfold zcW at H
 refine Ctr.ob Tryz.func29 Tryz.ntmps29 (fun w0 h0 hval=>?_)
 refine W.rg env [0,1,2,3] [] ?_
 refine W.seq (W.rg env [0,1,2,3,11,12,13] [] ?_)
 refine W.block (At.kp [0,1,2,3,11,12,13] [] ?_)
 refine W.len (t:=11) rfl (fun hn1=>?_)
 refine W.zak H (fun i1 (s1:Unit)=>[(0,roL 7 zaL p0),(1,.int .i64 (p1)),(2,.clo (.func p2_g) p2_a p2_b),(3,.clo (.func p3_g) p3_a p3_b),(11,roL 7 zaL p0),(12,.int .i64 (((p0.length:Nat):Int))),(13,.int .i64 ((i1:Int)))]) (fun i1 (s1:Unit)=>[]) (.cons .q (.cons .qi (.cons .q (.cons .q (.cons .q (.cons .qi (.cons .qi .nil))))))) .nil (fun k1 i1 s1 hle1 H1 H2 K0 hK1=>?_)
 refine W.rg env [0,1,2,3,11,12,13,14] [] ?_
 refine W.seq (W.cond rfl (fun hb2=>?_) (fun hb2=>?_))
 · have hi1:i1<p0.length:=ltD hb2
   have H:=H1 hi1
   refine W.skip (At.zad (W.seq (W.block (W.sr env [] [] [0,1,2,3,9,10,11,12,13] [10] rfl rfl rfl (.cons (inD hi1) .nil) .nil ?_))))
   refine W.seq ?_
   obtain ⟨y3,hy4,H⟩:=zac H
   obtain ⟨hc5,H⟩:=zab H
   obtain ⟨hc6,H⟩:=zab H
   obtain ⟨y7,hy8,H⟩:=zac H
   obtain ⟨y9,hy10,H⟩:=zac H
   refine W.region env [] [⟨.int .i64 (y3),[],0,[]⟩,⟨.int .i64 (y7),[],0,[]⟩,⟨.int .i64 (y9),[],0,[]⟩] rfl rfl (by kernel_rfl) (.cons id (.cons id (.cons hc5 (.cons id (.cons hc6 (.cons id (.cons id (.cons id (.cons id (.cons id (.cons id (.cons id (.cons id (.cons id (.cons id (.cons (fun hW h=>by revert hW h;first|(simp +contextual;done)|grind) (.cons (fun h=>by rw [h];rfl) .nil))))))))))))))))) (.free (p2_h (p0.getD i1 default) _ hy4) (.on (fun hW=>p3_h (p0.getD (((i1:Int) - 1)).toNat default) _ (zbf hy8 hW)) (.on (fun hW=>p3_h (p0.getD i1 default) _ (zbf hy10 hW)) .nil))) (At.kp [0,1,2,3,11,12,13,38] [] ?_)
   refine At.zad (W.co H rfl (fun hb11 H=>?_) (fun hb11 H=>?_))
   · refine W.rg env [8] [] ?_
     refine W.ret (At.rinb ?_)
     refine At.rthen ?_
     refine At.rthen ?_
     refine At.rinb ?_
     refine At.rthen ?_
     cases H
     exact At.rz env hval
   · refine W.skip (At.inb (At.zad (W.region env [] [] rfl rfl rfl (.cons (incD hi1 hn1) .nil) .nil (At.kp [0,1,2,3,11,12,13] [] ?_))))
     refine At.zaG (At.kp [0,1,2,3,11,12,13] [] ?_)
     exact At.conv (.cons .q (.cons .qi (.cons .q (.cons .q (.cons .q (.cons .qi (.cons .qi .nil))))))) .nil (hK1 hi1 () H)
 · have H:=H2 (geD hb2)
   refine W.exit (At.xthen (At.xthen (At.xhere (At.zad (W.rg env [8] [] ?_)))))
   refine W.ret ?_
   cases H
   exact At.rz env hval
theorem ziq (p0:Burn):Ctr Tryz.prog 30 [.agg [.int .i64 (p0.Source),.int .i64 (p0.Lamp),.int .i64 (p0.Night),.int .i64 (p0.Minutes.Lo),.int .i64 (p0.Minutes.Hi),.int .i64 (p0.Known),.int .i64 (p0.Until)]] (.int .i64 ((zbF p0))):=by
 obtain ⟨r,H⟩:∃ r,zbF p0=r:=⟨_,rfl⟩
 rw [H]
 unfold zbF at H
 refine Ctr.ob Tryz.func30 Tryz.ntmps30 (fun w0 h0 hval=>?_)
 refine W.rg env [1] [1] ?_
 refine W.seq (W.sr env [] [⟨.bool ((za5 p0.Source)),[],0,[]⟩,⟨.bool ((zaH p0.Lamp)),[],0,[]⟩,⟨.bool ((zbT p0.Minutes 1440)),[],0,[]⟩,⟨.bool ((zbc p0.Night p0.Known p0.Until)),[],0,[]⟩] [28] [] rfl rfl rfl (.cons id (.cons id (.cons id (.cons (fun h=>by rw [h];rfl) (.cons id (.cons id (.cons id (.cons (fun h=>by rw [h];rfl) (.cons id (.cons id (.cons id (.cons id (.cons id (.cons id (.cons id (.cons (fun h=>by rw [h];rfl) .nil)))))))))))))))) (.free (zeu p0.Source) (.on (fun hW=>zdq p0.Lamp) (.on (fun hW=>zgS p0.Minutes 1440) (.on (fun hW=>zev p0.Night p0.Known p0.Until) .nil)))) ?_)
 refine W.co H rfl (fun hb1 H=>?_) (fun hb1 H=>?_)
 · refine W.rg env [2] [] ?_
   refine W.ret (At.rthen ?_)
   cases H
   exact At.rz env hval
 · refine W.skip (At.zad (W.rg env [2] [] ?_))
   refine W.ret ?_
   cases H
   exact At.rz env hval
theorem zjq (p0:Burn):Ctr Tryz.prog 31 [.agg [.int .i64 (p0.Source),.int .i64 (p0.Lamp),.int .i64 (p0.Night),.int .i64 (p0.Minutes.Lo),.int .i64 (p0.Minutes.Hi),.int .i64 (p0.Known),.int .i64 (p0.Until)]] (.int .i64 ((zc5 p0))):=by
 obtain ⟨r,H⟩:∃ r,zc5 p0=r:=⟨_,rfl⟩
 rw [H]
 unfold zc5 at H
 refine Ctr.ob Tryz.func31 Tryz.ntmps31 (fun w0 h0 hval=>?_)
 refine W.rg env [1] [1] ?_
 refine W.rg env [2] [] ?_
 refine W.ret ?_
 cases H
 exact At.rz env hval
theorem zgT (p0:(List Look)) (p1:Int) (p2:Look→Option Int) (p2_g:Nat) (p2_a p2_b:List AV) (p2_h:∀ x0 r,p2 x0=some r→Ctr Tryz.prog p2_g (p2_a++([.agg [.int .i64 (x0.Source),.int .i64 (x0.Lamp),.int .i64 (x0.Night),.bool (x0.Bad),.int .i64 (x0.Known),.int .i64 (x0.Until)]]++p2_b)) (.int .i64 (r))) (p3:Look→Option Int) (p3_g:Nat) (p3_a p3_b:List AV) (p3_h:∀ x0 r,p3 x0=some r→Ctr Tryz.prog p3_g (p3_a++([.agg [.int .i64 (x0.Source),.int .i64 (x0.Lamp),.int .i64 (x0.Night),.bool (x0.Bad),.int .i64 (x0.Known),.int .i64 (x0.Until)]]++p3_b)) (.int .i64 (r))) {r:Bool} (H:zdV p0 p1 p2 p3=some r):Ctr Tryz.prog 34 [roL 6 zaD p0,.int .i64 (p1),.clo (.func p2_g) p2_a p2_b,.clo (.func p3_g) p3_a p3_b] (.bool (r)):=by
 unfold zdV at H
 refine Ctr.ob Tryz.func34 Tryz.ntmps34 (fun w0 h0 hval=>?_)
 refine W.rg env [0,1,2,3] [] ?_
 refine W.seq (W.rg env [0,1,2,3,11,12,13] [] ?_)
 refine W.block (At.kp [0,1,2,3,11,12,13] [] ?_)
 refine W.len (t:=11) rfl (fun hn1=>?_)
 refine W.zak H (fun i1 (s1:Unit)=>[(0,roL 6 zaD p0),(1,.int .i64 (p1)),(2,.clo (.func p2_g) p2_a p2_b),(3,.clo (.func p3_g) p3_a p3_b),(11,roL 6 zaD p0),(12,.int .i64 (((p0.length:Nat):Int))),(13,.int .i64 ((i1:Int)))]) (fun i1 (s1:Unit)=>[]) (.cons .q (.cons .qi (.cons .q (.cons .q (.cons .q (.cons .qi (.cons .qi .nil))))))) .nil (fun k1 i1 s1 hle1 H1 H2 K0 hK1=>?_)
 refine W.rg env [0,1,2,3,11,12,13,14] [] ?_
 refine W.seq (W.cond rfl (fun hb2=>?_) (fun hb2=>?_))
 · have hi1:i1<p0.length:=ltD hb2
   have H:=H1 hi1
   refine W.skip (At.zad (W.seq (W.block (W.sr env [] [] [0,1,2,3,9,10,11,12,13] [10] rfl rfl rfl (.cons (inD hi1) .nil) .nil ?_))))
   refine W.seq ?_
   obtain ⟨y3,hy4,H⟩:=zac H
   obtain ⟨hc5,H⟩:=zab H
   obtain ⟨hc6,H⟩:=zab H
   obtain ⟨y7,hy8,H⟩:=zac H
   obtain ⟨y9,hy10,H⟩:=zac H
   refine W.region env [] [⟨.int .i64 (y3),[],0,[]⟩,⟨.int .i64 (y7),[],0,[]⟩,⟨.int .i64 (y9),[],0,[]⟩] rfl rfl (by kernel_rfl) (.cons id (.cons id (.cons hc5 (.cons id (.cons hc6 (.cons id (.cons id (.cons id (.cons id (.cons id (.cons id (.cons id (.cons id (.cons id (.cons id (.cons (fun hW h=>by revert hW h;first|(simp +contextual;done)|grind) (.cons (fun h=>by rw [h];rfl) .nil))))))))))))))))) (.free (p2_h (p0.getD i1 default) _ hy4) (.on (fun hW=>p3_h (p0.getD (((i1:Int) - 1)).toNat default) _ (zbf hy8 hW)) (.on (fun hW=>p3_h (p0.getD i1 default) _ (zbf hy10 hW)) .nil))) (At.kp [0,1,2,3,11,12,13,38] [] ?_)
   refine At.zad (W.co H rfl (fun hb11 H=>?_) (fun hb11 H=>?_))
   · refine W.rg env [8] [] ?_
     refine W.ret (At.rinb ?_)
     refine At.rthen ?_
     refine At.rthen ?_
     refine At.rinb ?_
     refine At.rthen ?_
     cases H
     exact At.rz env hval
   · refine W.skip (At.inb (At.zad (W.region env [] [] rfl rfl rfl (.cons (incD hi1 hn1) .nil) .nil (At.kp [0,1,2,3,11,12,13] [] ?_))))
     refine At.zaG (At.kp [0,1,2,3,11,12,13] [] ?_)
     exact At.conv (.cons .q (.cons .qi (.cons .q (.cons .q (.cons .q (.cons .qi (.cons .qi .nil))))))) .nil (hK1 hi1 () H)
 · have H:=H2 (geD hb2)
   refine W.exit (At.xthen (At.xthen (At.xhere (At.zad (W.rg env [8] [] ?_)))))
   refine W.ret ?_
   cases H
   exact At.rz env hval
theorem zfo (p0:Look):Ctr Tryz.prog 35 [.agg [.int .i64 (p0.Source),.int .i64 (p0.Lamp),.int .i64 (p0.Night),.bool (p0.Bad),.int .i64 (p0.Known),.int .i64 (p0.Until)]] (.int .i64 ((zaY p0))):=by
 obtain ⟨r,H⟩:∃ r,zaY p0=r:=⟨_,rfl⟩
 rw [H]
 unfold zaY at H
 refine Ctr.ob Tryz.func35 Tryz.ntmps35 (fun w0 h0 hval=>?_)
 refine W.rg env [1] [1] ?_
 refine W.seq (W.sr env [] [⟨.bool ((za5 p0.Source)),[],0,[]⟩,⟨.bool ((zaH p0.Lamp)),[],0,[]⟩,⟨.bool ((zbc p0.Night p0.Known p0.Until)),[],0,[]⟩] [22] [] rfl rfl rfl (.cons id (.cons id (.cons id (.cons (fun h=>by rw [h];rfl) (.cons id (.cons id (.cons id (.cons id (.cons id (.cons id (.cons id (.cons (fun h=>by rw [h];rfl) .nil)))))))))))) (.free (zeu p0.Source) (.on (fun hW=>zdq p0.Lamp) (.on (fun hW=>zev p0.Night p0.Known p0.Until) .nil))) ?_)
 refine W.co H rfl (fun hb1 H=>?_) (fun hb1 H=>?_)
 · refine W.rg env [2] [] ?_
   refine W.ret (At.rthen ?_)
   cases H
   exact At.rz env hval
 · refine W.skip (At.zad (W.rg env [2] [] ?_))
   refine W.ret ?_
   cases H
   exact At.rz env hval
theorem zkD (p0:Look):Ctr Tryz.prog 36 [.agg [.int .i64 (p0.Source),.int .i64 (p0.Lamp),.int .i64 (p0.Night),.bool (p0.Bad),.int .i64 (p0.Known),.int .i64 (p0.Until)]] (.int .i64 ((zdw p0))):=by
 obtain ⟨r,H⟩:∃ r,zdw p0=r:=⟨_,rfl⟩
 rw [H]
 unfold zdw at H
 refine Ctr.ob Tryz.func36 Tryz.ntmps36 (fun w0 h0 hval=>?_)
 refine W.rg env [1] [1] ?_
 refine W.rg env [2] [] ?_
 refine W.ret ?_
 cases H
 exact At.rz env hval
theorem zfx (p0:(List Mantle)) (p1:Mantle→Option Bool) (p1_g:Nat) (p1_a p1_b:List AV) (p1_h:∀ x0 r,p1 x0=some r→Ctr Tryz.prog p1_g (p1_a++([.agg [.int .i64 (x0.Source),.int .i64 (x0.Lamp),.int .i64 (x0.Batch),.int .i64 (x0.Night),.int .i64 (x0.Known),.int .i64 (x0.Until)]]++p1_b)) (.bool (r))) {r:Int} (H:zb8 p0 p1=some r):Ctr Tryz.prog 74 [roL 6 zau p0,.clo (.func p1_g) p1_a p1_b] (.int .i64 (r)):=by
 unfold zb8 at H
 refine Ctr.ob Tryz.func74 Tryz.ntmps74 (fun w0 h0 hval=>?_)
 refine W.rg env [0,1] [] ?_
 refine W.seq (W.rg env [0,1,7,8] [] ?_)
 refine W.block (At.kp [0,1,7,8] [] ?_)
 refine W.len (t:=0) rfl (fun hn1=>?_)
 refine W.zak H (fun i1 (s1:Unit)=>[(0,roL 6 zau p0),(1,.clo (.func p1_g) p1_a p1_b),(7,.int .i64 (((p0.length:Nat):Int))),(8,.int .i64 ((i1:Int)))]) (fun i1 (s1:Unit)=>[]) (.cons .q (.cons .q (.cons .qi (.cons .qi .nil)))) .nil (fun k1 i1 s1 hle1 H1 H2 K0 hK1=>?_)
 refine W.rg env [0,1,7,8,9] [] ?_
 refine W.seq (W.cond rfl (fun hb2=>?_) (fun hb2=>?_))
 · have hi1:i1<p0.length:=ltD hb2
   have H:=H1 hi1
   refine W.skip (At.zad (W.seq (W.block (W.rg env [0,1,5,7,8] [] ?_))))
   refine W.seq ?_
   obtain ⟨y3,hy4,H⟩:=zac H
   refine W.region env [] [⟨.bool (y3),[],0,[]⟩] rfl rfl rfl (.cons (inD hi1) .nil) (.free (p1_h (p0.getD i1 default) _ hy4) .nil) (At.kp [0,1,5,7,8,16] [] ?_)
   refine At.zad (W.co H rfl (fun hb5 H=>?_) (fun hb5 H=>?_))
   · refine W.rg env [4] [] ?_
     refine W.ret (At.rinb ?_)
     refine At.rthen ?_
     refine At.rthen ?_
     refine At.rinb ?_
     refine At.rthen ?_
     cases H
     exact At.rz env hval
   · refine W.skip (At.inb (At.zad (W.region env [] [] rfl rfl rfl (.cons (incD hi1 hn1) .nil) .nil (At.kp [0,1,7,8] [] ?_))))
     refine At.zaG (At.kp [0,1,7,8] [] ?_)
     exact At.conv (.cons .q (.cons .q (.cons .qi (.cons .qi .nil)))) .nil (hK1 hi1 () H)
 · have H:=H2 (geD hb2)
   refine W.exit (At.xthen (At.xthen (At.xhere (At.zad (W.rg env [4] [] ?_)))))
   refine W.ret ?_
   cases H
   exact At.rz env hval
theorem ze1 (p0:(List Mantle)) (p1:Mantle→Option Bool) (p1_g:Nat) (p1_a p1_b:List AV) (p1_h:∀ x0 r,p1 x0=some r→Ctr Tryz.prog p1_g (p1_a++([.agg [.int .i64 (x0.Source),.int .i64 (x0.Lamp),.int .i64 (x0.Batch),.int .i64 (x0.Night),.int .i64 (x0.Known),.int .i64 (x0.Until)]]++p1_b)) (.bool (r))) {r:Bool} (H:zbJ p0 p1=some r):Ctr Tryz.prog 37 [roL 6 zau p0,.clo (.func p1_g) p1_a p1_b] (.bool (r)):=by
 unfold zbJ at H
 refine Ctr.ob Tryz.func37 Tryz.ntmps37 (fun w0 h0 hval=>?_)
 refine W.rg env [0,1] [] ?_
 refine W.seq ?_
 obtain ⟨y1,hy2,H⟩:=zac H
 refine W.region env [] [⟨.int .i64 (y1),[],0,[]⟩] rfl rfl rfl .nil (.free (zfx p0 p1 p1_g p1_a p1_b p1_h hy2) .nil) (At.kp [4] [] ?_)
 refine At.zad (W.ret ?_)
 cases H
 exact At.rz env hval
theorem zfM (p0:(List Batch)) (p1:Batch→Option Bool) (p1_g:Nat) (p1_a p1_b:List AV) (p1_h:∀ x0 r,p1 x0=some r→Ctr Tryz.prog p1_g (p1_a++([.agg [.int .i64 (x0.Id),.int .i64 (x0.Life.Lo),.int .i64 (x0.Life.Hi)]]++p1_b)) (.bool (r))) {r:Int} (H:zck p0 p1=some r):Ctr Tryz.prog 72 [roL 3 zaA p0,.clo (.func p1_g) p1_a p1_b] (.int .i64 (r)):=by
 unfold zck at H
 refine Ctr.ob Tryz.func72 Tryz.ntmps72 (fun w0 h0 hval=>?_)
 refine W.rg env [0,1] [] ?_
 refine W.seq (W.rg env [0,1,7,8] [] ?_)
 refine W.block (At.kp [0,1,7,8] [] ?_)
 refine W.len (t:=0) rfl (fun hn1=>?_)
 refine W.zak H (fun i1 (s1:Unit)=>[(0,roL 3 zaA p0),(1,.clo (.func p1_g) p1_a p1_b),(7,.int .i64 (((p0.length:Nat):Int))),(8,.int .i64 ((i1:Int)))]) (fun i1 (s1:Unit)=>[]) (.cons .q (.cons .q (.cons .qi (.cons .qi .nil)))) .nil (fun k1 i1 s1 hle1 H1 H2 K0 hK1=>?_)
 refine W.rg env [0,1,7,8,9] [] ?_
 refine W.seq (W.cond rfl (fun hb2=>?_) (fun hb2=>?_))
 · have hi1:i1<p0.length:=ltD hb2
   have H:=H1 hi1
   refine W.skip (At.zad (W.seq (W.block (W.rg env [0,1,5,7,8] [] ?_))))
   refine W.seq ?_
   obtain ⟨y3,hy4,H⟩:=zac H
   refine W.region env [] [⟨.bool (y3),[],0,[]⟩] rfl rfl rfl (.cons (inD hi1) .nil) (.free (p1_h (p0.getD i1 default) _ hy4) .nil) (At.kp [0,1,5,7,8,16] [] ?_)
   refine At.zad (W.co H rfl (fun hb5 H=>?_) (fun hb5 H=>?_))
   · refine W.rg env [4] [] ?_
     refine W.ret (At.rinb ?_)
     refine At.rthen ?_
     refine At.rthen ?_
     refine At.rinb ?_
     refine At.rthen ?_
     cases H
     exact At.rz env hval
   · refine W.skip (At.inb (At.zad (W.region env [] [] rfl rfl rfl (.cons (incD hi1 hn1) .nil) .nil (At.kp [0,1,7,8] [] ?_))))
     refine At.zaG (At.kp [0,1,7,8] [] ?_)
     exact At.conv (.cons .q (.cons .q (.cons .qi (.cons .qi .nil)))) .nil (hK1 hi1 () H)
 · have H:=H2 (geD hb2)
   refine W.exit (At.xthen (At.xthen (At.xhere (At.zad (W.rg env [4] [] ?_)))))
   refine W.ret ?_
   cases H
   exact At.rz env hval
theorem zin (p0:Batch) (c0:Int):Ctr Tryz.prog 73 [.agg [.int .i64 (p0.Id),.int .i64 (p0.Life.Lo),.int .i64 (p0.Life.Hi)],.rp [.int .i64 (c0)]] (.bool ((zcq p0 c0))):=by
 obtain ⟨r,H⟩:∃ r,zcq p0 c0=r:=⟨_,rfl⟩
 rw [H]
 unfold zcq at H
 refine Ctr.ob Tryz.func73 Tryz.ntmps73 (fun w0 h0 hval=>?_)
 refine W.rg env [1,2] [2] ?_
 refine W.rg env [3] [] ?_
 refine W.ret ?_
 cases H
 exact At.rz env hval
theorem zdR (p0:Wear) (p1:Int) {r:Int} (H:zca p0 p1=some r):Ctr Tryz.prog 33 [.agg (zav p0),.int .i64 (p1)] (.int .i64 (r)):=by
 unfold zca at H
 refine Ctr.ob Tryz.func33 Tryz.ntmps33 (fun w0 h0 hval=>?_)
 refine W.rg env [2,3] [2,3] ?_
 refine W.seq ?_
 obtain ⟨y1,hy2,H⟩:=zac H
 refine W.region env [] [⟨.int .i64 (y1),[],0,[]⟩] rfl rfl rfl .nil (.free (zfM p0.Batches (fun x0=>some (zcq x0 p1)) 73 [] ([.rp [.int .i64 (p1)]]) (fun x0 r h=>by cases h;exact zin x0 p1) hy2) .nil) (At.kp [4] [] ?_)
 refine At.zad (W.ret ?_)
 cases H
 exact At.rz env hval
theorem zjp (p0:Mantle) (c0:Wear) {r:Bool} (H:zc4 p0 c0=some r):Ctr Tryz.prog 32 [.agg [.int .i64 (p0.Source),.int .i64 (p0.Lamp),.int .i64 (p0.Batch),.int .i64 (p0.Night),.int .i64 (p0.Known),.int .i64 (p0.Until)],.rp (zav c0)] (.bool (r)):=by
 unfold zc4 at H
 refine Ctr.ob Tryz.func32 Tryz.ntmps32 (fun w0 h0 hval=>?_)
 refine W.rg env [1,2] [2] ?_
 refine W.seq ?_
 obtain ⟨y1,hy2,H⟩:=zac H
 refine W.region env [] [⟨.int .i64 (y1),[],0,[]⟩] rfl rfl rfl .nil (.free (zdR c0 p0.Batch hy2) .nil) (At.kp [3] [] ?_)
 refine At.zad (W.ret ?_)
 cases H
 exact At.rz env hval
theorem zdN (p0:Wear) {r:Int} (H:zbX p0=some r):Ctr Tryz.prog 6 [.agg (zav p0)] (.int .i64 (r)):=by
 unfold zbX at H
 refine Ctr.ob Tryz.func6 Tryz.ntmps6 (fun w0 h0 hval=>?_)
 refine W.rg env [1] [1] ?_
 refine W.seq ?_
 obtain ⟨y1,hy2,H⟩:=zac H
 refine W.region env [] [⟨.bool (y1),[],0,[]⟩] rfl rfl rfl .nil (.free (zgo p0.Batches 8 (fun x0=>some (zaZ x0)) 24 [] [] (fun x0 r h=>by cases h;exact zhS x0) (fun x0=>some (zc7 x0)) 25 [] [] (fun x0 r h=>by cases h;exact zjs x0) hy2) .nil) (At.kp [1,3] [1] ?_)
 refine At.zad (W.seq ?_)
 obtain ⟨y3,hy4,H⟩:=zac H
 refine W.region env [] [⟨.bool (y3),[],0,[]⟩] rfl rfl rfl .nil (.free (zgh p0.Mantles 60 (fun x0=>some (zbi x0)) 27 [] [] (fun x0 r h=>by cases h;exact zhp x0) (fun x0=>some (zc6 x0)) 28 [] [] (fun x0 r h=>by cases h;exact zjr x0) hy4) .nil) (At.kp [1,3,4] [1] ?_)
 refine At.zad (W.seq ?_)
 obtain ⟨y5,hy6,H⟩:=zac H
 refine W.region env [] [⟨.bool (y5),[],0,[]⟩] rfl rfl rfl .nil (.free (zgU p0.Burns 60 (fun x0=>some (zbF x0)) 30 [] [] (fun x0 r h=>by cases h;exact ziq x0) (fun x0=>some (zc5 x0)) 31 [] [] (fun x0 r h=>by cases h;exact zjq x0) hy6) .nil) (At.kp [1,3,4,5] [1] ?_)
 refine At.zad (W.rg env [1,3,4,5,6] [1] ?_)
 refine W.seq (W.seq ?_)
 obtain ⟨y7,hy8,H⟩:=zac H
 obtain ⟨y9,hy10,H⟩:=zac H
 refine W.region env [] [⟨.bool (y7),[],0,[]⟩,⟨.bool (y9),[],0,[]⟩] rfl rfl rfl (.cons id (.cons (fun h=>by rw [h];rfl) (.cons id (.cons (fun h=>by rw [h];rfl) (.cons id (.cons id (.cons id (.cons (fun h=>by rw [h];rfl) (.cons id (.cons id (.cons id (.cons (fun h=>by rw [h];rfl) .nil)))))))))))) (.on (fun hW=>zgT p0.Looks 60 (fun x0=>some (zaY x0)) 35 [] [] (fun x0 r h=>by cases h;exact zfo x0) (fun x0=>some (zdw x0)) 36 [] [] (fun x0 r h=>by cases h;exact zkD x0) (zbf hy8 hW)) (.on (fun hW=>ze1 p0.Mantles (fun x0=>zc4 x0 p0) 32 [] ([.rp (zav p0)]) (fun x0 r h=>zjp x0 p0 h) (zbf hy10 hW)) .nil)) (At.kp [38] [] ?_)
 refine At.zad (W.co H rfl (fun hb11 H=>?_) (fun hb11 H=>?_))
 · refine W.rg env [2] [] ?_
   refine W.ret (At.rthen ?_)
   cases H
   exact At.rz env hval
 · refine W.skip (At.zad (W.rg env [2] [] ?_))
   refine W.ret ?_
   cases H
   exact At.rz env hval
theorem zgm (p0:(List Int)) (p1:Int→Option Bool) (p1_g:Nat) (p1_a p1_b:List AV) (p1_h:∀ x0 r,p1 x0=some r→Ctr Tryz.prog p1_g (p1_a++([.int .i64 (x0)]++p1_b)) (.bool (r))) {r:Int} (H:zdC p0 p1=some r):Ctr Tryz.prog 113 [roL 1 zaa p0,.clo (.func p1_g) p1_a p1_b] (.int .i64 (r)):=by
 unfold zdC at H
 refine Ctr.ob Tryz.func113 Tryz.ntmps113 (fun w0 h0 hval=>?_)
 refine W.rg env [0,1] [] ?_
 refine W.seq (W.rg env [0,1,7,8] [] ?_)
 refine W.block (At.kp [0,1,7,8] [] ?_)
 refine W.len (t:=0) rfl (fun hn1=>?_)
 refine W.zak H (fun i1 (s1:Unit)=>[(0,roL 1 zaa p0),(1,.clo (.func p1_g) p1_a p1_b),(7,.int .i64 (((p0.length:Nat):Int))),(8,.int .i64 ((i1:Int)))]) (fun i1 (s1:Unit)=>[]) (.cons .q (.cons .q (.cons .qi (.cons .qi .nil)))) .nil (fun k1 i1 s1 hle1 H1 H2 K0 hK1=>?_)
 refine W.rg env [0,1,7,8,9] [] ?_
 refine W.seq (W.cond rfl (fun hb2=>?_) (fun hb2=>?_))
 · have hi1:i1<p0.length:=ltD hb2
   have H:=H1 hi1
   refine W.skip (At.zad (W.seq (W.block (W.rg env [0,1,5,7,8] [] ?_))))
   refine W.seq ?_
   obtain ⟨y3,hy4,H⟩:=zac H
   refine W.region env [] [⟨.bool (y3),[],0,[]⟩] rfl rfl rfl (.cons (inD hi1) .nil) (.free (p1_h (p0.getD i1 default) _ hy4) .nil) (At.kp [0,1,5,7,8,16] [] ?_)
   refine At.zad (W.co H rfl (fun hb5 H=>?_) (fun hb5 H=>?_))
   · refine W.rg env [4] [] ?_
     refine W.ret (At.rinb ?_)
     refine At.rthen ?_
     refine At.rthen ?_
     refine At.rinb ?_
     refine At.rthen ?_
     cases H
     exact At.rz env hval
   · refine W.skip (At.inb (At.zad (W.region env [] [] rfl rfl rfl (.cons (incD hi1 hn1) .nil) .nil (At.kp [0,1,7,8] [] ?_))))
     refine At.zaG (At.kp [0,1,7,8] [] ?_)
     exact At.conv (.cons .q (.cons .q (.cons .qi (.cons .qi .nil)))) .nil (hK1 hi1 () H)
 · have H:=H2 (geD hb2)
   refine W.exit (At.xthen (At.xthen (At.xhere (At.zad (W.rg env [4] [] ?_)))))
   refine W.ret ?_
   cases H
   exact At.rz env hval
theorem zfy (p0:(List Int)) (p1:Int→Option Bool) (p1_g:Nat) (p1_a p1_b:List AV) (p1_h:∀ x0 r,p1 x0=some r→Ctr Tryz.prog p1_g (p1_a++([.int .i64 (x0)]++p1_b)) (.bool (r))) {r:Bool} (H:zbw p0 p1=some r):Ctr Tryz.prog 75 [roL 1 zaa p0,.clo (.func p1_g) p1_a p1_b] (.bool (r)):=by
 unfold zbw at H
 refine Ctr.ob Tryz.func75 Tryz.ntmps75 (fun w0 h0 hval=>?_)
 refine W.rg env [0,1] [] ?_
 refine W.seq ?_
 obtain ⟨y1,hy2,H⟩:=zac H
 refine W.region env [] [⟨.int .i64 (y1),[],0,[]⟩] rfl rfl rfl .nil (.free (zgm p0 p1 p1_g p1_a p1_b p1_h hy2) .nil) (At.kp [4] [] ?_)
 refine At.zad (W.ret ?_)
 cases H
 exact At.rz env hval
theorem zi2 (p0:Int):Ctr Tryz.prog 76 [.int .i64 (p0)] (.bool ((zby p0))):=by
 obtain ⟨r,H⟩:∃ r,zby p0=r:=⟨_,rfl⟩
 rw [H]
 unfold zby at H
 refine Ctr.ob Tryz.func76 Tryz.ntmps76 (fun w0 h0 hval=>?_)
 refine W.rg env [0] [] ?_
 refine W.sr env [] [⟨.bool ((zaK p0)),[],0,[]⟩] [2] [] rfl rfl rfl .nil (.free (zcs p0) .nil) ?_
 refine W.ret ?_
 cases H
 exact At.rz env hval
theorem zec (p0:Wear) (p1:(List Int)) {r:Int} (H:zbl p0 p1=some r):Ctr Tryz.prog 38 [.agg (zav p0),roL 1 zaa p1] (.int .i64 (r)):=by
 unfold zbl at H
 refine Ctr.ob Tryz.func38 Tryz.ntmps38 (fun w0 h0 hval=>?_)
 refine W.rg env [1,2] [2] ?_
 refine W.seq (W.seq ?_)
 obtain ⟨y1,hy2,H⟩:=zac H
 refine W.region env [] [⟨.int .i64 (y1),[],0,[]⟩] rfl rfl rfl .nil (.free (zdN p0 hy2) .nil) (At.kp [1,5] [] ?_)
 refine At.zad (W.rg env [1,5,9] [] ?_)
 refine W.co H rfl (fun hb3 H=>?_) (fun hb3 H=>?_)
 · refine W.rg env [4] [] ?_
   refine W.ret (At.rthen ?_)
   cases H
   exact At.rz env hval
 · refine W.skip (At.zad (W.seq (W.seq ?_)))
   obtain ⟨y4,hy5,H⟩:=zac H
   refine W.region env [] [⟨.bool (y4),[],0,[]⟩] rfl rfl rfl .nil (.free (zfy p1 (fun x0=>some (zby x0)) 76 [] [] (fun x0 r h=>by cases h;exact zi2 x0) hy5) .nil) (At.kp [12] [] ?_)
   refine At.zad (W.co H rfl (fun hb6 H=>?_) (fun hb6 H=>?_))
   · refine W.rg env [4] [] ?_
     refine W.ret (At.rthen ?_)
     cases H
     exact At.rz env hval
   · refine W.skip (At.zad (W.rg env [4] [] ?_))
     refine W.ret ?_
     cases H
     exact At.rz env hval
theorem zef (p0:Int) (p1:Int) (p2:Int):Ctr Tryz.prog 80 [.int .i64 (p0),.int .i64 (p1),.int .i64 (p2)] (.bool ((zaq p0 p1 p2))):=by
 obtain ⟨r,H⟩:∃ r,zaq p0 p1 p2=r:=⟨_,rfl⟩
 rw [H]
 unfold zaq at H
 refine Ctr.ob Tryz.func80 Tryz.ntmps80 (fun w0 h0 hval=>?_)
 refine W.rg env [0,1,2] [] ?_
 refine W.sr env [] [] [6] [] rfl rfl rfl (.cons id (.cons id (.cons id (.cons id (.cons id (.cons (fun hW h=>by revert hW h;first|(simp +contextual;done)|grind) (.cons id .nil))))))) .nil ?_
 refine W.ret ?_
 cases H
 exact At.rz env hval
theorem zee (p0:Wear) (p1:Int) (p2:Int) (p3:Int) {r:Int} (H:zcw p0 p1 p2 p3=some r):Ctr Tryz.prog 79 [.agg (zav p0),.int .i64 (p1),.int .i64 (p2),.int .i64 (p3)] (.int .i64 (r)):=by
 unfold zcw at H
 refine Ctr.ob Tryz.func79 Tryz.ntmps79 (fun w0 h0 hval=>?_)
 refine W.rg env [1,2,3,4] [4] ?_
 refine W.rg env [1,2,3,4,9] [4] ?_
 refine W.seq (W.rg env [1,2,3,4,9,13,14,15] [4] ?_)
 refine W.block (At.kp [1,2,3,4,9,13,14,15] [4] ?_)
 refine W.len (t:=13) rfl (fun hn1=>?_)
 refine W.zak H (fun i1 (s1:Int)=>[(1,.int .i64 (p1)),(2,.int .i64 (p2)),(3,.int .i64 (p3)),(4,.lp 4 0),(9,.int .i64 (s1)),(13,roL 6 zau p0.Mantles),(14,.int .i64 (((p0.Mantles.length:Nat):Int))),(15,.int .i64 ((i1:Int)))]) (fun i1 (s1:Int)=>[(4,.cells (zav p0))]) (.cons .qi (.cons .qi (.cons .qi (.cons .q (.cons .qi (.cons .q (.cons .qi (.cons .qi .nil)))))))) (.cons .q .nil) (fun k1 i1 s1 hle1 H1 H2 K0 hK1=>?_)
 refine W.rg env [1,2,3,4,9,13,14,15,16] [4] ?_
 refine W.seq (W.cond rfl (fun hb2=>?_) (fun hb2=>?_))
 · have hi1:i1<p0.Mantles.length:=ltD hb2
   have H:=H1 hi1
   refine W.skip (At.zad (W.seq (W.block (W.sr env [] [] [1,2,3,4,9,10,11,13,14,15] [4,11] rfl rfl rfl (.cons (inD hi1) .nil) .nil ?_))))
   obtain ⟨hc3,H⟩:=zab H
   refine W.sr env [] [⟨.bool ((zaq ((p0.Mantles.getD i1 default).Known) ((p0.Mantles.getD i1 default).Until) p3)),[],0,[]⟩] [1,2,3,4,9,10,13,14,15,52] [4] rfl rfl (by kernel_rfl) (.cons id (.cons id (.cons id (.cons id (.cons id (.cons id (.cons id (.cons id (.cons id (.cons id (.cons id (.cons id (.cons id (.cons id (.cons hc3 (.cons id (.cons id (.cons id (.cons id (.cons id (.cons id (.cons id (.cons (fun hW h=>by revert hW h;first|(simp +contextual;done)|grind) (.cons id .nil)))))))))))))))))))))))) (.on (fun hW=>zef ((p0.Mantles.getD i1 default).Known) ((p0.Mantles.getD i1 default).Until) p3) .nil) ?_
   refine W.co H rfl (fun hb4 H=>?_) (fun hb4 H=>?_)
   · refine W.region env [] [] rfl rfl rfl .nil .nil (At.kp [1,2,3,4,9,13,14,15] [4] ?_)
     refine At.inb (At.zad (W.region env [] [] rfl rfl rfl (.cons (incD hi1 hn1) .nil) .nil (At.kp [1,2,3,4,9,13,14,15] [4] ?_)))
     refine At.zaG (At.kp [1,2,3,4,9,13,14,15] [4] ?_)
     exact At.conv (.cons .qi (.cons .qi (.cons .qi (.cons .q (.cons .qi (.cons .q (.cons .qi (.cons .qi .nil)))))))) (.cons .q .nil) (hK1 hi1 (i1:Int) H)
   · refine W.skip (At.inb (At.zad (W.region env [] [] rfl rfl rfl (.cons (incD hi1 hn1) .nil) .nil (At.kp [1,2,3,4,9,13,14,15] [4] ?_))))
     refine At.zaG (At.kp [1,2,3,4,9,13,14,15] [4] ?_)
     exact At.conv (.cons .qi (.cons .qi (.cons .qi (.cons .q (.cons .qi (.cons .q (.cons .qi (.cons .qi .nil)))))))) (.cons .q .nil) (hK1 hi1 s1 H)
 · have H:=H2 (geD hb2)
   refine W.exit (At.xthen (At.xthen (At.xhere (At.zad (W.rg env [8] [] ?_)))))
   refine W.ret ?_
   cases H
   exact At.rz env hval
theorem zgR (p0:Wear) (p1:Int) (p2:Int) (p3:Int) {r:(Int×Int)} (H:zdx p0 p1 p2 p3=some r):Ctr Tryz.prog 55 [.agg (zav p0),.int .i64 (p1),.int .i64 (p2),.int .i64 (p3)] (.tup [.int .i64 (r.1),.int .i64 (r.2)]):=by
 unfold zdx at H
 refine Ctr.ob Tryz.func55 Tryz.ntmps55 (fun w0 h0 hval=>?_)
 refine W.rg env [1,2,3,4] [4] ?_
 refine W.seq (W.seq ?_)
 obtain ⟨y1,hy2,H⟩:=zac H
 refine W.region env [] [⟨.int .i64 (y1),[],0,[]⟩] rfl rfl rfl .nil (.free (zdN p0 hy2) .nil) (At.kp [1,2,3,4,10] [4] ?_)
 refine At.zad (W.rg env [1,2,3,4,10,16] [4] ?_)
 refine W.co H rfl (fun hb3 H=>?_) (fun hb3 H=>?_)
 · refine W.rg env [8,9] [] ?_
   refine W.ret (At.rthen ?_)
   cases H
   exact At.rz env hval
 · refine W.skip (At.zad (W.seq (W.sr env [] [⟨.bool ((zaH p1)),[],0,[]⟩] [1,2,3,4,20] [4] rfl rfl rfl .nil (.free (zdq p1) .nil) ?_)))
   refine W.co H rfl (fun hb4 H=>?_) (fun hb4 H=>?_)
   · refine W.rg env [8,9] [] ?_
     refine W.ret (At.rthen ?_)
     cases H
     exact At.rz env hval
   · refine W.skip (At.zad (W.seq (W.seq ?_)))
     obtain ⟨y5,hy6,H⟩:=zac H
     refine W.region env [] [⟨.int .i64 (y5),[],0,[]⟩] rfl rfl rfl .nil (.free (Ctr.sim (.cons (.refl _) (.cons (Sim.lit (f:=zaa) ([p2,p3]:List Int) rfl rfl (fun _=>rfl)) .nil)) (zec p0 ([p2,p3]:List Int) hy6)) .nil) (At.kp [1,2,3,4,11] [4] ?_)
     refine At.zad (W.rg env [1,2,3,4,11,27] [4] ?_)
     refine W.co H rfl (fun hb7 H=>?_) (fun hb7 H=>?_)
     · refine W.rg env [8,9] [] ?_
       refine W.ret (At.rthen ?_)
       cases H
       exact At.rz env hval
     · refine W.skip (At.zad (W.seq ?_))
       obtain ⟨y8,hy9,H⟩:=zac H
       refine W.region env [] [⟨.int .i64 (y8),[],0,[]⟩] rfl rfl rfl .nil (.free (zee p0 p1 p2 p3 hy9) .nil) (At.kp [12] [] ?_)
       refine At.zad (W.seq (W.rg env [12,35] [] ?_))
       refine W.co H rfl (fun hb10 H=>?_) (fun hb10 H=>?_)
       · refine W.rg env [8,9] [] ?_
         refine W.ret (At.rthen ?_)
         cases H
         exact At.rz env hval
       · refine W.skip (At.zad (W.rg env [8,9] [] ?_))
         refine W.ret ?_
         cases H
         exact At.rz env hval
theorem zgf (p0:(List Burn)) (p1:Burn→Option Bool) (p1_g:Nat) (p1_a p1_b:List AV) (p1_h:∀ x0 r,p1 x0=some r→Ctr Tryz.prog p1_g (p1_a++([.agg [.int .i64 (x0.Source),.int .i64 (x0.Lamp),.int .i64 (x0.Night),.int .i64 (x0.Minutes.Lo),.int .i64 (x0.Minutes.Hi),.int .i64 (x0.Known),.int .i64 (x0.Until)]]++p1_b)) (.bool (r))) {r:Int} (H:zdl p0 p1=some r):Ctr Tryz.prog 150 [roL 7 zaL p0,.clo (.func p1_g) p1_a p1_b] (.int .i64 (r)):=by
 unfold zdl at H
 refine Ctr.ob Tryz.func150 Tryz.ntmps150 (fun w0 h0 hval=>?_)
 refine W.rg env [0,1] [] ?_
 refine W.seq (W.rg env [0,1,7,8] [] ?_)
 refine W.block (At.kp [0,1,7,8] [] ?_)
 refine W.len (t:=0) rfl (fun hn1=>?_)
 refine W.zak H (fun i1 (s1:Unit)=>[(0,roL 7 zaL p0),(1,.clo (.func p1_g) p1_a p1_b),(7,.int .i64 (((p0.length:Nat):Int))),(8,.int .i64 ((i1:Int)))]) (fun i1 (s1:Unit)=>[]) (.cons .q (.cons .q (.cons .qi (.cons .qi .nil)))) .nil (fun k1 i1 s1 hle1 H1 H2 K0 hK1=>?_)
 refine W.rg env [0,1,7,8,9] [] ?_
 refine W.seq (W.cond rfl (fun hb2=>?_) (fun hb2=>?_))
 · have hi1:i1<p0.length:=ltD hb2
   have H:=H1 hi1
   refine W.skip (At.zad (W.seq (W.block (W.rg env [0,1,5,7,8] [] ?_))))
   refine W.seq ?_
   obtain ⟨y3,hy4,H⟩:=zac H
   refine W.region env [] [⟨.bool (y3),[],0,[]⟩] rfl rfl rfl (.cons (inD hi1) .nil) (.free (p1_h (p0.getD i1 default) _ hy4) .nil) (At.kp [0,1,5,7,8,16] [] ?_)
   refine At.zad (W.co H rfl (fun hb5 H=>?_) (fun hb5 H=>?_))
   · refine W.rg env [4] [] ?_
     refine W.ret (At.rinb ?_)
     refine At.rthen ?_
     refine At.rthen ?_
     refine At.rinb ?_
     refine At.rthen ?_
     cases H
     exact At.rz env hval
   · refine W.skip (At.inb (At.zad (W.region env [] [] rfl rfl rfl (.cons (incD hi1 hn1) .nil) .nil (At.kp [0,1,7,8] [] ?_))))
     refine At.zaG (At.kp [0,1,7,8] [] ?_)
     exact At.conv (.cons .q (.cons .q (.cons .qi (.cons .qi .nil)))) .nil (hK1 hi1 () H)
 · have H:=H2 (geD hb2)
   refine W.exit (At.xthen (At.xthen (At.xhere (At.zad (W.rg env [4] [] ?_)))))
   refine W.ret ?_
   cases H
   exact At.rz env hval
theorem zfh (p0:(List Burn)) (p1:Burn→Option Bool) (p1_g:Nat) (p1_a p1_b:List AV) (p1_h:∀ x0 r,p1 x0=some r→Ctr Tryz.prog p1_g (p1_a++([.agg [.int .i64 (x0.Source),.int .i64 (x0.Lamp),.int .i64 (x0.Night),.int .i64 (x0.Minutes.Lo),.int .i64 (x0.Minutes.Hi),.int .i64 (x0.Known),.int .i64 (x0.Until)]]++p1_b)) (.bool (r))) {r:Bool} (H:zcI p0 p1=some r):Ctr Tryz.prog 115 [roL 7 zaL p0,.clo (.func p1_g) p1_a p1_b] (.bool (r)):=by
 unfold zcI at H
 refine Ctr.ob Tryz.func115 Tryz.ntmps115 (fun w0 h0 hval=>?_)
 refine W.rg env [0,1] [] ?_
 refine W.seq ?_
 obtain ⟨y1,hy2,H⟩:=zac H
 refine W.region env [] [⟨.int .i64 (y1),[],0,[]⟩] rfl rfl rfl .nil (.free (zgf p0 p1 p1_g p1_a p1_b p1_h hy2) .nil) (At.kp [4] [] ?_)
 refine At.zad (W.ret ?_)
 cases H
 exact At.rz env hval
theorem zjo (p0:Burn) (c0:Burn) (c1:Int):Ctr Tryz.prog 114 [.agg [.int .i64 (p0.Source),.int .i64 (p0.Lamp),.int .i64 (p0.Night),.int .i64 (p0.Minutes.Lo),.int .i64 (p0.Minutes.Hi),.int .i64 (p0.Known),.int .i64 (p0.Until)],.rp [.int .i64 (c0.Source),.int .i64 (c0.Lamp),.int .i64 (c0.Night),.int .i64 (c0.Minutes.Lo),.int .i64 (c0.Minutes.Hi),.int .i64 (c0.Known),.int .i64 (c0.Until)],.rp [.int .i64 (c1)]] (.bool ((zbv p0 c0 c1))):=by
 obtain ⟨r,H⟩:∃ r,zbv p0 c0 c1=r:=⟨_,rfl⟩
 rw [H]
 unfold zbv at H
 refine Ctr.ob Tryz.func114 Tryz.ntmps114 (fun w0 h0 hval=>?_)
 refine W.rg env [1,2,3] [3] ?_
 refine W.sr env [] [⟨.bool ((zaq p0.Known p0.Until c1)),[],0,[]⟩] [4] [] rfl rfl rfl (.cons id (.cons id (.cons id (.cons id (.cons id (.cons id (.cons id (.cons id (.cons id (.cons id (.cons id .nil))))))))))) (.on (fun hW=>zef p0.Known p0.Until c1) .nil) ?_
 refine W.ret ?_
 cases H
 exact At.rz env hval
theorem zcb (fuel:Nat) (p0:(List Int)) (p1:Int) (p2:Int) (p3:Int→Int→Option Int) (p3_g:Nat) (p3_a p3_b:List AV) (p3_h:∀ x0 x1 r,p3 x0 x1=some r→Ctr Tryz.prog p3_g (p3_a++([.int .i64 (x0),.int .i64 (x1)]++p3_b)) (.int .i64 (r))) {r:(List Int)} (H:zaN fuel p0 p1 p2 p3=some r):CtrO Tryz.prog 160 [.buf 90000 (p0).length,.int .i64 (p1),.int .i64 (p2),.clo (.func p3_g) p3_a p3_b] [(90000,bufL 3 1 zaa p0)] (.tup []) [(90000,bufL 3 1 zaa r)]:=by
 unfold zaN at H
 refine CtrL.zcU (N:=53) Tryz.func160 (by kernel_rfl) (c:=_) rfl Tryz.ntmps160 rfl rfl (fun w0 h0 ρb hval hdom hent=>?_)
 obtain ⟨hc1,H⟩:=zab H
 refine W.sr env [] [] [0,1,2,3,8] [90000] rfl rfl rfl (.cons hc1 .nil) .nil ?_
 refine W.block (At.kp [0,1,2,3,8] [90000] ?_)
 refine W.loopGo H (fun (s2:Int×(List Int))=>[(0,.buf 90000 (s2.2).length),(1,.int .i64 (p1)),(2,.int .i64 (p2)),(3,.clo (.func p3_g) p3_a p3_b),(8,.int .i64 (s2.1))]) (fun (s2:Int×(List Int))=>[(90000,bufL 3 1 zaa s2.2)]) (.cons .qb (.cons .qi (.cons .qi (.cons .q (.cons .qi .nil))))) (.cons .q .nil) (fun k2 s2 H K0 hK2=>?_)
 refine W.seq (W.rg env [0,1,2,3,8,14] [90000] ?_)
 refine W.co H rfl (fun hb3 H=>?_) (fun hb3 H=>?_)
 · refine W.skip (At.zad (W.seq (W.block (W.rg env [0,1,2,3,8,9] [90000] ?_))))
   refine W.block (At.kp [0,1,2,3,8,9] [90000] ?_)
   refine W.loopGo H (fun (s4:Int×(List Int))=>[(0,.buf 90000 (s4.2).length),(1,.int .i64 (p1)),(2,.int .i64 (p2)),(3,.clo (.func p3_g) p3_a p3_b),(8,.int .i64 (s2.1)),(9,.int .i64 (s4.1))]) (fun (s4:Int×(List Int))=>[(90000,bufL 3 1 zaa s4.2)]) (.cons .qb (.cons .qi (.cons .qi (.cons .q (.cons .qi (.cons .qi .nil)))))) (.cons .q .nil) (fun k4 s4 H K0 hK4=>?_)
   refine W.seq (W.seq ?_)
   obtain ⟨hc5,H⟩:=zab H
   obtain ⟨hc6,H⟩:=zab H
   obtain ⟨hc7,H⟩:=zab H
   obtain ⟨y8,hy9,H⟩:=zac H
   refine W.region env [] [⟨.int .i64 (y8),[],0,[]⟩] rfl rfl (by kernel_rfl) (.cons (fun hW=>⟨by first|rfl|(simp;done)|omega|(simp;omega),hc5 hW⟩) (.cons id (.cons id (.cons (fun hW=>(⟨by first|rfl|(simp;done)|omega|(simp;omega),(by have:=hc5 hW;first|omega|(simp only [List.length_set];omega)|(simp only [Int.toNat_natCast] at *;omega)|(simp at this ⊢;omega))⟩)) (.cons id (.cons hc6 (.cons id (.cons (fun hW=>⟨by first|rfl|(simp;done)|omega|(simp;omega),hc7 hW⟩) (.cons id (.cons id (.cons (fun hW=>(⟨by first|rfl|(simp;done)|omega|(simp;omega),(by have:=hc7 hW;first|omega|(simp only [List.length_set];omega)|(simp only [Int.toNat_natCast] at *;omega)|(simp at this ⊢;omega))⟩)) (.cons id (.cons id (.cons id (.cons id (.cons id (.cons id .nil))))))))))))))))) (.on (fun hW=>p3_h (s4.2.getD (s4.1).toNat default) (s4.2.getD ((s4.1 - 1)).toNat default) _ (zbf hy9 hW)) .nil) (At.kp [0,1,2,3,8,9,34] [90000] ?_)
   refine At.zad (W.co H rfl (fun hb10 H=>?_) (fun hb10 H=>?_))
   · refine W.skip (At.zad (W.seq (W.block ?_)))
     obtain ⟨hc11,H⟩:=zab H
     obtain ⟨hc12,H⟩:=zab H
     obtain ⟨hc13,H⟩:=zab H
     obtain ⟨hc14,H⟩:=zab H
     obtain ⟨hc15,H⟩:=zab H
     obtain ⟨hc16,H⟩:=zab H
     refine W.region env [] [] rfl rfl (by first|rfl|kernel_rfl) (.cons hc11 (.cons hc12 (.cons (⟨by first|rfl|(simp;done)|omega|(simp;omega),hc13⟩) (.cons (⟨by first|rfl|(simp;done)|omega|(simp;omega),(by have:=hc13;first|omega|(simp only [List.length_set];omega)|(simp only [Int.toNat_natCast] at *;omega)|(simp at this ⊢;omega))⟩) (.cons (⟨by first|rfl|(simp;done)|omega|(simp;omega),hc14⟩) (.cons (⟨by first|rfl|(simp;done)|omega|(simp;omega),(by have:=hc14;first|omega|(simp only [List.length_set];omega)|(simp only [Int.toNat_natCast] at *;omega)|(simp at this ⊢;omega))⟩) (.cons (⟨by first|rfl|(simp;done)|omega|(simp;omega),hc15⟩) (.cons (⟨by first|rfl|(simp;done)|omega|(simp;omega),(by have:=hc15;first|omega|(simp only [List.length_set];omega)|(simp only [Int.toNat_natCast] at *;omega)|(simp at this ⊢;omega))⟩) (.cons (⟨by first|rfl|(simp;done)|omega|(simp;omega),(by simpa using hc16)⟩) (.cons (⟨by first|rfl|(simp;done)|omega|(simp;omega),(by have:=hc16;simp at this ⊢;omega)⟩) .nil)))))))))) .nil (At.kp [0,1,2,3,8,9] [90000] ?_)
     refine At.zbY (.cons (y:=bufL 3 1 zaa ((s4.2.set (s4.1).toNat (s4.2.getD ((s4.1 - 1)).toNat default)).set ((s4.1 - 1)).toNat (s4.2.getD (s4.1).toNat default))) (BSim.seg (Seg.set (Seg.set (Seg.refl zaa _) (s4.2.getD ((s4.1 - 1)).toNat default) rfl) (s4.2.getD (s4.1).toNat default) rfl)) .nil) ?_
     refine At.inb (At.zad ?_)
     obtain ⟨hc17,H⟩:=zab H
     refine W.r1 env hc17 [0,1,2,3,8,9] [90000] ?_
     refine At.zaG (At.kp [0,1,2,3,8,9] [90000] ?_)
     exact At.conv (.cons .qb (.cons .qi (.cons .qi (.cons .q (.cons .qi (.cons .qi .nil)))))) (.cons .q .nil) (hK4 ((s4.1 - 1),((s4.2.set (s4.1).toNat (s4.2.getD ((s4.1 - 1)).toNat default)).set ((s4.1 - 1)).toNat (s4.2.getD (s4.1).toNat default))) H)
   · refine W.exit (At.xthen (At.xthen (At.xhere (At.inb (At.zad ?_)))))
     obtain ⟨hc18,H⟩:=zab H
     refine W.r1 env hc18 [0,1,2,3,8] [90000] ?_
     refine At.zaG (At.kp [0,1,2,3,8] [90000] ?_)
     exact At.conv (.cons .qb (.cons .qi (.cons .qi (.cons .q (.cons .qi .nil))))) (.cons .q .nil) (hK2 ((s2.1+1),s4.2) H)
 · refine W.exit (At.xthen (At.xthen (At.xhere (At.zd8 ?_))))
   cases H
   exact At.retL env.ty [90000] rfl rfl rfl rfl (.cons (.refl _) .nil) (.refl _) hval hdom hent rfl rfl
theorem zbH (fuel:Nat) (p0:(List Int)) (p1:Int) (p2:Int) (p3:Int) (p4:Int→Int→Option Int) (p4_g:Nat) (p4_a p4_b:List AV) (p4_h:∀ x0 x1 r,p4 x0 x1=some r→Ctr Tryz.prog p4_g (p4_a++([.int .i64 (x0),.int .i64 (x1)]++p4_b)) (.int .i64 (r))) {r:(List Int)} (H:zaO fuel p0 p1 p2 p3 p4=some r):CtrO Tryz.prog 164 [.buf 90000 (p0).length,.int .i64 (p1),.int .i64 (p2),.int .i64 (p3),.clo (.func p4_g) p4_a p4_b] [(90000,bufL 3 1 zaa p0)] (.tup []) [(90000,bufL 3 1 zaa r)]:=by
 unfold zaO at H
 refine CtrL.zcU (N:=38) Tryz.func164 (by kernel_rfl) (c:=_) rfl Tryz.ntmps164 rfl rfl (fun w0 h0 ρb hval hdom hent=>?_)
 refine W.rg env [0,1,2,3,10] [90000] ?_
 refine W.block (At.kp [0,1,2,3,10] [90000] ?_)
 refine W.loopGo H (fun (s1:Int×(List Int))=>[(0,.buf 90000 (s1.2).length),(1,.int .i64 (p1)),(2,.int .i64 (p2)),(3,.int .i64 (p3)),(10,.int .i64 (s1.1))]) (fun (s1:Int×(List Int))=>[(90000,bufL 3 1 zaa s1.2)]) (.cons .qb (.cons .qi (.cons .qi (.cons .qi (.cons .qi .nil))))) (.cons .q .nil) (fun k1 s1 H K0 hK1=>?_)
 refine W.seq (W.rg env [0,1,2,3,10,13] [90000] ?_)
 refine W.co H rfl (fun hb2 H=>?_) (fun hb2 H=>?_)
 · refine W.skip (At.zad (W.seq (W.block ?_)))
   obtain ⟨hc3,H⟩:=zab H
   obtain ⟨hc4,H⟩:=zab H
   obtain ⟨hc5,H⟩:=zab H
   obtain ⟨hc6,H⟩:=zab H
   obtain ⟨hc7,H⟩:=zab H
   obtain ⟨hc8,H⟩:=zab H
   obtain ⟨hc9,H⟩:=zab H
   obtain ⟨hc10,H⟩:=zab H
   refine W.region env [] [] rfl rfl (by first|rfl|kernel_rfl) (.cons hc3 (.cons hc4 (.cons hc5 (.cons (⟨by first|rfl|(simp;done)|omega|(simp;omega),hc6⟩) (.cons (⟨by first|rfl|(simp;done)|omega|(simp;omega),(by have:=hc6;first|omega|(simp only [List.length_set];omega)|(simp only [Int.toNat_natCast] at *;omega)|(simp at this ⊢;omega))⟩) (.cons hc7 (.cons (⟨by first|rfl|(simp;done)|omega|(simp;omega),hc8⟩) (.cons (⟨by first|rfl|(simp;done)|omega|(simp;omega),(by have:=hc8;first|omega|(simp only [List.length_set];omega)|(simp only [Int.toNat_natCast] at *;omega)|(simp at this ⊢;omega))⟩) (.cons (⟨by first|rfl|(simp;done)|omega|(simp;omega),hc9⟩) (.cons (⟨by first|rfl|(simp;done)|omega|(simp;omega),(by have:=hc9;first|omega|(simp only [List.length_set];omega)|(simp only [Int.toNat_natCast] at *;omega)|(simp at this ⊢;omega))⟩) (.cons (⟨by first|rfl|(simp;done)|omega|(simp;omega),(by simpa using hc10)⟩) (.cons (⟨by first|rfl|(simp;done)|omega|(simp;omega),(by have:=hc10;simp at this ⊢;omega)⟩) .nil)))))))))))) .nil (At.kp [0,1,2,3,10] [90000] ?_)
   refine At.zbY (.cons (y:=bufL 3 1 zaa ((s1.2.set ((p1+s1.1)).toNat (s1.2.getD ((p2+s1.1)).toNat default)).set ((p2+s1.1)).toNat (s1.2.getD ((p1+s1.1)).toNat default))) (BSim.seg (Seg.set (Seg.set (Seg.refl zaa _) (s1.2.getD ((p2+s1.1)).toNat default) rfl) (s1.2.getD ((p1+s1.1)).toNat default) rfl)) .nil) ?_
   refine At.inb (At.zad ?_)
   obtain ⟨hc11,H⟩:=zab H
   refine W.r1 env hc11 [0,1,2,3,10] [90000] ?_
   refine At.zaG (At.kp [0,1,2,3,10] [90000] ?_)
   exact At.conv (.cons .qb (.cons .qi (.cons .qi (.cons .qi (.cons .qi .nil))))) (.cons .q .nil) (hK1 ((s1.1+1),((s1.2.set ((p1+s1.1)).toNat (s1.2.getD ((p2+s1.1)).toNat default)).set ((p2+s1.1)).toNat (s1.2.getD ((p1+s1.1)).toNat default))) H)
 · refine W.exit (At.xthen (At.xthen (At.xhere (At.zd8 ?_))))
   cases H
   exact At.retL env.ty [90000] rfl rfl rfl rfl (.cons (.refl _) .nil) (.refl _) hval hdom hent rfl rfl
theorem zeW (fuel:Nat) (p0:(List Int)) (p1:Int) (p2:Int) (p3:Int) (p4:Int→Int→Option Int) (p4_g:Nat) (p4_a p4_b:List AV) (p4_h:∀ x0 x1 r,p4 x0 x1=some r→Ctr Tryz.prog p4_g (p4_a++([.int .i64 (x0),.int .i64 (x1)]++p4_b)) (.int .i64 (r))) {r:(List Int)} (H:zbe fuel p0 p1 p2 p3 p4=some r):CtrO Tryz.prog 163 [.buf 90000 (p0).length,.int .i64 (p1),.int .i64 (p2),.int .i64 (p3),.clo (.func p4_g) p4_a p4_b] [(90000,bufL 3 1 zaa p0)] (.tup []) [(90000,bufL 3 1 zaa r)]:=by
 unfold zbe at H
 refine CtrL.zcU (N:=58) Tryz.func163 (by kernel_rfl) (c:=_) rfl Tryz.ntmps163 rfl rfl (fun w0 h0 ρb hval hdom hent=>?_)
 obtain ⟨hc1,H⟩:=zab H
 refine W.sr env [] [] [0,2,3,4,10] [90000] rfl rfl rfl (.cons hc1 .nil) .nil ?_
 obtain ⟨hc2,H⟩:=zab H
 refine W.sr env [] [] [0,2,4,10,11] [90000] rfl rfl rfl (.cons hc2 .nil) .nil ?_
 refine W.seq (W.block (At.kp [0,2,4,10,11] [90000] ?_))
 refine W.loopGo H (fun (s3:Int×Int×(List Int))=>[(0,.buf 90000 (s3.2.2).length),(2,.int .i64 (p2)),(4,.clo (.func p4_g) p4_a p4_b),(10,.int .i64 (s3.1)),(11,.int .i64 (s3.2.1))]) (fun (s3:Int×Int×(List Int))=>[(90000,bufL 3 1 zaa s3.2.2)]) (.cons .qb (.cons .qi (.cons .q (.cons .qi (.cons .qi .nil))))) (.cons .q .nil) (fun k3 s3 H K0 hK3=>?_)
 refine W.seq (W.rg env [0,2,4,10,11,20] [90000] ?_)
 refine W.co H rfl (fun hb4 H=>?_) (fun hb4 H=>?_)
 · refine W.skip (At.zad (W.block (W.rg env [0,2,4,10,11,23] [90000] ?_)))
   refine W.co H rfl (fun hb5 H=>?_) (fun hb5 H=>?_)
   · refine W.seq ?_
     obtain ⟨hc6,H⟩:=zab H
     obtain ⟨y7,hy8,H⟩:=zac H
     obtain ⟨hc9,H⟩:=zab H
     refine W.region env [] [⟨.tup [],[(90000,bufL 3 1 zaa y7)],0,[90000]⟩] rfl rfl (by kernel_rfl) (.cons hc6 .nil) (.free (CtrO.sim (CtrO.ren (zbH fuel s3.2.2 (p2 - s3.1) p2 s3.2.1 p4 p4_g p4_a p4_b p4_h hy8) [(90000,90000)]) (.cons .qc (.cons (.refl _) (.cons (.refl _) (.cons (.refl _) (.cons (.refl _) .nil))))) (.cons (.refl _) .nil)) .nil) (At.kp [0,2,4,10,11] [90000] ?_)
     refine At.zad ?_
     obtain ⟨hc10,H⟩:=zab H
     refine W.r1 env hc10 [0,2,4,10,11] [90000] ?_
     refine At.inb (At.zaG (At.kp [0,2,4,10,11] [90000] ?_))
     exact At.conv (.cons .qb (.cons .qi (.cons .q (.cons .qi (.cons .qi .nil))))) (.cons .q .nil) (hK3 ((s3.1 - s3.2.1),s3.2.1,y7) H)
   · refine W.seq ?_
     obtain ⟨hc11,H⟩:=zab H
     obtain ⟨hc12,H⟩:=zab H
     obtain ⟨hc13,H⟩:=zab H
     obtain ⟨y14,hy15,H⟩:=zac H
     obtain ⟨hc16,H⟩:=zab H
     refine W.region env [] [⟨.tup [],[(90000,bufL 3 1 zaa y14)],0,[90000]⟩] rfl rfl (by kernel_rfl) (.cons hc11 (.cons hc12 (.cons hc13 .nil))) (.free (CtrO.sim (CtrO.ren (zbH fuel s3.2.2 (p2 - s3.1) ((p2+s3.2.1) - s3.1) s3.1 p4 p4_g p4_a p4_b p4_h hy15) [(90000,90000)]) (.cons .qc (.cons (.refl _) (.cons (.refl _) (.cons (.refl _) (.cons (.refl _) .nil))))) (.cons (.refl _) .nil)) .nil) (At.kp [0,2,4,10,11] [90000] ?_)
     refine At.zad ?_
     obtain ⟨hc17,H⟩:=zab H
     refine W.r1 env hc17 [0,2,4,10,11] [90000] ?_
     refine At.inb (At.zaG (At.kp [0,2,4,10,11] [90000] ?_))
     exact At.conv (.cons .qb (.cons .qi (.cons .q (.cons .qi (.cons .qi .nil))))) (.cons .q .nil) (hK3 (s3.1,(s3.2.1 - s3.1),y14) H)
 · refine W.exit (At.xthen (At.xthen (At.xhere (At.zad ?_))))
   obtain ⟨hc18,H⟩:=zab H
   obtain ⟨y19,hy20,H⟩:=zac H
   refine W.region env [] [⟨.tup [],[(90000,bufL 3 1 zaa y19)],0,[90000]⟩] rfl rfl (by kernel_rfl) (.cons hc18 .nil) (.free (CtrO.sim (CtrO.ren (zbH fuel s3.2.2 (p2 - s3.1) p2 s3.1 p4 p4_g p4_a p4_b p4_h hy20) [(90000,90000)]) (.cons .qc (.cons (.refl _) (.cons (.refl _) (.cons (.refl _) (.cons (.refl _) .nil))))) (.cons (.refl _) .nil)) .nil) (At.kp [] [90000] ?_)
   refine At.zd8 ?_
   cases H
   exact At.retL env.ty [90000] rfl rfl rfl rfl (.cons (.refl _) .nil) (.refl _) hval hdom hent rfl rfl
theorem zcO (fuel:Nat):∀ (n:Nat) (p0:(List Int)) (p1:Int) (p2:Int) (p3:Int) (p4:Int→Int→Option Int) (p4_g:Nat) (p4_a p4_b:List AV) (p4_h:∀ x0 x1 r,p4 x0 x1=some r→Ctr Tryz.prog p4_g (p4_a++([.int .i64 (x0),.int .i64 (x1)]++p4_b)) (.int .i64 (r))) {r:(List Int)} (H:zaP fuel n p0 p1 p2 p3 p4=some r),CtrO Tryz.prog 161 [.buf 90000 (p0).length,.int .i64 (p1),.int .i64 (p2),.int .i64 (p3),.clo (.func p4_g) p4_a p4_b] [(90000,bufL 3 1 zaa p0)] (.tup []) [(90000,bufL 3 1 zaa r)]:=by
 intro n;induction n with
 | zero=>intro p0 p1 p2 p3 p4 p4_g p4_a p4_b p4_h r H;cases H
 | succ n ih=>
  intro p0 p1 p2 p3 p4 p4_g p4_a p4_b p4_h r H
  have H:za2 fuel (zaP fuel n) p0 p1 p2 p3 p4=some r:=H
  unfold za2 at H
  refine CtrL.zcU (N:=220) Tryz.func161 (by kernel_rfl) (c:=_) rfl Tryz.ntmps161 rfl rfl (fun w0 h0 ρb hval hdom hent=>?_)
  refine W.seq ?_
  obtain ⟨hc1,H⟩:=zab H
  refine W.sr env [] [] [0,1,2,3,4,28] [90000] rfl rfl rfl (.cons hc1 .nil) .nil ?_
  refine W.co H rfl (fun hb2 H=>?_) (fun hb2 H=>?_)
  · refine W.rg env [0,1,3,4,10] [90000] ?_
    refine W.rg env [0,1,4,10,11] [90000] ?_
    refine W.seq (W.block (At.kp [0,1,4,10,11] [90000] ?_))
    refine W.loopGo H (fun (s3:Int×Int)=>[(0,.buf 90000 (p0).length),(1,.int .i64 (p1)),(4,.clo (.func p4_g) p4_a p4_b),(10,.int .i64 (s3.1)),(11,.int .i64 (s3.2))]) (fun (s3:Int×Int)=>[(90000,bufL 3 1 zaa p0)]) (.cons .qb (.cons .qi (.cons .q (.cons .qi (.cons .qi .nil))))) (.cons .q .nil) (fun k3 s3 H K0 hK3=>?_)
    refine W.seq (W.rg env [0,1,4,10,11,33] [90000] ?_)
    refine W.co H rfl (fun hb4 H=>?_) (fun hb4 H=>?_)
    · refine W.skip (At.zad (W.block ?_))
      obtain ⟨hc5,H⟩:=zab H
      obtain ⟨hc6,H⟩:=zab H
      obtain ⟨hc7,H⟩:=zab H
      refine W.sr env [] [] [0,1,4,10,11,12] [90000] rfl rfl rfl (.cons hc5 (.cons hc6 (.cons (by decide) (.cons hc7 .nil)))) .nil ?_
      refine W.seq ?_
      obtain ⟨hc8,H⟩:=zab H
      obtain ⟨hc9,H⟩:=zab H
      obtain ⟨y10,hy11,H⟩:=zac H
      refine W.region env [] [⟨.int .i64 (y10),[],0,[]⟩] rfl rfl (by kernel_rfl) (.cons (⟨by first|rfl|(simp;done)|omega|(simp;omega),hc8⟩) (.cons (⟨by first|rfl|(simp;done)|omega|(simp;omega),(by have:=hc8;first|omega|(simp only [List.length_set];omega)|(simp only [Int.toNat_natCast] at *;omega)|(simp at this ⊢;omega))⟩) (.cons (⟨by first|rfl|(simp;done)|omega|(simp;omega),hc9⟩) (.cons (⟨by first|rfl|(simp;done)|omega|(simp;omega),(by have:=hc9;first|omega|(simp only [List.length_set];omega)|(simp only [Int.toNat_natCast] at *;omega)|(simp at this ⊢;omega))⟩) .nil)))) (.free (p4_h (p0.getD ((Int.fdiv (s3.1+s3.2) (2 ^ (1:Int).toNat))).toNat default) (p0.getD (p1).toNat default) _ hy11) .nil) (At.kp [0,1,4,10,11,12,50] [90000] ?_)
      refine At.zad (W.co H rfl (fun hb12 H=>?_) (fun hb12 H=>?_))
      · obtain ⟨hc13,H⟩:=zab H
        refine W.r1 env hc13 [0,1,4,10,11] [90000] ?_
        refine At.inb (At.zaG (At.kp [0,1,4,10,11] [90000] ?_))
        exact At.conv (.cons .qb (.cons .qi (.cons .q (.cons .qi (.cons .qi .nil))))) (.cons .q .nil) (hK3 (((Int.fdiv (s3.1+s3.2) (2 ^ (1:Int).toNat))+1),s3.2) H)
      · refine W.region env [] [] rfl rfl rfl .nil .nil (At.kp [0,1,4,10,11] [90000] ?_)
        refine At.inb (At.zaG (At.kp [0,1,4,10,11] [90000] ?_))
        exact At.conv (.cons .qb (.cons .qi (.cons .q (.cons .qi (.cons .qi .nil))))) (.cons .q .nil) (hK3 (s3.1,(Int.fdiv (s3.1+s3.2) (2 ^ (1:Int).toNat))) H)
    · refine W.exit (At.xthen (At.xthen (At.xhere (At.zad (W.seq (W.rg env [0,10,13] [90000] ?_))))))
      refine W.block (At.kp [0,10,13] [90000] ?_)
      refine W.loopGo H (fun (s14:Int×(List Int))=>[(0,.buf 90000 (s14.2).length),(10,.int .i64 (s3.1)),(13,.int .i64 (s14.1))]) (fun (s14:Int×(List Int))=>[(90000,bufL 3 1 zaa s14.2)]) (.cons .qb (.cons .qi (.cons .qi .nil))) (.cons .q .nil) (fun k14 s14 H K0 hK14=>?_)
      refine W.seq ?_
      obtain ⟨hc15,H⟩:=zab H
      refine W.sr env [] [] [0,10,13,58] [90000] rfl rfl rfl (.cons hc15 .nil) .nil ?_
      refine W.co H rfl (fun hb16 H=>?_) (fun hb16 H=>?_)
      · refine W.skip (At.zad (W.seq (W.block ?_)))
        obtain ⟨hc17,H⟩:=zab H
        obtain ⟨hc18,H⟩:=zab H
        obtain ⟨hc19,H⟩:=zab H
        obtain ⟨hc20,H⟩:=zab H
        obtain ⟨hc21,H⟩:=zab H
        obtain ⟨hc22,H⟩:=zab H
        refine W.region env [] [] rfl rfl (by first|rfl|kernel_rfl) (.cons hc17 (.cons hc18 (.cons (⟨by first|rfl|(simp;done)|omega|(simp;omega),hc19⟩) (.cons (⟨by first|rfl|(simp;done)|omega|(simp;omega),(by have:=hc19;first|omega|(simp only [List.length_set];omega)|(simp only [Int.toNat_natCast] at *;omega)|(simp at this ⊢;omega))⟩) (.cons (⟨by first|rfl|(simp;done)|omega|(simp;omega),hc20⟩) (.cons (⟨by first|rfl|(simp;done)|omega|(simp;omega),(by have:=hc20;first|omega|(simp only [List.length_set];omega)|(simp only [Int.toNat_natCast] at *;omega)|(simp at this ⊢;omega))⟩) (.cons (⟨by first|rfl|(simp;done)|omega|(simp;omega),hc21⟩) (.cons (⟨by first|rfl|(simp;done)|omega|(simp;omega),(by have:=hc21;first|omega|(simp only [List.length_set];omega)|(simp only [Int.toNat_natCast] at *;omega)|(simp at this ⊢;omega))⟩) (.cons (⟨by first|rfl|(simp;done)|omega|(simp;omega),(by simpa using hc22)⟩) (.cons (⟨by first|rfl|(simp;done)|omega|(simp;omega),(by have:=hc22;simp at this ⊢;omega)⟩) .nil)))))))))) .nil (At.kp [0,10,13] [90000] ?_)
        refine At.zbY (.cons (y:=bufL 3 1 zaa ((s14.2.set (s14.1).toNat (s14.2.getD ((s14.1+1)).toNat default)).set ((s14.1+1)).toNat (s14.2.getD (s14.1).toNat default))) (BSim.seg (Seg.set (Seg.set (Seg.refl zaa _) (s14.2.getD ((s14.1+1)).toNat default) rfl) (s14.2.getD (s14.1).toNat default) rfl)) .nil) ?_
        refine At.inb (At.zad ?_)
        obtain ⟨hc23,H⟩:=zab H
        refine W.r1 env hc23 [0,10,13] [90000] ?_
        refine At.zaG (At.kp [0,10,13] [90000] ?_)
        exact At.conv (.cons .qb (.cons .qi (.cons .qi .nil))) (.cons .q .nil) (hK14 ((s14.1+1),((s14.2.set (s14.1).toNat (s14.2.getD ((s14.1+1)).toNat default)).set ((s14.1+1)).toNat (s14.2.getD (s14.1).toNat default))) H)
      · refine W.exit (At.xthen (At.xthen (At.xhere (At.zad (W.ret (At.rthen ?_))))))
        cases H
        exact At.retL env.ty [90000] rfl rfl rfl rfl (.cons (.refl _) .nil) (.refl _) hval hdom hent rfl rfl
  · refine W.skip (At.zad (W.seq ?_))
    obtain ⟨hc24,H⟩:=zab H
    refine W.sr env [] [] [0,1,2,3,4,80] [90000] rfl rfl rfl (.cons hc24 .nil) .nil ?_
    refine W.co H rfl (fun hb25 H=>?_) (fun hb25 H=>?_)
    · refine W.rg env [0,2,4,14] [90000] ?_
      refine W.rg env [0,2,4,14,15] [90000] ?_
      refine W.seq (W.block (At.kp [0,2,4,14,15] [90000] ?_))
      refine W.loopGo H (fun (s26:Int×Int)=>[(0,.buf 90000 (p0).length),(2,.int .i64 (p2)),(4,.clo (.func p4_g) p4_a p4_b),(14,.int .i64 (s26.1)),(15,.int .i64 (s26.2))]) (fun (s26:Int×Int)=>[(90000,bufL 3 1 zaa p0)]) (.cons .qb (.cons .qi (.cons .q (.cons .qi (.cons .qi .nil))))) (.cons .q .nil) (fun k26 s26 H K0 hK26=>?_)
      refine W.seq (W.rg env [0,2,4,14,15,85] [90000] ?_)
      refine W.co H rfl (fun hb27 H=>?_) (fun hb27 H=>?_)
      · refine W.skip (At.zad (W.block ?_))
        obtain ⟨hc28,H⟩:=zab H
        obtain ⟨hc29,H⟩:=zab H
        obtain ⟨hc30,H⟩:=zab H
        refine W.sr env [] [] [0,2,4,14,15,16] [90000] rfl rfl rfl (.cons hc28 (.cons hc29 (.cons (by decide) (.cons hc30 .nil)))) .nil ?_
        refine W.seq ?_
        obtain ⟨hc31,H⟩:=zab H
        obtain ⟨hc32,H⟩:=zab H
        obtain ⟨y33,hy34,H⟩:=zac H
        refine W.region env [] [⟨.int .i64 (y33),[],0,[]⟩] rfl rfl (by kernel_rfl) (.cons (⟨by first|rfl|(simp;done)|omega|(simp;omega),hc31⟩) (.cons (⟨by first|rfl|(simp;done)|omega|(simp;omega),(by have:=hc31;first|omega|(simp only [List.length_set];omega)|(simp only [Int.toNat_natCast] at *;omega)|(simp at this ⊢;omega))⟩) (.cons (⟨by first|rfl|(simp;done)|omega|(simp;omega),hc32⟩) (.cons (⟨by first|rfl|(simp;done)|omega|(simp;omega),(by have:=hc32;first|omega|(simp only [List.length_set];omega)|(simp only [Int.toNat_natCast] at *;omega)|(simp at this ⊢;omega))⟩) .nil)))) (.free (p4_h (p0.getD (p2).toNat default) (p0.getD ((Int.fdiv (s26.1+s26.2) (2 ^ (1:Int).toNat))).toNat default) _ hy34) .nil) (At.kp [0,2,4,14,15,16,103] [90000] ?_)
        refine At.zad (W.co H rfl (fun hb35 H=>?_) (fun hb35 H=>?_))
        · obtain ⟨hc36,H⟩:=zab H
          refine W.r1 env hc36 [0,2,4,14,15] [90000] ?_
          refine At.inb (At.zaG (At.kp [0,2,4,14,15] [90000] ?_))
          exact At.conv (.cons .qb (.cons .qi (.cons .q (.cons .qi (.cons .qi .nil))))) (.cons .q .nil) (hK26 (((Int.fdiv (s26.1+s26.2) (2 ^ (1:Int).toNat))+1),s26.2) H)
        · refine W.region env [] [] rfl rfl rfl .nil .nil (At.kp [0,2,4,14,15] [90000] ?_)
          refine At.inb (At.zaG (At.kp [0,2,4,14,15] [90000] ?_))
          exact At.conv (.cons .qb (.cons .qi (.cons .q (.cons .qi (.cons .qi .nil))))) (.cons .q .nil) (hK26 (s26.1,(Int.fdiv (s26.1+s26.2) (2 ^ (1:Int).toNat))) H)
      · refine W.exit (At.xthen (At.xthen (At.xhere (At.zad (W.seq (W.rg env [0,14,17] [90000] ?_))))))
        refine W.block (At.kp [0,14,17] [90000] ?_)
        refine W.loopGo H (fun (s37:Int×(List Int))=>[(0,.buf 90000 (s37.2).length),(14,.int .i64 (s26.1)),(17,.int .i64 (s37.1))]) (fun (s37:Int×(List Int))=>[(90000,bufL 3 1 zaa s37.2)]) (.cons .qb (.cons .qi (.cons .qi .nil))) (.cons .q .nil) (fun k37 s37 H K0 hK37=>?_)
        refine W.seq (W.rg env [0,14,17,110] [90000] ?_)
        refine W.co H rfl (fun hb38 H=>?_) (fun hb38 H=>?_)
        · refine W.skip (At.zad (W.seq (W.block ?_)))
          obtain ⟨hc39,H⟩:=zab H
          obtain ⟨hc40,H⟩:=zab H
          obtain ⟨hc41,H⟩:=zab H
          obtain ⟨hc42,H⟩:=zab H
          obtain ⟨hc43,H⟩:=zab H
          obtain ⟨hc44,H⟩:=zab H
          refine W.region env [] [] rfl rfl (by first|rfl|kernel_rfl) (.cons hc39 (.cons hc40 (.cons (⟨by first|rfl|(simp;done)|omega|(simp;omega),hc41⟩) (.cons (⟨by first|rfl|(simp;done)|omega|(simp;omega),(by have:=hc41;first|omega|(simp only [List.length_set];omega)|(simp only [Int.toNat_natCast] at *;omega)|(simp at this ⊢;omega))⟩) (.cons (⟨by first|rfl|(simp;done)|omega|(simp;omega),hc42⟩) (.cons (⟨by first|rfl|(simp;done)|omega|(simp;omega),(by have:=hc42;first|omega|(simp only [List.length_set];omega)|(simp only [Int.toNat_natCast] at *;omega)|(simp at this ⊢;omega))⟩) (.cons (⟨by first|rfl|(simp;done)|omega|(simp;omega),hc43⟩) (.cons (⟨by first|rfl|(simp;done)|omega|(simp;omega),(by have:=hc43;first|omega|(simp only [List.length_set];omega)|(simp only [Int.toNat_natCast] at *;omega)|(simp at this ⊢;omega))⟩) (.cons (⟨by first|rfl|(simp;done)|omega|(simp;omega),(by simpa using hc44)⟩) (.cons (⟨by first|rfl|(simp;done)|omega|(simp;omega),(by have:=hc44;simp at this ⊢;omega)⟩) .nil)))))))))) .nil (At.kp [0,14,17] [90000] ?_)
          refine At.zbY (.cons (y:=bufL 3 1 zaa ((s37.2.set (s37.1).toNat (s37.2.getD ((s37.1 - 1)).toNat default)).set ((s37.1 - 1)).toNat (s37.2.getD (s37.1).toNat default))) (BSim.seg (Seg.set (Seg.set (Seg.refl zaa _) (s37.2.getD ((s37.1 - 1)).toNat default) rfl) (s37.2.getD (s37.1).toNat default) rfl)) .nil) ?_
          refine At.inb (At.zad ?_)
          obtain ⟨hc45,H⟩:=zab H
          refine W.r1 env hc45 [0,14,17] [90000] ?_
          refine At.zaG (At.kp [0,14,17] [90000] ?_)
          exact At.conv (.cons .qb (.cons .qi (.cons .qi .nil))) (.cons .q .nil) (hK37 ((s37.1 - 1),((s37.2.set (s37.1).toNat (s37.2.getD ((s37.1 - 1)).toNat default)).set ((s37.1 - 1)).toNat (s37.2.getD (s37.1).toNat default))) H)
        · refine W.exit (At.xthen (At.xthen (At.xhere (At.zad (W.ret (At.rthen ?_))))))
          cases H
          exact At.retL env.ty [90000] rfl rfl rfl rfl (.cons (.refl _) .nil) (.refl _) hval hdom hent rfl rfl
    · refine W.skip (At.zad ?_)
      obtain ⟨hc46,H⟩:=zab H
      obtain ⟨hc47,H⟩:=zab H
      obtain ⟨hc48,H⟩:=zab H
      refine W.sr env [] [] [0,1,2,3,4,18] [90000] rfl rfl rfl (.cons hc46 (.cons hc47 (.cons (by decide) (.cons hc48 .nil)))) .nil ?_
      obtain ⟨hc49,H⟩:=zab H
      refine W.sr env [] [] [0,1,2,3,4,18,19] [90000] rfl rfl rfl (.cons hc49 .nil) .nil ?_
      refine W.rg env [0,1,2,3,4,18,19] [90000] ?_
      refine W.seq (W.rg env [0,1,2,3,4,18,19,140] [90000] ?_)
      refine W.zkK H (fun (s50:Int×Int)=>[(0,.buf 90000 (p0).length),(1,.int .i64 (p1)),(2,.int .i64 (p2)),(3,.int .i64 (p3)),(4,.clo (.func p4_g) p4_a p4_b),(18,.int .i64 ((Int.fdiv (p1+p3) (2 ^ (1:Int).toNat)))),(19,.int .i64 (((Int.fdiv (p1+p3) (2 ^ (1:Int).toNat))+p2))),(20,.int .i64 (s50.1)),(21,.int .i64 (s50.2))]) (fun (s50:Int×Int)=>[(90000,bufL 3 1 zaa p0)]) (fun s50 H=>?_) (fun k50 H hK50=>?_)
      · obtain ⟨hc51,H⟩:=zab H
        refine W.sr env [] [] [0,1,2,3,4,18,19,20,21,22] [90000] rfl rfl rfl (.cons hc51 .nil) .nil ?_
        refine W.seq (W.block (At.kp [0,1,2,3,4,18,19,20,21,22] [90000] ?_))
        refine W.loopGo H (fun (s52:Int×Int)=>[(0,.buf 90000 (p0).length),(1,.int .i64 (p1)),(2,.int .i64 (p2)),(3,.int .i64 (p3)),(4,.clo (.func p4_g) p4_a p4_b),(18,.int .i64 ((Int.fdiv (p1+p3) (2 ^ (1:Int).toNat)))),(19,.int .i64 (((Int.fdiv (p1+p3) (2 ^ (1:Int).toNat))+p2))),(20,.int .i64 (s52.1)),(21,.int .i64 (s52.2)),(22,.int .i64 ((((Int.fdiv (p1+p3) (2 ^ (1:Int).toNat))+p2) - 1)))]) (fun (s52:Int×Int)=>[(90000,bufL 3 1 zaa p0)]) (.cons .qb (.cons .qi (.cons .qi (.cons .qi (.cons .q (.cons .qi (.cons .qi (.cons .qi (.cons .qi (.cons .qi .nil)))))))))) (.cons .q .nil) (fun k52 s52 H K0 hK52=>?_)
        refine W.seq (W.rg env [0,1,2,3,4,18,19,20,21,22,151] [90000] ?_)
        refine W.co H rfl (fun hb53 H=>?_) (fun hb53 H=>?_)
        · refine W.skip (At.zad (W.block ?_))
          obtain ⟨hc54,H⟩:=zab H
          obtain ⟨hc55,H⟩:=zab H
          obtain ⟨hc56,H⟩:=zab H
          refine W.sr env [] [] [0,1,2,3,4,18,19,20,21,22,23] [90000] rfl rfl rfl (.cons hc54 (.cons hc55 (.cons (by decide) (.cons hc56 .nil)))) .nil ?_
          refine W.seq ?_
          obtain ⟨hc57,H⟩:=zab H
          obtain ⟨hc58,H⟩:=zab H
          obtain ⟨hc59,H⟩:=zab H
          obtain ⟨y60,hy61,H⟩:=zac H
          refine W.region env [] [⟨.int .i64 (y60),[],0,[]⟩] rfl rfl (by kernel_rfl) (.cons hc57 (.cons (⟨by first|rfl|(simp;done)|omega|(simp;omega),hc58⟩) (.cons (⟨by first|rfl|(simp;done)|omega|(simp;omega),(by have:=hc58;first|omega|(simp only [List.length_set];omega)|(simp only [Int.toNat_natCast] at *;omega)|(simp at this ⊢;omega))⟩) (.cons (⟨by first|rfl|(simp;done)|omega|(simp;omega),hc59⟩) (.cons (⟨by first|rfl|(simp;done)|omega|(simp;omega),(by have:=hc59;first|omega|(simp only [List.length_set];omega)|(simp only [Int.toNat_natCast] at *;omega)|(simp at this ⊢;omega))⟩) .nil))))) (.free (p4_h (p0.getD (((((Int.fdiv (p1+p3) (2 ^ (1:Int).toNat))+p2) - 1) - (Int.fdiv (s52.1+s52.2) (2 ^ (1:Int).toNat)))).toNat default) (p0.getD ((Int.fdiv (s52.1+s52.2) (2 ^ (1:Int).toNat))).toNat default) _ hy61) .nil) (At.kp [0,1,2,3,4,18,19,20,21,22,23,171] [90000] ?_)
          refine At.zad (W.co H rfl (fun hb62 H=>?_) (fun hb62 H=>?_))
          · obtain ⟨hc63,H⟩:=zab H
            refine W.r1 env hc63 [0,1,2,3,4,18,19,20,21,22] [90000] ?_
            refine At.inb (At.zaG (At.kp [0,1,2,3,4,18,19,20,21,22] [90000] ?_))
            exact At.conv (.cons .qb (.cons .qi (.cons .qi (.cons .qi (.cons .q (.cons .qi (.cons .qi (.cons .qi (.cons .qi (.cons .qi .nil)))))))))) (.cons .q .nil) (hK52 (((Int.fdiv (s52.1+s52.2) (2 ^ (1:Int).toNat))+1),s52.2) H)
          · refine W.region env [] [] rfl rfl rfl .nil .nil (At.kp [0,1,2,3,4,18,19,20,21,22] [90000] ?_)
            refine At.inb (At.zaG (At.kp [0,1,2,3,4,18,19,20,21,22] [90000] ?_))
            exact At.conv (.cons .qb (.cons .qi (.cons .qi (.cons .qi (.cons .q (.cons .qi (.cons .qi (.cons .qi (.cons .qi (.cons .qi .nil)))))))))) (.cons .q .nil) (hK52 (s52.1,(Int.fdiv (s52.1+s52.2) (2 ^ (1:Int).toNat))) H)
        · refine W.exit (At.xthen (At.xthen (At.xhere (At.zad ?_))))
          obtain ⟨hc64,H⟩:=zab H
          refine W.sr env [] [] [0,1,2,3,4,18,20,24] [90000] rfl rfl rfl (.cons hc64 .nil) .nil ?_
          refine W.seq (W.sr env [] [] [0,1,2,3,4,18,20,24,185] [90000] rfl rfl rfl (.cons id (.cons id (.cons id .nil))) .nil ?_)
          refine W.zkK H (fun (s65:(List Int))=>[(0,.buf 90000 (s65).length),(1,.int .i64 (p1)),(3,.int .i64 (p3)),(4,.clo (.func p4_g) p4_a p4_b),(18,.int .i64 ((Int.fdiv (p1+p3) (2 ^ (1:Int).toNat)))),(20,.int .i64 (s52.1)),(24,.int .i64 ((((Int.fdiv (p1+p3) (2 ^ (1:Int).toNat))+p2) - s52.1)))]) (fun (s65:(List Int))=>[(90000,bufL 3 1 zaa s65)]) (fun s65 H=>?_) (fun k65 H hK65=>?_)
          · refine W.seq (W.sr env [] [] [0,1,3,4,18,20,24,199] [90000] rfl rfl rfl (.cons id (.cons id (.cons id .nil))) .nil ?_)
            refine W.zkK H (fun (s66:(List Int))=>[(0,.buf 90000 (s66).length),(3,.int .i64 (p3)),(4,.clo (.func p4_g) p4_a p4_b),(18,.int .i64 ((Int.fdiv (p1+p3) (2 ^ (1:Int).toNat)))),(24,.int .i64 ((((Int.fdiv (p1+p3) (2 ^ (1:Int).toNat))+p2) - s52.1)))]) (fun (s66:(List Int))=>[(90000,bufL 3 1 zaa s66)]) (fun s66 H=>?_) (fun k66 H hK66=>?_)
            · refine W.sr env [] [] [0,3,4,18,24,213] [90000] rfl rfl rfl (.cons id (.cons id (.cons id .nil))) .nil ?_
              refine W.co H rfl (fun hb67 H=>?_) (fun hb67 H=>?_)
              · obtain ⟨y68,hy69,H⟩:=zac H
                refine W.region env [] [⟨.tup [],[(90000,bufL 3 1 zaa y68)],0,[90000]⟩] rfl rfl (by kernel_rfl) .nil (.free (CtrO.sim (CtrO.ren (ih s66 (Int.fdiv (p1+p3) (2 ^ (1:Int).toNat)) (((Int.fdiv (p1+p3) (2 ^ (1:Int).toNat))+p2) - s52.1) p3 p4 p4_g p4_a p4_b p4_h hy69) [(90000,90000)]) (.cons .qc (.cons (.refl _) (.cons (.refl _) (.cons (.refl _) (.cons (.refl _) .nil))))) (.cons (.refl _) .nil)) .nil) (At.kp [] [90000] ?_)
                refine At.zd8 ?_
                cases H
                exact At.retL env.ty [90000] rfl rfl rfl rfl (.cons (.refl _) .nil) (.refl _) hval hdom hent rfl rfl
              · refine W.skip (At.zd8 ?_)
                cases H
                exact At.retL env.ty [90000] rfl rfl rfl rfl (.cons (.refl _) .nil) (.refl _) hval hdom hent rfl rfl
            · refine W.co H rfl (fun hb70 H=>?_) (fun hb70 H=>?_)
              · obtain ⟨y71,hy72,H⟩:=zac H
                obtain ⟨hc73,H⟩:=zab H
                refine W.region env [] [⟨.tup [],[(90000,bufL 3 1 zaa y71)],0,[90000]⟩] rfl rfl (by kernel_rfl) .nil (.free (CtrO.sim (CtrO.ren (ih s65 p1 s52.1 (Int.fdiv (p1+p3) (2 ^ (1:Int).toNat)) p4 p4_g p4_a p4_b p4_h hy72) [(90000,90000)]) (.cons .qc (.cons (.refl _) (.cons (.refl _) (.cons (.refl _) (.cons (.refl _) .nil))))) (.cons (.refl _) .nil)) .nil) (At.kp [0,3,4,18,24] [90000] ?_)
                refine At.zaG (At.kp [0,3,4,18,24] [90000] ?_)
                exact At.conv (.cons .qb (.cons .qi (.cons .q (.cons .qi (.cons .qi .nil))))) (.cons .q .nil) (hK66 y71 H)
              · refine W.skip (At.zaG (At.kp [0,3,4,18,24] [90000] ?_))
                exact At.conv (.cons .qb (.cons .qi (.cons .q (.cons .qi (.cons .qi .nil))))) (.cons .q .nil) (hK66 s65 H)
          · refine W.co H rfl (fun hb74 H=>?_) (fun hb74 H=>?_)
            · obtain ⟨y75,hy76,H⟩:=zac H
              obtain ⟨hc77,H⟩:=zab H
              refine W.region env [] [⟨.tup [],[(90000,bufL 3 1 zaa y75)],0,[90000]⟩] rfl rfl (by kernel_rfl) .nil (.free (CtrO.sim (CtrO.ren (zeW fuel p0 s52.1 p2 (((Int.fdiv (p1+p3) (2 ^ (1:Int).toNat))+p2) - s52.1) p4 p4_g p4_a p4_b p4_h hy76) [(90000,90000)]) (.cons .qc (.cons (.refl _) (.cons (.refl _) (.cons (.refl _) (.cons (.refl _) .nil))))) (.cons (.refl _) .nil)) .nil) (At.kp [0,1,3,4,18,20,24] [90000] ?_)
              refine At.zaG (At.kp [0,1,3,4,18,20,24] [90000] ?_)
              exact At.conv (.cons .qb (.cons .qi (.cons .qi (.cons .q (.cons .qi (.cons .qi (.cons .qi .nil))))))) (.cons .q .nil) (hK65 y75 H)
            · refine W.skip (At.zaG (At.kp [0,1,3,4,18,20,24] [90000] ?_))
              exact At.conv (.cons .qb (.cons .qi (.cons .qi (.cons .q (.cons .qi (.cons .qi (.cons .qi .nil))))))) (.cons .q .nil) (hK65 p0 H)
      · refine W.co H rfl (fun hb78 H=>?_) (fun hb78 H=>?_)
        · obtain ⟨hc79,H⟩:=zab H
          refine W.sr env [] [] [0,1,2,3,4,18,19,20] [90000] rfl rfl rfl (.cons hc79 .nil) .nil ?_
          refine W.region env [] [] rfl rfl rfl .nil .nil (At.kp [0,1,2,3,4,18,19,20,21] [90000] ?_)
          refine At.zaG (At.kp [0,1,2,3,4,18,19,20,21] [90000] ?_)
          exact At.conv (.cons .qb (.cons .qi (.cons .qi (.cons .qi (.cons .q (.cons .qi (.cons .qi (.cons .qi (.cons .qi .nil))))))))) (.cons .q .nil) (hK50 ((((Int.fdiv (p1+p3) (2 ^ (1:Int).toNat))+p2) - p3),(Int.fdiv (p1+p3) (2 ^ (1:Int).toNat))) H)
        · refine W.rg env [0,1,2,3,4,18,19,20] [90000] ?_
          refine W.region env [] [] rfl rfl rfl .nil .nil (At.kp [0,1,2,3,4,18,19,20,21] [90000] ?_)
          refine At.zaG (At.kp [0,1,2,3,4,18,19,20,21] [90000] ?_)
          exact At.conv (.cons .qb (.cons .qi (.cons .qi (.cons .qi (.cons .q (.cons .qi (.cons .qi (.cons .qi (.cons .qi .nil))))))))) (.cons .q .nil) (hK50 (p1,p2) H)
theorem zeV (fuel:Nat) (p0:(List Int)) (p1:Int) (p2:Int→Int→Option Int) (p2_g:Nat) (p2_a p2_b:List AV) (p2_h:∀ x0 x1 r,p2 x0 x1=some r→Ctr Tryz.prog p2_g (p2_a++([.int .i64 (x0),.int .i64 (x1)]++p2_b)) (.int .i64 (r))) {r:(List Int)} (H:zbI fuel p0 p1 p2=some r):CtrO Tryz.prog 151 [.buf 90000 (p0).length,.int .i64 (p1),.clo (.func p2_g) p2_a p2_b] [(90000,bufL 3 1 zaa p0)] (.tup []) [(90000,bufL 3 1 zaa r)]:=by
 unfold zbI at H
 refine CtrL.zcU (N:=63) Tryz.func151 (by kernel_rfl) (c:=_) rfl Tryz.ntmps151 rfl rfl (fun w0 h0 ρb hval hdom hent=>?_)
 refine W.rg env [0,1,2,6] [90000] ?_
 refine W.rg env [0,1,2,6,7,8] [90000] ?_
 refine W.seq (W.block (At.kp [0,1,2,6,7,8] [90000] ?_))
 refine W.loopGo H (fun (s1:Int×Int×(List Int))=>[(0,.buf 90000 (s1.2.2).length),(1,.int .i64 (p1)),(2,.clo (.func p2_g) p2_a p2_b),(6,.int .i64 (20)),(7,.int .i64 (s1.1)),(8,.int .i64 (s1.2.1))]) (fun (s1:Int×Int×(List Int))=>[(90000,bufL 3 1 zaa s1.2.2)]) (.cons .qb (.cons .qi (.cons .q (.cons .qi (.cons .qi (.cons .qi .nil)))))) (.cons .q .nil) (fun k1 s1 H K0 hK1=>?_)
 refine W.seq (W.rg env [0,1,2,6,7,8,13] [90000] ?_)
 refine W.co H rfl (fun hb2 H=>?_) (fun hb2 H=>?_)
 · refine W.skip (At.zad (W.block (W.seq ?_)))
   obtain ⟨y3,hy4,H⟩:=zac H
   obtain ⟨hc5,H⟩:=zab H
   refine W.region env [] [⟨.tup [],[(90000,bufL 3 1 zaa y3)],0,[90000]⟩] rfl rfl (by kernel_rfl) .nil (.free (CtrO.sim (CtrO.ren (zcb fuel s1.2.2 s1.1 s1.2.1 p2 p2_g p2_a p2_b p2_h hy4) [(90000,90000)]) (.cons .qc (.cons (.refl _) (.cons (.refl _) (.cons (.refl _) .nil)))) (.cons (.refl _) .nil)) .nil) (At.kp [0,1,2,6,8] [90000] ?_)
   refine At.zad (W.rg env [0,1,2,6,7,8] [90000] ?_)
   obtain ⟨hc6,H⟩:=zab H
   refine W.r1 env hc6 [0,1,2,6,7,8] [90000] ?_
   refine At.inb (At.zaG (At.kp [0,1,2,6,7,8] [90000] ?_))
   exact At.conv (.cons .qb (.cons .qi (.cons .q (.cons .qi (.cons .qi (.cons .qi .nil)))))) (.cons .q .nil) (hK1 (s1.2.1,(s1.2.1+20),y3) H)
 · refine W.exit (At.xthen (At.xthen (At.xhere (At.zad (W.seq ?_)))))
   obtain ⟨y7,hy8,H⟩:=zac H
   obtain ⟨hc9,H⟩:=zab H
   refine W.region env [] [⟨.tup [],[(90000,bufL 3 1 zaa y7)],0,[90000]⟩] rfl rfl (by kernel_rfl) .nil (.free (CtrO.sim (CtrO.ren (zcb fuel s1.2.2 s1.1 p1 p2 p2_g p2_a p2_b p2_h hy8) [(90000,90000)]) (.cons .qc (.cons (.refl _) (.cons (.refl _) (.cons (.refl _) .nil)))) (.cons (.refl _) .nil)) .nil) (At.kp [0,1,2,6] [90000] ?_)
   refine At.zad (W.block (At.kp [0,1,2,6] [90000] ?_))
   refine W.loopGo H (fun (s10:Int×(List Int))=>[(0,.buf 90000 (s10.2).length),(1,.int .i64 (p1)),(2,.clo (.func p2_g) p2_a p2_b),(6,.int .i64 (s10.1))]) (fun (s10:Int×(List Int))=>[(90000,bufL 3 1 zaa s10.2)]) (.cons .qb (.cons .qi (.cons .q (.cons .qi .nil)))) (.cons .q .nil) (fun k10 s10 H K0 hK10=>?_)
   refine W.seq (W.rg env [0,1,2,6,30] [90000] ?_)
   refine W.co H rfl (fun hb11 H=>?_) (fun hb11 H=>?_)
   · refine W.skip (At.zad (W.block ?_))
     obtain ⟨hc12,H⟩:=zab H
     refine W.sr env [] [] [0,1,2,6,7,8] [90000] rfl rfl rfl (.cons hc12 .nil) .nil ?_
     refine W.seq (W.block (At.kp [0,1,2,6,7,8] [90000] ?_))
     refine W.loopGo H (fun (s13:Int×Int×(List Int))=>[(0,.buf 90000 (s13.2.2).length),(1,.int .i64 (p1)),(2,.clo (.func p2_g) p2_a p2_b),(6,.int .i64 (s10.1)),(7,.int .i64 (s13.1)),(8,.int .i64 (s13.2.1))]) (fun (s13:Int×Int×(List Int))=>[(90000,bufL 3 1 zaa s13.2.2)]) (.cons .qb (.cons .qi (.cons .q (.cons .qi (.cons .qi (.cons .qi .nil)))))) (.cons .q .nil) (fun k13 s13 H K0 hK13=>?_)
     refine W.seq (W.rg env [0,1,2,6,7,8,35] [90000] ?_)
     refine W.co H rfl (fun hb14 H=>?_) (fun hb14 H=>?_)
     · refine W.skip (At.zad (W.block (W.seq ?_)))
       obtain ⟨hc15,H⟩:=zab H
       obtain ⟨y16,hy17,H⟩:=zac H
       obtain ⟨hc18,H⟩:=zab H
       refine W.region env [] [⟨.tup [],[(90000,bufL 3 1 zaa y16)],0,[90000]⟩] rfl rfl (by kernel_rfl) (.cons hc15 .nil) (.free (CtrO.sim (CtrO.ren (zcO fuel fuel s13.2.2 s13.1 (s13.1+s10.1) s13.2.1 p2 p2_g p2_a p2_b p2_h hy17) [(90000,90000)]) (.cons .qc (.cons (.refl _) (.cons (.refl _) (.cons (.refl _) (.cons (.refl _) .nil))))) (.cons (.refl _) .nil)) .nil) (At.kp [0,1,2,6,8] [90000] ?_)
       refine At.zad (W.rg env [0,1,2,6,7,8] [90000] ?_)
       obtain ⟨hc19,H⟩:=zab H
       obtain ⟨hc20,H⟩:=zab H
       refine W.region env [] [] rfl rfl rfl (.cons hc19 (.cons hc20 .nil)) .nil (At.kp [0,1,2,6,7,8] [90000] ?_)
       refine At.inb (At.zaG (At.kp [0,1,2,6,7,8] [90000] ?_))
       exact At.conv (.cons .qb (.cons .qi (.cons .q (.cons .qi (.cons .qi (.cons .qi .nil)))))) (.cons .q .nil) (hK13 (s13.2.1,(s13.2.1+(2 * s10.1)),y16) H)
     · refine W.exit (At.xthen (At.xthen (At.xhere (At.zad (W.seq ?_)))))
       obtain ⟨hc21,H⟩:=zab H
       refine W.sr env [] [] [0,1,2,6,7,9] [90000] rfl rfl rfl (.cons hc21 .nil) .nil ?_
       refine W.rg env [0,1,2,6,7,9,54] [90000] ?_
       refine W.zkK H (fun (s22:(List Int))=>[(0,.buf 90000 (s22).length),(1,.int .i64 (p1)),(2,.clo (.func p2_g) p2_a p2_b),(6,.int .i64 (s10.1))]) (fun (s22:(List Int))=>[(90000,bufL 3 1 zaa s22)]) (fun s22 H=>?_) (fun k22 H hK22=>?_)
       · obtain ⟨hc23,H⟩:=zab H
         refine W.r1 env hc23 [0,1,2,6] [90000] ?_
         refine At.inb (At.zaG (At.kp [0,1,2,6] [90000] ?_))
         exact At.conv (.cons .qb (.cons .qi (.cons .q (.cons .qi .nil)))) (.cons .q .nil) (hK10 ((s10.1 * 2),s22) H)
       · refine W.co H rfl (fun hb24 H=>?_) (fun hb24 H=>?_)
         · obtain ⟨y25,hy26,H⟩:=zac H
           obtain ⟨hc27,H⟩:=zab H
           refine W.region env [] [⟨.tup [],[(90000,bufL 3 1 zaa y25)],0,[90000]⟩] rfl rfl (by kernel_rfl) .nil (.free (CtrO.sim (CtrO.ren (zcO fuel fuel s13.2.2 s13.1 (s13.1+s10.1) p1 p2 p2_g p2_a p2_b p2_h hy26) [(90000,90000)]) (.cons .qc (.cons (.refl _) (.cons (.refl _) (.cons (.refl _) (.cons (.refl _) .nil))))) (.cons (.refl _) .nil)) .nil) (At.kp [0,1,2,6] [90000] ?_)
           refine At.zaG (At.kp [0,1,2,6] [90000] ?_)
           exact At.conv (.cons .qb (.cons .qi (.cons .q (.cons .qi .nil)))) (.cons .q .nil) (hK22 y25 H)
         · refine W.skip (At.zaG (At.kp [0,1,2,6] [90000] ?_))
           exact At.conv (.cons .qb (.cons .qi (.cons .q (.cons .qi .nil)))) (.cons .q .nil) (hK22 s13.2.2 H)
   · refine W.exit (At.xthen (At.xthen (At.xhere (At.zd8 ?_))))
     cases H
     exact At.retL env.ty [90000] rfl rfl rfl rfl (.cons (.refl _) .nil) (.refl _) hval hdom hent rfl rfl
theorem zeN (fuel:Nat) (p0:(List Int)) (p1:Int→Int→Option Int) (p1_g:Nat) (p1_a p1_b:List AV) (p1_h:∀ x0 x1 r,p1 x0 x1=some r→Ctr Tryz.prog p1_g (p1_a++([.int .i64 (x0),.int .i64 (x1)]++p1_b)) (.int .i64 (r))) {r:(List Int)} (H:zaE fuel p0 p1=some r):CtrO Tryz.prog 116 [.buf 90000 (p0).length,.clo (.func p1_g) p1_a p1_b] [(90000,bufL 3 1 zaa p0)] (.tup []) [(90000,bufL 3 1 zaa r)]:=by
 unfold zaE at H
 refine CtrL.zcU (N:=9) Tryz.func116 (by kernel_rfl) (c:=_) rfl Tryz.ntmps116 rfl rfl (fun w0 h0 ρb hval hdom hent=>?_)
 obtain ⟨y1,hy2,H⟩:=zac H
 refine W.region env [] [⟨.tup [],[(90000,bufL 3 1 zaa y1)],0,[90000]⟩] rfl rfl (by kernel_rfl) (.cons (by first|rfl|(simp;done)|omega|(simp;omega)) .nil) (.free (CtrO.sim (CtrO.ren (zeV fuel p0 ((p0.length:Nat):Int) p1 p1_g p1_a p1_b p1_h hy2) [(90000,90000)]) (.cons .qc (.cons (.refl _) (.cons (.refl _) .nil))) (.cons (.refl _) .nil)) .nil) (At.kp [] [90000] ?_)
 refine At.zd8 ?_
 cases H
 exact At.retL env.ty [90000] rfl rfl rfl rfl (.cons (.refl _) .nil) (.refl _) hval hdom hent rfl rfl
theorem zei (p0:Int):Ctr Tryz.prog 90 [.int .i64 (p0)] (.bool ((cmp_isNaN_int p0))):=by
 obtain ⟨r,H⟩:∃ r,cmp_isNaN_int p0=r:=⟨_,rfl⟩
 rw [H]
 unfold cmp_isNaN_int at H
 refine Ctr.ob Tryz.func90 Tryz.ntmps90 (fun w0 h0 hval=>?_)
 refine W.rg env [0] [] ?_
 refine W.rg env [2] [] ?_
 refine W.ret ?_
 cases H
 exact At.rz env hval
theorem zfO (p0:Int) (p1:Int):Ctr Tryz.prog 45 [.int .i64 (p0),.int .i64 (p1)] (.int .i64 ((za6 p0 p1))):=by
 obtain ⟨r,H⟩:∃ r,za6 p0 p1=r:=⟨_,rfl⟩
 rw [H]
 unfold za6 at H
 refine Ctr.ob Tryz.func45 Tryz.ntmps45 (fun w0 h0 hval=>?_)
 refine W.rg env [0,1] [] ?_
 refine W.sr env [] [⟨.bool ((cmp_isNaN_int p0)),[],0,[]⟩] [0,1,5] [] rfl rfl rfl .nil (.free (zei p0) .nil) ?_
 refine W.sr env [] [⟨.bool ((cmp_isNaN_int p1)),[],0,[]⟩] [0,1,5,6] [] rfl rfl rfl .nil (.free (zei p1) .nil) ?_
 refine W.seq (W.rg env [0,1,6,11] [] ?_)
 refine W.co H rfl (fun hb1 H=>?_) (fun hb1 H=>?_)
 · refine W.seq (W.rg env [12] [] ?_)
   refine W.co H rfl (fun hb2 H=>?_) (fun hb2 H=>?_)
   · refine W.rg env [4] [] ?_
     refine W.ret (At.rthen ?_)
     refine At.rthen ?_
     cases H
     exact At.rz env hval
   · refine W.skip (At.zad (W.rg env [4] [] ?_))
     refine W.ret (At.rthen ?_)
     cases H
     exact At.rz env hval
 · refine W.skip (At.zad (W.seq (W.rg env [0,1,13] [] ?_)))
   refine W.co H rfl (fun hb3 H=>?_) (fun hb3 H=>?_)
   · refine W.rg env [4] [] ?_
     refine W.ret (At.rthen ?_)
     cases H
     exact At.rz env hval
   · refine W.skip (At.zad (W.seq (W.rg env [0,1,16] [] ?_)))
     refine W.co H rfl (fun hb4 H=>?_) (fun hb4 H=>?_)
     · refine W.rg env [4] [] ?_
       refine W.ret (At.rthen ?_)
       cases H
       exact At.rz env hval
     · refine W.skip (At.zad (W.seq (W.rg env [19] [] ?_)))
       refine W.co H rfl (fun hb5 H=>?_) (fun hb5 H=>?_)
       · refine W.rg env [4] [] ?_
         refine W.ret (At.rthen ?_)
         cases H
         exact At.rz env hval
       · refine W.skip (At.zad (W.rg env [4] [] ?_))
         refine W.ret ?_
         cases H
         exact At.rz env hval
theorem zjn (p0:Int) (p1:Int) (c0:Wear) {r:Int} (H:zbU p0 p1 c0=some r):Ctr Tryz.prog 117 [.int .i64 (p0),.int .i64 (p1),.rp (zav c0)] (.int .i64 (r)):=by
 unfold zbU at H
 refine Ctr.ob Tryz.func117 Tryz.ntmps117 (fun w0 h0 hval=>?_)
 refine W.rg env [0,1,2] [] ?_
 obtain ⟨hc1,H⟩:=zab H
 obtain ⟨hc2,H⟩:=zab H
 refine W.sr env [] [⟨.int .i64 ((za6 ((c0.Burns.getD (p0).toNat default).Night) ((c0.Burns.getD (p1).toNat default).Night))),[],0,[]⟩] [5] [] rfl rfl (by kernel_rfl) (.cons hc1 (.cons hc2 .nil)) (.free (zfO ((c0.Burns.getD (p0).toNat default).Night) ((c0.Burns.getD (p1).toNat default).Night)) .nil) ?_
 refine W.ret ?_
 cases H
 exact At.rz env hval
theorem zkO (fuel:Nat) (p0:Wear) (p1:Int) {r:(Mp (List Int))} (H:zeJ fuel p0 p1=some r):Ctr Tryz.prog 78 [.agg (zav p0),.int .i64 (p1)] (romL (.slice none 0 0) (fun (x:(List Int))=>roL 1 zaa x) r):=by
 unfold zeJ at H
 refine Ctr.ob Tryz.func78 Tryz.ntmps78 (fun w0 h0 hval=>?_)
 refine W.rg env [2,3] [2,3] ?_
 refine W.seq (W.region env [12] [] rfl rfl rfl .nil .nil (At.kp [2,3,5] [2,3,12] ?_))
 refine At.zbY (.cons (.refl _) (.cons (.refl _) (.cons (y:=znH 3 1 zaa (Mp.empty:Mp (List Int)) none) (BSim.zqi) .nil))) ?_
 refine At.zad (W.seq (W.rg env [2,3,5,14,15,16] [2,3,12] ?_))
 refine W.block (At.kp [2,3,5,14,15,16] [2,3,12] ?_)
 refine W.len (t:=14) rfl (fun hn1=>?_)
 refine W.zak H (fun i1 (s1:(Mp (List Int)))=>[(2,.lp 2 0),(3,.lp 3 0),(5,.mp 12),(14,roL 7 zaL p0.Burns),(15,.int .i64 (((p0.Burns.length:Nat):Int))),(16,.int .i64 ((i1:Int)))]) (fun i1 (s1:(Mp (List Int)))=>[(2,.cells (zav p0)),(3,.cells [.int .i64 (p1)]),(12,znH 3 1 zaa s1 none)]) (.cons .q (.cons .q (.cons .q (.cons .q (.cons .qi (.cons .qi .nil)))))) (.cons .q (.cons .q (.cons .q .nil))) (fun k1 i1 s1 hle1 H1 H2 K0 hK1=>?_)
 refine W.rg env [2,3,5,14,15,16,17] [2,3,12] ?_
 refine W.seq (W.cond rfl (fun hb2=>?_) (fun hb2=>?_))
 · have hi1:i1<p0.Burns.length:=ltD hb2
   have H:=H1 hi1
   refine W.skip (At.zad (W.seq (W.block (W.sr env [] [] [2,3,5,6,7,14,15,16] [2,3,7,12] rfl rfl rfl (.cons (inD hi1) .nil) .nil ?_))))
   refine W.rg env [2,3,5,6,7,8,14,15,16] [2,3,7,12] ?_
   refine W.seq ?_
   obtain ⟨y3,hy4,H⟩:=zac H
   refine W.region env [] [⟨.int .i64 (y3),[],0,[]⟩] rfl rfl rfl .nil (.free (zee p0 ((p0.Burns.getD i1 default).Lamp) ((p0.Burns.getD i1 default).Night) p1 hy4) .nil) (At.kp [2,3,5,6,7,8,9,14,15,16] [2,3,7,12] ?_)
   refine At.zad (W.seq ?_)
   obtain ⟨hc5,H⟩:=zab H
   obtain ⟨y6,hy7,H⟩:=zac H
   refine W.region env [] [⟨.bool ((zaq ((p0.Burns.getD i1 default).Known) ((p0.Burns.getD i1 default).Until) p1)),[],0,[]⟩,⟨.bool (y6),[],0,[]⟩] rfl rfl rfl (.cons id (.cons id (.cons id (.cons id (.cons id (.cons id (.cons id (.cons (fun _=>(incD hi1 hn1)) (.cons id (.cons hc5 (.cons id (.cons id (.cons id (.cons id (.cons id (.cons id .nil)))))))))))))))) (.on (fun hW=>zef ((p0.Burns.getD i1 default).Known) ((p0.Burns.getD i1 default).Until) p1) (.on (fun hW=>Ctr.sim (.cons (Sim.seg (Seg.drop zaL p0.Burns ((((i1:Int)+1)).toNat))) (.cons (.refl _) .nil)) (zfh (p0.Burns.drop (((i1:Int)+1)).toNat) (fun x0=>some (zbv x0 (p0.Burns.getD i1 default) p1)) 114 [] ([.rp [.int .i64 ((p0.Burns.getD i1 default).Source),.int .i64 ((p0.Burns.getD i1 default).Lamp),.int .i64 ((p0.Burns.getD i1 default).Night),.int .i64 ((p0.Burns.getD i1 default).Minutes.Lo),.int .i64 ((p0.Burns.getD i1 default).Minutes.Hi),.int .i64 ((p0.Burns.getD i1 default).Known),.int .i64 ((p0.Burns.getD i1 default).Until)],.rp [.int .i64 (p1)]]) (fun x0 r h=>by cases h;exact zjo x0 (p0.Burns.getD i1 default) p1) (zbf hy7 hW))) .nil)) (At.kp [2,3,5,6,9,14,15,16,48] [2,3,12] ?_)
   refine At.zad (W.co H rfl (fun hb8 H=>?_) (fun hb8 H=>?_))
   · refine At.zqg 12 3053 y3 rfl rfl ?_
     obtain ⟨hc9,H⟩:=zab H
     refine W.region env [] [] rfl rfl rfl (.cons (⟨rfl,rfl⟩) (.cons (rmI hc9) (.cons rfl .nil))) .nil (At.kp [2,3,5,14,15,16] [2,3,12,3053] ?_)
     refine At.zbY (.cons (.refl _) (.cons (.refl _) (.cons (.refl _) (.cons (y:=bufL 3 1 zaa (((s1.get y3).getD [])++([(i1:Int)]:List Int))) (BSim.seg (Seg.push (Seg.refl zaa _) (Seg.lit (f:=zaa) (sz:=1) ([(i1:Int)]:List Int) rfl rfl (fun _=>rfl)))) .nil)))) ?_
     refine At.zrm 12 3053 y3 rfl rfl (by first|rfl|(simp;done)|omega|(simp;omega)) ?_
     refine At.kp [2,3,5,14,15,16] [2,3,12] ?_
     refine At.inb (At.zad (W.region env [] [] rfl rfl rfl (.cons (incD hi1 hn1) .nil) .nil (At.kp [2,3,5,14,15,16] [2,3,12] ?_)))
     refine At.zaG (At.kp [2,3,5,14,15,16] [2,3,12] ?_)
     exact At.conv (.cons .q (.cons .q (.cons .q (.cons .q (.cons .qi (.cons .qi .nil)))))) (.cons .q (.cons .q (.cons .q .nil))) (hK1 hi1 (s1.set y3 (((s1.get y3).getD [])++([(i1:Int)]:List Int))) H)
   · refine W.skip (At.inb (At.zad (W.region env [] [] rfl rfl rfl (.cons (incD hi1 hn1) .nil) .nil (At.kp [2,3,5,14,15,16] [2,3,12] ?_))))
     refine At.zaG (At.kp [2,3,5,14,15,16] [2,3,12] ?_)
     exact At.conv (.cons .q (.cons .q (.cons .q (.cons .q (.cons .qi (.cons .qi .nil)))))) (.cons .q (.cons .q (.cons .q .nil))) (hK1 hi1 s1 H)
 · have H:=H2 (geD hb2)
   refine W.exit (At.xthen (At.xthen (At.xhere (At.zad (W.seq (W.seq (At.zqh 12 (K:=[2]) (ts:=[2,5]) rfl rfl (fun _=>rfl) rfl (fun _ h=>h) (fun hd10=>?_))))))))
   refine W.region env [] [] rfl rfl rfl .nil .nil (At.kp [2,5,59] [2,12,59] ?_)
   refine At.zad (W.block (At.zsk 2 (K:=[12,59]) (ts:=[2,5,59]) rfl rfl rfl rfl rfl (fun _ h=>h) ?_))
   obtain ⟨hok11,H⟩:=zab H
   obtain ⟨y11,hy11,H⟩:=zac H
   refine At.kp [2,5,59] [59,12] ?_
   refine At.zlJ 59 rfl (fun left hleft=>?_)
   refine At.kp [2,5,59] [59,12] ?_
   have hsp11:=Mp.zny hy11 hok11 hleft
   refine W.zlK (S:=List Int) 59 (fun k=>.raw (hd10 k)) (fun left (s11:List Int)=>left=s11∧left.Nodup∧∀ k,k∈left→(s1.get k).isSome=true) (fun _=>[(2,.rp (zav p0)),(5,romR hd10 s1),(59,.lp 59 0)]) (fun s11=>[(12,zhE 3 1 zaa hd10 (s1.mix y11 s11) none)]) (s0:=left) ⟨rfl,hleft.1,fun k hk=>(hleft.2.2 k).2 hk⟩ (.cons (.refl _) (.cons (.refl _) (.cons (.refl _) .nil))) (.cons (.refl _) (.cons (BSim.zpA hleft.2.2 hsp11.2.2.1) .nil)) (fun left11 s11 HJ11 K hK11=>?_)
   obtain ⟨hs11,hnd11,hkd11⟩:=HJ11
   subst hs11
   refine W.seq (W.next rfl rfl rfl rfl rfl rfl rfl rfl rfl rfl rfl (fun hz=>?_) (fun q11 left2 hp11=>?_))
   · subst hz
     refine At.kp [2,5,61] [12] ?_
     refine At.zbY (.cons BSim.zr2 .nil) ?_
     refine At.znr 12 5 (m:=s1) (K:=[]) (ts:=[2,61]) rfl rfl rfl hsp11.1 (Mp.dom_of hsp11.2.2.1 (fun k l h=>by obtain ⟨r,_,hr⟩:=hsp11.2.2.2 k l h;exact ⟨r,hr⟩)) rfl rfl (fun _ h=>h) ?_
     refine At.zad (W.seq (W.cond rfl (fun hb15=>by cases hb15) (fun hb15=>?_)))
     refine W.exit (At.xthen (At.xthen (At.xhere (At.zad (W.rg env [4] [] ?_)))))
     refine W.ret ?_
     cases H
     exact At.rz env hval
   · obtain ⟨l11,hl11⟩:=Option.isSome_iff_exists.1 (hkd11 q11 (hp11.mem_iff.2 (List.mem_cons_self ..)))
     obtain ⟨rr11,H,hyk11⟩:=hsp11.2.2.2 q11 l11 hl11
     refine At.zad (W.seq (W.cond rfl (fun hb12=>?_) (fun hb12=>by cases hb12)))
     refine W.skip (At.zad (W.block (W.rg env [2,5,11,59] [12,59] ?_)))
     refine At.zpz 12 4059 11 q11 rfl rfl rfl ((Mp.zpV (hp11.mem_iff.2 (List.mem_cons_self ..))).trans hl11) ?_
     obtain ⟨y13,hy14,H⟩:=zac H
     refine W.region env [] [⟨.tup [],[(4059,bufL 3 1 zaa y13)],0,[4059]⟩] rfl rfl (by kernel_rfl) .nil (.free (CtrO.sim (CtrO.ren (zeN fuel l11 (fun x0 x1=>zbU x0 x1 p0) 117 [] ([.rp (zav p0)]) (fun x0 x1 r h=>zjn x0 x1 p0 h) hy14) [(90000,4059)]) (.cons .qc (.cons (Sim.fnClo rfl) .nil)) (.cons (.refl _) .nil)) .nil) (At.kp [2,5,59] [12,59,4059] ?_)
     refine At.inb ?_
     obtain ⟨hlen11,H⟩:=zab H
     cases H
     refine At.zaG (At.kp [2,5,59] [59,12,4059] ?_)
     refine At.zq1 12 4059 q11 (y:=y11) rfl rfl hp11 hnd11 hl11 (by first|rfl|(simp;done)|omega|(simp;omega)) hyk11 hlen11 ?_
     refine At.kp [2,5,59] [59,12] ?_
     exact At.conv (.cons (.refl _) (.cons (.refl _) (.cons (.refl _) .nil))) (.cons (.refl _) (.cons (.refl _) .nil)) (hK11 _ left2 left2 hp11 ⟨rfl,(List.nodup_cons.1 (hp11.nodup_iff.1 hnd11)).2,fun k hk=>hkd11 k (hp11.mem_iff.2 (List.mem_cons_of_mem _ hk))⟩)
theorem znf (p0:(List mantle_sight)) {r:(List mantle_sight)} (H:zb1 p0=some r):Ctr Tryz.prog 118 [roL 2 zaz p0] (roL 2 zaz r):=by
 unfold zb1 at H
 refine Ctr.ob Tryz.func118 Tryz.ntmps118 (fun w0 h0 hval=>?_)
 refine W.rg env [0] [] ?_
 refine W.seq (W.rg env [0,4] [] ?_)
 refine W.zik rfl (fun hz=>?_) ?_
 · obtain rfl:p0=[]:=List.length_eq_zero_iff.1 hz
   obtain ⟨hc1,H⟩:=zab H
   refine W.rg env [2] [] ?_
   refine W.ret (At.rthen ?_)
   cases H
   exact At.ret env.ty rfl rfl nofun (Sim.nil _ _) hval
 · refine W.skip (At.zad (W.seq ?_))
   obtain ⟨hc1,H⟩:=zab H
   refine W.region env [5] [] rfl rfl rfl (.cons (rmI hc1) .nil) .nil (At.kp [2] [5] ?_)
   refine At.zbY (.cons (y:=bufL 153 2 zaz (([]:List mantle_sight)++p0)) (BSim.seg (Seg.push (Seg.lit (f:=zaz) (sz:=2) ([]:List mantle_sight) rfl rfl (fun _=>rfl)) (Seg.refl zaz p0))) .nil) ?_
   refine At.zad (W.ret ?_)
   cases H
   exact At.ret env.ty rfl rfl (fun q hq=>by cases hq;exact (by first|rfl|(simp;done)|omega|(simp;omega))) (.refl _) hval
theorem zgL (p0:(List mantle_sight)) {r:(List mantle_sight)} (H:zb1 p0=some r):CtrO Tryz.prog 118 [roL 2 zaz p0] [] (.buf 900 r.length) [(900,bufL 153 2 zaz r)]:=by
 unfold zb1 at H
 refine CtrO.zcU (N:=8) Tryz.func118 (by kernel_rfl) (c:=_) rfl Tryz.ntmps118 rfl (fun w0 h0 ρb hval hdom=>?_)
 refine W.rg env [0] [] ?_
 refine W.seq (W.rg env [0,4] [] ?_)
 refine W.zik rfl (fun hz=>?_) ?_
 · obtain rfl:p0=[]:=List.length_eq_zero_iff.1 hz
   obtain ⟨hc1,H⟩:=zab H
   refine W.rg env [2] [] ?_
   refine W.ret (At.rthen ?_)
   cases H
   refine At.zht 2 800 153 2 (e:=fun i=>zaz (([]:List mantle_sight).getD i default)) rfl rfl ?_
   exact At.retK env.ty [800] 100 rfl rfl rfl rfl (.cons (.refl _) .nil) (.of_eq (by refine zkR ?_;first|(simp [zeo];done)|omega|(simp [zeo];omega)|rfl)) hval hdom rfl
 · refine W.skip (At.zad (W.seq ?_))
   obtain ⟨hc1,H⟩:=zab H
   refine W.region env [5] [] rfl rfl rfl (.cons (rmI hc1) .nil) .nil (At.kp [2] [5] ?_)
   refine At.zbY (.cons (y:=bufL 153 2 zaz (([]:List mantle_sight)++p0)) (BSim.seg (Seg.push (Seg.lit (f:=zaz) (sz:=2) ([]:List mantle_sight) rfl rfl (fun _=>rfl)) (Seg.refl zaz p0))) .nil) ?_
   refine At.zad (W.ret ?_)
   cases H
   exact At.retK env.ty [5] 895 rfl rfl rfl rfl (.cons (.refl _) .nil) (.of_eq (by refine zkR ?_;first|(simp [zeo];done)|omega|(simp [zeo];omega)|rfl)) hval hdom rfl
theorem zdX (p0:mantle_coat) (p1:mantle_sight) {r:mantle_coat} (H:zbQ p0 p1=some r):Ctr Tryz.prog 81 [.agg (zat p0),.agg [.int .i64 (p1.night),.bool (p1.bad)]] (.agg (zat r)):=by
 unfold zbQ at H
 refine Ctr.ob Tryz.func81 Tryz.ntmps81 (fun w0 h0 hval=>?_)
 refine W.rg env [2,3,4] [2,3,4] ?_
 refine W.seq ?_
 obtain ⟨y1,hy2,H⟩:=zac H
 obtain ⟨hc3,H⟩:=zab H
 refine W.region env [] [⟨.buf 900 y1.length,[(900,bufL 153 2 zaz y1)],8000,[]⟩] rfl rfl (by kernel_rfl) (.cons (rmI hc3) .nil) (.free ((Ctr.ofO (zgL p0.sights hy2))) .nil) (At.kp [2,4] [2,4,8900] ?_)
 refine At.zbY (.cons (.refl _) (.cons (.refl _) (.cons (y:=bufL 153 2 zaz (y1++([p1]:List mantle_sight))) (BSim.seg (Seg.push (Seg.refl zaz _) (Seg.lit (f:=zaz) (sz:=2) ([p1]:List mantle_sight) rfl rfl (fun _=>rfl)))) .nil))) ?_
 refine At.zad (W.rg env [4] [4,8900] ?_)
 refine W.ret ?_
 cases H
 exact At.ret env.ty rfl rfl (fun q hq=>by cases hq;exact (by first|rfl|(simp;done)|omega|(simp;omega))) (.refl _) hval
theorem zeR (p0:mantle_closet):Ctr Tryz.prog 82 [.agg [roL 3 zaA p0.w.Batches,roL 6 zau p0.w.Mantles,roL 7 zaL p0.w.Burns,roL 6 zaD p0.w.Looks,.int .i64 (p0.known),romL zz6 zah p0.coats,.one]] (.clo (.func 119) [] [.rp [roL 3 zaA p0.w.Batches,roL 6 zau p0.w.Mantles,roL 7 zaL p0.w.Burns,roL 6 zaD p0.w.Looks,.int .i64 (p0.known),romL zz6 zah p0.coats,.one]]):=by
 refine Ctr.ob Tryz.func82 Tryz.ntmps82 (fun w0 h0 hval=>?_)
 refine W.rg env [1] [1] ?_
 refine W.rg env [2] [1] ?_
 exact W.ret (At.ret env.ty rfl rfl nofun (.refl _) hval)
theorem zeh (c0:mantle_closet) {r:List (Int×mantle_coat)} (H:zbq c0=some r):Iter Tryz.prog 119 [.rp [roL 3 zaA c0.w.Batches,roL 6 zau c0.w.Mantles,roL 7 zaL c0.w.Burns,roL 6 zaD c0.w.Looks,.int .i64 (c0.known),romL zz6 zah c0.coats,.one]] (r.map (fun (x:Int×mantle_coat)=>[.int .i64 (x.1),.agg (zat x.2)])):=by
 unfold zbq at H
 have hYl:=Yl.start r
 skip
 refine Iter.zq9 (N:=20) Tryz.func119 (by kernel_rfl) (c:=_) rfl Tryz.ntmps119 rfl (fun w0 h0 lp J hJ hval hY=>?_)
 refine W.rg env [0,1,7,8] [] ?_
 refine W.block (At.kp [0,1,7,8] [] ?_)
 obtain ⟨hn1,H⟩:=zab H
 refine W.zq4 H hYl (fun i1 (s1:Unit)=>[(0,.fn (.yield lp) [] []),(1,.pin h0 (.rp [roL 3 zaA c0.w.Batches,roL 6 zau c0.w.Mantles,roL 7 zaL c0.w.Burns,roL 6 zaD c0.w.Looks,.int .i64 (c0.known),romL zz6 zah c0.coats,.one])),(7,.int .i64 (((c0.w.Mantles.length:Nat):Int))),(8,.int .i64 ((i1:Int)))]) (fun i1 (s1:Unit)=>[]) (.cons .q (.cons .q (.cons .qi (.cons .qi .nil)))) .nil (fun k1 i1 s1 g r hle1 hYl H1 H2 K0 hK1=>?_)
 refine W.rg env [0,1,7,8,9] [] ?_
 refine W.seq (W.cond rfl (fun hb2=>?_) (fun hb2=>?_))
 · have hi1:i1<c0.w.Mantles.length:=ltD hb2
   have H:=H1 hi1
   refine W.skip (At.zad (W.seq (W.block (W.rg env [0,1,3,7,8] [] ?_))))
   refine W.seq (W.zq3 env hY [] 6 [] [] rfl rfl rfl rfl rfl rfl rfl (.cons (.gr rfl) (.cons .pin .nil)) (fun b=>rfl) rfl (.cons rfl .nil) .nil .nil (fun b=>.nil) (fun b=>.nil) (Yl.item (fun (x:Int×mantle_coat)=>[.int .i64 (x.1),.agg (zat x.2)]) H hYl rfl) (fun b g1 hg2=>?_))
   refine At.kp [0,1,7,8,18] [] ?_
   refine At.zad ?_
   cases b
   · obtain rfl:g1=0:=hg2
     refine W.cond rfl (fun hb=>?_) (fun hb=>?_)
     · refine W.ret (At.rinb ?_)
       refine At.rthen ?_
       refine At.rthen ?_
       refine At.rinb ?_
       exact At.iret rfl (.inl rfl) hval
     · exact absurd hb (by simp)
   · refine W.cond rfl (fun hb=>?_) (fun hb=>?_)
     · exact absurd hb (by simp)
     · obtain ⟨r,H,hYl⟩:=Yl.next H hYl (fun h=>by cases h) (fun _=>hg2)
       refine W.skip (At.inb (At.zad (W.region env [] [] rfl rfl rfl (.cons (incD hi1 hn1) .nil) .nil (At.kp [0,1,7,8] [] ?_))))
       refine At.zaG (At.kp [0,1,7,8] [] ?_)
       exact At.conv (.cons .q (.cons .q (.cons .qi (.cons .qi .nil)))) .nil (hK1 hi1 () _ _ hYl H)
 · have H:=H2 (geD hb2)
   refine W.exit (At.xthen (At.xthen (At.xhere (At.zqc ?_))))
   exact At.iret rfl (.inr (Yl.fin (fun (x:Int×mantle_coat)=>[.int .i64 (x.1),.agg (zat x.2)]) H hYl)) hval
theorem zhR (p0:mantle_coat) {r:(Int×Int)} (H:zcL p0=some r):Ctr Tryz.prog 121 [.agg (zat p0)] (.tup [.int .i64 (r.1),.int .i64 (r.2)]):=by
 unfold zcL at H
 refine Ctr.ob Tryz.func121 Tryz.ntmps121 (fun w0 h0 hval=>?_)
 refine W.rg env [1] [1] ?_
 refine W.rg env [1,2,3] [1] ?_
 refine W.seq (W.rg env [2,3,7,8,9] [] ?_)
 refine W.block (At.kp [2,3,7,8,9] [] ?_)
 refine W.len (t:=7) rfl (fun hn1=>?_)
 refine W.zak H (fun i1 (s1:Int×Int)=>[(2,.int .i64 (s1.1)),(3,.int .i64 (s1.2)),(7,roL 2 zaz p0.sights),(8,.int .i64 (((p0.sights.length:Nat):Int))),(9,.int .i64 ((i1:Int)))]) (fun i1 (s1:Int×Int)=>[]) (.cons .qi (.cons .qi (.cons .q (.cons .qi (.cons .qi .nil))))) .nil (fun k1 i1 s1 hle1 H1 H2 K0 hK1=>?_)
 refine W.rg env [2,3,7,8,9,10] [] ?_
 refine W.seq (W.cond rfl (fun hb2=>?_) (fun hb2=>?_))
 · have hi1:i1<p0.sights.length:=ltD hb2
   have H:=H1 hi1
   refine W.skip (At.zad (W.seq (W.block (W.sr env [] [] [2,3,5,7,8,9] [5] rfl rfl rfl (.cons (inD hi1) .nil) .nil ?_))))
   refine W.block (W.rg env [2,3,5,7,8,9,13] [5] ?_)
   refine W.co H rfl (fun hb3 H=>?_) (fun hb3 H=>?_)
   · refine W.region env [] [] rfl rfl rfl .nil .nil (At.kp [2,3,7,8,9] [] ?_)
     refine At.inb (At.inb (At.zad (W.region env [] [] rfl rfl rfl (.cons (incD hi1 hn1) .nil) .nil (At.kp [2,3,7,8,9] [] ?_))))
     refine At.zaG (At.kp [2,3,7,8,9] [] ?_)
     exact At.conv (.cons .qi (.cons .qi (.cons .q (.cons .qi (.cons .qi .nil))))) .nil (hK1 hi1 ((max s1.1 ((p0.sights.getD i1 default).night)),s1.2) H)
   · refine W.sr env [] [] [2,3,5,7,8,9,21] [5] rfl rfl rfl (.cons id (.cons id (.cons id (.cons (fun h=>by rw [h];rfl) .nil)))) .nil ?_
     refine W.co H rfl (fun hb4 H=>?_) (fun hb4 H=>?_)
     · refine W.region env [] [] rfl rfl rfl .nil .nil (At.kp [2,3,7,8,9] [] ?_)
       refine At.inb (At.inb (At.zad (W.region env [] [] rfl rfl rfl (.cons (incD hi1 hn1) .nil) .nil (At.kp [2,3,7,8,9] [] ?_))))
       refine At.zaG (At.kp [2,3,7,8,9] [] ?_)
       exact At.conv (.cons .qi (.cons .qi (.cons .q (.cons .qi (.cons .qi .nil))))) .nil (hK1 hi1 (s1.1,(p0.sights.getD i1 default).night) H)
     · refine W.skip (At.inb (At.inb (At.zad (W.region env [] [] rfl rfl rfl (.cons (incD hi1 hn1) .nil) .nil (At.kp [2,3,7,8,9] [] ?_)))))
       refine At.zaG (At.kp [2,3,7,8,9] [] ?_)
       exact At.conv (.cons .qi (.cons .qi (.cons .q (.cons .qi (.cons .qi .nil))))) .nil (hK1 hi1 (s1.1,s1.2) H)
 · have H:=H2 (geD hb2)
   refine W.exit (At.xthen (At.xthen (At.xhere (At.zad (W.rg env [2,3] [] ?_)))))
   refine W.ret ?_
   cases H
   exact At.rz env hval
theorem zcZ (p0:mantle_coat) (p1:Int) (p2:Int) {r:Range} (H:zbn p0 p1 p2=some r):Ctr Tryz.prog 64 [.agg (zat p0),.int .i64 (p1),.int .i64 (p2)] (.agg [.int .i64 (r.Lo),.int .i64 (r.Hi)]):=by
 unfold zbn at H
 refine Ctr.ob Tryz.func64 Tryz.ntmps64 (fun w0 h0 hval=>?_)
 refine W.rg env [1,2,3,6] [3,6] ?_
 refine W.rg env [1,2,3,6,7] [3,6,7] ?_
 refine W.seq (W.rg env [1,2,3,6,7,12,13,14] [3,6,7] ?_)
 refine W.block (At.kp [1,2,3,6,7,12,13,14] [3,6,7] ?_)
 refine W.len (t:=12) rfl (fun hn1=>?_)
 refine W.zak H (fun i1 (s1:Range)=>[(1,.int .i64 (p1)),(2,.int .i64 (p2)),(3,.lp 3 0),(6,.lp 6 0),(7,.lp 7 0),(12,roL 1 zaa p0.burns),(13,.int .i64 (((p0.burns.length:Nat):Int))),(14,.int .i64 ((i1:Int)))]) (fun i1 (s1:Range)=>[(3,.cells (zat p0)),(6,.cells [.int .i64 (0),.int .i64 (0)]),(7,.cells [.int .i64 (s1.Lo),.int .i64 (s1.Hi)])]) (.cons .qi (.cons .qi (.cons .q (.cons .q (.cons .q (.cons .q (.cons .qi (.cons .qi .nil)))))))) (.cons .q (.cons .q (.cons .q .nil))) (fun k1 i1 s1 hle1 H1 H2 K0 hK1=>?_)
 refine W.rg env [1,2,3,6,7,12,13,14,15] [3,6,7] ?_
 refine W.seq (W.cond rfl (fun hb2=>?_) (fun hb2=>?_))
 · have hi1:i1<p0.burns.length:=ltD hb2
   have H:=H1 hi1
   refine W.skip (At.zad (W.seq (W.block (W.sr env [] [] [1,2,3,6,7,9,12,13,14] [3,6,7] rfl rfl rfl (.cons (inD hi1) .nil) .nil ?_))))
   obtain ⟨hc3,H⟩:=zab H
   refine W.sr env [] [] [1,2,3,6,7,10,12,13,14] [3,6,7,10] rfl rfl rfl (.cons hc3 .nil) .nil ?_
   refine W.sr env [] [] [1,2,3,6,7,10,12,13,14,33] [3,6,7,10] rfl rfl rfl (.cons id (.cons id (.cons id (.cons id .nil)))) .nil ?_
   refine W.co H rfl (fun hb4 H=>?_) (fun hb4 H=>?_)
   · obtain ⟨hc5,H⟩:=zab H
     refine W.sr env [] [] [1,2,3,6,7,10,12,13,14] [3,6,7,10] rfl rfl rfl (.cons hc5 .nil) .nil ?_
     obtain ⟨hc6,H⟩:=zab H
     refine W.r1 env hc6 [1,2,3,6,7,12,13,14] [3,6,7] ?_
     refine At.inb (At.zad (W.region env [] [] rfl rfl rfl (.cons (incD hi1 hn1) .nil) .nil (At.kp [1,2,3,6,7,12,13,14] [3,6,7] ?_)))
     refine At.zaG (At.kp [1,2,3,6,7,12,13,14] [3,6,7] ?_)
     exact At.conv (.cons .qi (.cons .qi (.cons .q (.cons .q (.cons .q (.cons .q (.cons .qi (.cons .qi .nil)))))))) (.cons .q (.cons .q (.cons .q .nil))) (hK1 hi1 (⟨(s1.Lo+(p0.w.Burns.getD ((p0.burns.getD i1 default)).toNat default).Minutes.Lo),(s1.Hi+(p0.w.Burns.getD ((p0.burns.getD i1 default)).toNat default).Minutes.Hi)⟩:Range) H)
   · refine W.skip (At.inb (At.zad (W.region env [] [] rfl rfl rfl (.cons (incD hi1 hn1) .nil) .nil (At.kp [1,2,3,6,7,12,13,14] [3,6,7] ?_))))
     refine At.zaG (At.kp [1,2,3,6,7,12,13,14] [3,6,7] ?_)
     exact At.conv (.cons .qi (.cons .qi (.cons .q (.cons .q (.cons .q (.cons .q (.cons .qi (.cons .qi .nil)))))))) (.cons .q (.cons .q (.cons .q .nil))) (hK1 hi1 s1 H)
 · have H:=H2 (geD hb2)
   refine W.exit (At.xthen (At.xthen (At.xhere (At.zad (W.rg env [6] [6] ?_)))))
   refine W.ret ?_
   cases H
   exact At.rz env hval
theorem zdG (p0:mantle_coat) {r:Range} (H:zbA p0=some r):Ctr Tryz.prog 84 [.agg (zat p0)] (.agg [.int .i64 (r.Lo),.int .i64 (r.Hi)]):=by
 unfold zbA at H
 refine Ctr.ob Tryz.func84 Tryz.ntmps84 (fun w0 h0 hval=>?_)
 refine W.rg env [1,2] [1,2] ?_
 refine W.rg env [1,2,3] [1,2,3] ?_
 refine W.seq ?_
 obtain ⟨y1,hy2,H⟩:=zac H
 refine W.region env [] [⟨.tup [.int .i64 (y1.1),.int .i64 (y1.2)],[],0,[]⟩] rfl rfl rfl .nil (.free (zhR p0 hy2) .nil) (At.kp [1,2,3,4,5] [1,2,3] ?_)
 refine At.zad (W.seq (W.rg env [1,2,3,4,5,13] [1,2,3] ?_))
 refine W.zkK H (fun (s3:Int)=>[(1,.lp 1 0),(2,.lp 2 0),(3,.lp 3 0),(4,.int .i64 (y1.1)),(5,.int .i64 (y1.2))]) (fun (s3:Int)=>[(1,.cells (zat p0)),(2,.cells [.int .i64 (0),.int .i64 (0)]),(3,.cells [.int .i64 (s3),.int .i64 (1000000)])]) (fun s3 H=>?_) (fun k3 H hK3=>?_)
 · refine W.seq (W.rg env [1,2,3,4,5,20] [1,2,3] ?_)
   refine W.zkK H (fun (s4:Int)=>[(1,.lp 1 0),(2,.lp 2 0),(3,.lp 3 0),(4,.int .i64 (y1.1)),(5,.int .i64 (y1.2))]) (fun (s4:Int)=>[(1,.cells (zat p0)),(2,.cells [.int .i64 (0),.int .i64 (0)]),(3,.cells [.int .i64 (s3),.int .i64 (s4)])]) (fun s4 H=>?_) (fun k4 H hK4=>?_)
   · refine W.seq (W.seq ?_)
     obtain ⟨y5,hy6,H⟩:=zac H
     refine W.region env [] [⟨.agg [.int .i64 (y5.Lo),.int .i64 (y5.Hi)],[],0,[]⟩] rfl rfl rfl (.cons id (.cons id (.cons id (.cons id (.cons id (.cons id (.cons id (.cons id (.cons id (.cons id (.cons id (.cons (fun hW h=>by revert hW h;first|(simp +contextual;done)|grind) (.cons id .nil))))))))))))) (.on (fun hW=>zcZ p0 y1.1 y1.2 (zbf hy6 hW)) .nil) (At.kp [2,3,48] [2,3] ?_)
     refine At.zad (W.co H rfl (fun hb7 H=>?_) (fun hb7 H=>?_))
     · refine W.rg env [2] [2] ?_
       refine W.ret (At.rthen ?_)
       cases H
       exact At.rz env hval
     · refine W.skip (At.zad (W.rg env [2] [2] ?_))
       refine W.ret ?_
       cases H
       exact At.rz env hval
   · refine W.co H rfl (fun hb8 H=>?_) (fun hb8 H=>?_)
     · obtain ⟨y9,hy10,H⟩:=zac H
       obtain ⟨hc11,H⟩:=zab H
       refine W.region env [] [⟨.agg [.int .i64 (y9.Lo),.int .i64 (y9.Hi)],[],0,[]⟩] rfl rfl (by kernel_rfl) (.cons hc11 .nil) (.free (zcZ p0 (-1) y1.2 hy10) .nil) (At.kp [1,2,3,4,5] [1,2,3] ?_)
       refine At.zaG (At.kp [1,2,3,4,5] [1,2,3] ?_)
       exact At.conv (.cons .q (.cons .q (.cons .q (.cons .qi (.cons .qi .nil))))) (.cons .q (.cons .q (.cons .q .nil))) (hK4 (min 1000000 (y9.Hi - 1)) H)
     · refine W.skip (At.zaG (At.kp [1,2,3,4,5] [1,2,3] ?_))
       exact At.conv (.cons .q (.cons .q (.cons .q (.cons .qi (.cons .qi .nil))))) (.cons .q (.cons .q (.cons .q .nil))) (hK4 1000000 H)
 · refine W.co H rfl (fun hb12 H=>?_) (fun hb12 H=>?_)
   · obtain ⟨y13,hy14,H⟩:=zac H
     refine W.region env [] [⟨.agg [.int .i64 (y13.Lo),.int .i64 (y13.Hi)],[],0,[]⟩] rfl rfl rfl .nil (.free (zcZ p0 (-1) y1.1 hy14) .nil) (At.kp [1,2,3,4,5] [1,2,3] ?_)
     refine At.zaG (At.kp [1,2,3,4,5] [1,2,3] ?_)
     exact At.conv (.cons .q (.cons .q (.cons .q (.cons .qi (.cons .qi .nil))))) (.cons .q (.cons .q (.cons .q .nil))) (hK3 y13.Lo H)
   · refine W.skip (At.zaG (At.kp [1,2,3,4,5] [1,2,3] ?_))
     exact At.conv (.cons .q (.cons .q (.cons .q (.cons .qi (.cons .qi .nil))))) (.cons .q (.cons .q (.cons .q .nil))) (hK3 0 H)
theorem zgg (p0:Range) (p1:Range):Ctr Tryz.prog 120 [.agg [.int .i64 (p0.Lo),.int .i64 (p0.Hi)],.agg [.int .i64 (p1.Lo),.int .i64 (p1.Hi)]] (.agg [.int .i64 ((zaT p0 p1).Lo),.int .i64 ((zaT p0 p1).Hi)]):=by
 obtain ⟨r,H⟩:∃ r,zaT p0 p1=r:=⟨_,rfl⟩
 rw [H]
 unfold zaT at H
 refine Ctr.ob Tryz.func120 Tryz.ntmps120 (fun w0 h0 hval=>?_)
 refine W.rg env [2,3,4] [2,3,4] ?_
 refine W.rg env [4] [4] ?_
 refine W.ret ?_
 cases H
 exact At.rz env hval
theorem zfg (p0:mantle_closet) (p1:Int) (p2:Range) {r:mantle_closet} (H:zbB p0 p1 p2=some r):CtrO Tryz.prog 83 [.agg [roL 3 zaA p0.w.Batches,roL 6 zau p0.w.Mantles,roL 7 zaL p0.w.Burns,roL 6 zaD p0.w.Looks,.int .i64 (p0.known),romL zz6 zah p0.coats,.buf 90000 (p0.lives).length],.int .i64 (p1),.agg [.int .i64 (p2.Lo),.int .i64 (p2.Hi)]] [(90000,bufL 52 2 zaI p0.lives)] (.tup []) [(90000,bufL 52 2 zaI r.lives)]:=by
 unfold zbB at H
 refine CtrL.zcU (N:=17) Tryz.func83 (by kernel_rfl) (c:=_) rfl Tryz.ntmps83 rfl rfl (fun w0 h0 ρb hval hdom hent=>?_)
 refine W.rg env [1,3,5] [3,5,90000] ?_
 obtain ⟨hc1,H⟩:=zab H
 obtain ⟨hc2,H⟩:=zab H
 refine W.region env [] [⟨.agg [.int .i64 ((zaT (p0.lives.getD (p1).toNat default) p2).Lo),.int .i64 ((zaT (p0.lives.getD (p1).toNat default) p2).Hi)],[],0,[]⟩] rfl rfl (by kernel_rfl) (.cons (⟨by first|rfl|(simp;done)|omega|(simp;omega),hc1⟩) (.cons (⟨by first|rfl|(simp;done)|omega|(simp;omega),(by have:=hc1;first|omega|(simp only [List.length_set];omega)|(simp only [Int.toNat_natCast] at *;omega)|(simp at this ⊢;omega))⟩) (.cons (⟨by first|rfl|(simp;done)|omega|(simp;omega),hc2⟩) (.cons (⟨by first|rfl|(simp;done)|omega|(simp;omega),(by have:=hc2;first|omega|(simp only [List.length_set];omega)|(simp only [Int.toNat_natCast] at *;omega)|(simp at this ⊢;omega))⟩) .nil)))) (.free (zgg (p0.lives.getD (p1).toNat default) p2) .nil) (At.kp [] [90000] ?_)
 refine At.zbY (.cons (y:=bufL 52 2 zaI (p0.lives.set (p1).toNat (zaT (p0.lives.getD (p1).toNat default) p2))) (BSim.seg (Seg.set (Seg.refl zaI _) (zaT (p0.lives.getD (p1).toNat default) p2) rfl)) .nil) ?_
 refine At.zd8 ?_
 cases H
 exact At.retL env.ty [90000] rfl rfl rfl rfl (.cons (.refl _) .nil) (.refl _) hval hdom hent rfl rfl
theorem zed (fuel:Nat) (p0:Wear) (p1:(List Look)) (p2:Int) {r:mantle_closet} (H:zcV fuel p0 p1 p2=some r):Ctr Tryz.prog 39 [.agg (zav p0),roL 6 zaD p1,.int .i64 (p2)] (.agg (zao r)):=by
 unfold zcV at H
 refine Ctr.ob Tryz.func39 Tryz.ntmps39 (fun w0 h0 hval=>?_)
 refine W.rg env [1,2,3,6] [3,6] ?_
 refine W.seq (W.region env [] [] rfl rfl rfl .nil .nil (At.kp [1,2,3,6,7] [3,6,7,19] ?_))
 refine At.zbY (.cons (.refl _) (.cons (.refl _) (.cons (.refl _) (.cons (y:=mapL zz6 zah (Mp.empty:Mp mantle_coat)) (BSim.zpS (f:=zah) (zhY.empty (f:=zah) (Sim.aggL (.cons (Sim.nil _ _) (.cons (Sim.nil _ _) (.cons (Sim.nil _ _) (.cons (Sim.nil _ _) (.cons (Sim.nil _ _) (.cons (Sim.nil _ _) .nil))))))))) .nil)))) ?_
 refine At.zad (W.seq ?_)
 obtain ⟨y1,hy2,H⟩:=zac H
 refine W.region env [] [⟨romL (.slice none 0 0) (fun (x:(List Int))=>roL 1 zaa x) y1,[],0,[]⟩] rfl rfl rfl .nil (.free (zkO fuel p0 p2 hy2) .nil) (At.kp [1,2,3,6,7,8] [3,6,7,19] ?_)
 refine At.zad (W.seq (W.rg env [1,2,3,6,7,8,26,27] [3,6,7,19] ?_))
 refine W.block (At.kp [1,2,3,6,7,8,26,27] [3,6,7,19] ?_)
 obtain ⟨hn3,H⟩:=zab H
 refine W.zak H (fun i3 (s3:(Mp mantle_coat))=>[(1,roL 6 zaD p1),(2,.int .i64 (p2)),(3,.lp 3 0),(6,.lp 6 0),(7,.lp 7 0),(8,romL (.slice none 0 0) (fun (x:(List Int))=>roL 1 zaa x) y1),(26,.int .i64 (((p0.Mantles.length:Nat):Int))),(27,.int .i64 ((i3:Int)))]) (fun i3 (s3:(Mp mantle_coat))=>[(3,.cells (zav p0)),(6,.cells [.nilS,.nilS,.nilS,.nilS,.int .i64 (0),.nilMap,.nilS]),(7,.cells [roL 3 zaA p0.Batches,roL 6 zau p0.Mantles,roL 7 zaL p0.Burns,roL 6 zaD p0.Looks,.int .i64 (p2),.mp 19,.nilS]),(19,mapL zz6 zah s3)]) (.cons .q (.cons .qi (.cons .q (.cons .q (.cons .q (.cons .q (.cons .qi (.cons .qi .nil)))))))) (.cons .q (.cons (BSim.cells (.cons Sim.o (.cons Sim.o (.cons Sim.o (.cons Sim.o (.cons .q (.cons .q (.cons Sim.o .nil)))))))) (.cons (BSim.cells (.cons .q (.cons .q (.cons .q (.cons .q (.cons .q (.cons .q (.cons Sim.o .nil)))))))) (.cons .q .nil)))) (fun k3 i3 s3 hle3 H1 H2 K0 hK3=>?_)
 refine W.rg env [1,2,3,6,7,8,26,27,28] [3,6,7,19] ?_
 refine W.seq (W.cond rfl (fun hb4=>?_) (fun hb4=>?_))
 · have hi3:i3<p0.Mantles.length:=ltD hb4
   have H:=H1 hi3
   refine W.skip (At.zad (W.seq (W.block (W.rg env [1,2,3,6,7,8,9,26,27] [3,6,7,19] ?_))))
   refine W.region env [] [] rfl rfl rfl (.cons rfl .nil) .nil (At.kp [1,2,3,6,7,8,26,27] [3,6,7,19] ?_)
   refine At.zbY (.cons (.refl _) (.cons (.refl _) (.cons (.refl _) (.cons (y:=mapL zz6 zah (s3.set (i3:Int) (⟨p0,((y1.get (i3:Int)).getD default),[]⟩:mantle_coat))) (BSim.zpS (f:=zah) (zhY.set (zhY.refl zah _) (⟨p0,((y1.get (i3:Int)).getD default),[]⟩:mantle_coat) (Sim.aggL (.cons (.refl _) (.cons (.refl _) (.cons (.refl _) (.cons (.refl _) (.cons (.refl _) (.cons (Sim.nil _ _) .nil))))))))) .nil)))) ?_
   refine At.inb (At.zad (W.region env [] [] rfl rfl rfl (.cons (incD hi3 hn3) .nil) .nil (At.kp [1,2,3,6,7,8,26,27] [3,6,7,19] ?_)))
   refine At.zaG (At.kp [1,2,3,6,7,8,26,27] [3,6,7,19] ?_)
   exact At.conv (.cons .q (.cons .qi (.cons .q (.cons .q (.cons .q (.cons .q (.cons .qi (.cons .qi .nil)))))))) (.cons .q (.cons (BSim.cells (.cons Sim.o (.cons Sim.o (.cons Sim.o (.cons Sim.o (.cons .q (.cons .q (.cons Sim.o .nil)))))))) (.cons (BSim.cells (.cons .q (.cons .q (.cons .q (.cons .q (.cons .q (.cons .q (.cons Sim.o .nil)))))))) (.cons .q .nil)))) (hK3 hi3 (s3.set (i3:Int) (⟨p0,((y1.get (i3:Int)).getD default),[]⟩:mantle_coat)) H)
 · have H:=H2 (geD hb4)
   refine W.exit (At.xthen (At.xthen (At.xhere (At.zad (W.seq (W.rg env [2,3,6,7,39,40,41] [3,6,7,19] ?_))))))
   refine W.block (At.kp [2,3,6,7,39,40,41] [3,6,7,19] ?_)
   refine W.len (t:=39) rfl (fun hn5=>?_)
   refine W.zak H (fun i5 (s5:(Mp mantle_coat))=>[(2,.int .i64 (p2)),(3,.lp 3 0),(6,.lp 6 0),(7,.lp 7 0),(39,roL 6 zaD p1),(40,.int .i64 (((p1.length:Nat):Int))),(41,.int .i64 ((i5:Int)))]) (fun i5 (s5:(Mp mantle_coat))=>[(3,.cells (zav p0)),(6,.cells [.nilS,.nilS,.nilS,.nilS,.int .i64 (0),.nilMap,.nilS]),(7,.cells [roL 3 zaA p0.Batches,roL 6 zau p0.Mantles,roL 7 zaL p0.Burns,roL 6 zaD p0.Looks,.int .i64 (p2),.mp 19,.nilS]),(19,mapL zz6 zah s5)]) (.cons .qi (.cons .q (.cons .q (.cons .q (.cons .q (.cons .qi (.cons .qi .nil))))))) (.cons .q (.cons (BSim.cells (.cons Sim.o (.cons Sim.o (.cons Sim.o (.cons Sim.o (.cons .q (.cons .q (.cons Sim.o .nil)))))))) (.cons (BSim.cells (.cons .q (.cons .q (.cons .q (.cons .q (.cons .q (.cons .q (.cons Sim.o .nil)))))))) (.cons .q .nil)))) (fun k5 i5 s5 hle5 H1 H2 K0 hK5=>?_)
   refine W.rg env [2,3,6,7,39,40,41,42] [3,6,7,19] ?_
   refine W.seq (W.cond rfl (fun hb6=>?_) (fun hb6=>?_))
   · have hi5:i5<p1.length:=ltD hb6
     have H:=H1 hi5
     refine W.skip (At.zad (W.seq (W.block (W.sr env [] [] [2,3,6,7,11,39,40,41] [3,6,7,11,19] rfl rfl rfl (.cons (inD hi5) .nil) .nil ?_))))
     refine W.seq ?_
     obtain ⟨y7,hy8,H⟩:=zac H
     refine W.region env [] [⟨.int .i64 (y7),[],0,[]⟩] rfl rfl rfl .nil (.free (zee p0 ((p1.getD i5 default).Lamp) ((p1.getD i5 default).Night) p2 hy8) .nil) (At.kp [2,3,6,7,11,12,39,40,41] [3,6,7,11,19] ?_)
     refine At.zad (W.sr env [] [⟨.bool ((zaq ((p1.getD i5 default).Known) ((p1.getD i5 default).Until) p2)),[],0,[]⟩] [2,3,6,7,11,12,39,40,41,61] [3,6,7,11,19] rfl rfl rfl (.cons id (.cons id (.cons id (.cons id (.cons id (.cons id .nil)))))) (.on (fun hW=>zef ((p1.getD i5 default).Known) ((p1.getD i5 default).Until) p2) .nil) ?_)
     refine W.co H rfl (fun hb9 H=>?_) (fun hb9 H=>?_)
     · obtain ⟨y10,hy11,H⟩:=zac H
       refine W.region env [] [⟨.agg (zat y10),[],0,[]⟩] rfl rfl (by kernel_rfl) (.cons rfl .nil) (.free (zdX ((s5.get y7).getD default) (⟨(p1.getD i5 default).Night,(p1.getD i5 default).Bad⟩:mantle_sight) hy11) .nil) (At.kp [2,3,6,7,39,40,41] [3,6,7,19] ?_)
       refine At.zbY (.cons (.refl _) (.cons (.refl _) (.cons (.refl _) (.cons (y:=mapL zz6 zah (s5.set y7 y10)) (BSim.mseg (f:=zah) (MSeg.set (MSeg.refl zah _) y10 rfl)) .nil)))) ?_
       refine At.inb (At.zad (W.region env [] [] rfl rfl rfl (.cons (incD hi5 hn5) .nil) .nil (At.kp [2,3,6,7,39,40,41] [3,6,7,19] ?_)))
       refine At.zaG (At.kp [2,3,6,7,39,40,41] [3,6,7,19] ?_)
       exact At.conv (.cons .qi (.cons .q (.cons .q (.cons .q (.cons .q (.cons .qi (.cons .qi .nil))))))) (.cons .q (.cons (BSim.cells (.cons Sim.o (.cons Sim.o (.cons Sim.o (.cons Sim.o (.cons .q (.cons .q (.cons Sim.o .nil)))))))) (.cons (BSim.cells (.cons .q (.cons .q (.cons .q (.cons .q (.cons .q (.cons .q (.cons Sim.o .nil)))))))) (.cons .q .nil)))) (hK5 hi5 (s5.set y7 y10) H)
     · refine W.skip (At.inb (At.zad (W.region env [] [] rfl rfl rfl (.cons (incD hi5 hn5) .nil) .nil (At.kp [2,3,6,7,39,40,41] [3,6,7,19] ?_))))
       refine At.zaG (At.kp [2,3,6,7,39,40,41] [3,6,7,19] ?_)
       exact At.conv (.cons .qi (.cons .q (.cons .q (.cons .q (.cons .q (.cons .qi (.cons .qi .nil))))))) (.cons .q (.cons (BSim.cells (.cons Sim.o (.cons Sim.o (.cons Sim.o (.cons Sim.o (.cons .q (.cons .q (.cons Sim.o .nil)))))))) (.cons (BSim.cells (.cons .q (.cons .q (.cons .q (.cons .q (.cons .q (.cons .q (.cons Sim.o .nil)))))))) (.cons .q .nil)))) (hK5 hi5 s5 H)
   · have H:=H2 (geD hb6)
     refine W.exit (At.xthen (At.xthen (At.xhere (At.zad (W.seq (W.rg env [3,6,7,77,78,79] [3,6,7,19] ?_))))))
     refine W.block (At.zer 7 6 956 52 2 (e:=fun i=>zaI (([]:List Range).getD i default)) rfl rfl rfl ?_)
     refine At.kp [3,6,7,77,78,79] [3,6,7,19,956] ?_
     refine W.len (t:=77) rfl (fun hn12=>?_)
     refine W.zak H (fun i12 (s12:(List Range))=>[(3,.lp 3 0),(6,.lp 6 0),(7,.lp 7 0),(77,roL 3 zaA p0.Batches),(78,.int .i64 (((p0.Batches.length:Nat):Int))),(79,.int .i64 ((i12:Int)))]) (fun i12 (s12:(List Range))=>[(3,.cells (zav p0)),(6,.cells [.nilS,.nilS,.nilS,.nilS,.int .i64 (0),.nilMap,.nilS]),(7,.cells [roL 3 zaA p0.Batches,roL 6 zau p0.Mantles,roL 7 zaL p0.Burns,roL 6 zaD p0.Looks,.int .i64 (p2),.mp 19,.buf 956 (s12).length]),(19,mapL zz6 zah s5),(956,bufL 52 2 zaI s12)]) (.cons .q (.cons .q (.cons .q (.cons .q (.cons .qi (.cons .qi .nil)))))) (.cons .q (.cons (BSim.cells (.cons Sim.o (.cons Sim.o (.cons Sim.o (.cons Sim.o (.cons .q (.cons .q (.cons Sim.o .nil)))))))) (.cons (BSim.cells (.cons .q (.cons .q (.cons .q (.cons .q (.cons .q (.cons .q (.cons .qc .nil)))))))) (.cons .q (.cons .q .nil))))) (fun k12 i12 s12 hle12 H1 H2 K0 hK12=>?_)
     refine W.rg env [3,6,7,77,78,79,80] [3,6,7,19,956] ?_
     refine W.seq (W.cond rfl (fun hb13=>?_) (fun hb13=>?_))
     · have hi12:i12<p0.Batches.length:=ltD hb13
       have H:=H1 hi12
       refine W.skip (At.zad (W.seq (W.block (W.sr env [] [] [3,6,7,14,77,78,79] [3,6,7,14,19,956] rfl rfl rfl (.cons (inD hi12) .nil) .nil ?_))))
       obtain ⟨hc14,H⟩:=zab H
       refine W.region env [] [] rfl rfl rfl (.cons (rmI hc14) .nil) .nil (At.kp [3,6,7,77,78,79] [3,6,7,19,956] ?_)
       refine At.zbY (.cons (.refl _) (.cons (.refl _) (.cons (.refl _) (.cons (.refl _) (.cons (y:=bufL 52 2 zaI (s12++([(p0.Batches.getD i12 default).Life]:List Range))) (BSim.seg (Seg.push (Seg.refl zaI _) (Seg.lit (f:=zaI) (sz:=2) ([(p0.Batches.getD i12 default).Life]:List Range) rfl rfl (fun _=>rfl)))) .nil))))) ?_
       refine At.inb (At.zad (W.region env [] [] rfl rfl rfl (.cons (incD hi12 hn12) .nil) .nil (At.kp [3,6,7,77,78,79] [3,6,7,19,956] ?_)))
       refine At.zaG (At.kp [3,6,7,77,78,79] [3,6,7,19,956] ?_)
       exact At.conv (.cons .q (.cons .q (.cons .q (.cons .q (.cons .qi (.cons .qi .nil)))))) (.cons .q (.cons (BSim.cells (.cons Sim.o (.cons Sim.o (.cons Sim.o (.cons Sim.o (.cons .q (.cons .q (.cons Sim.o .nil)))))))) (.cons (BSim.cells (.cons .q (.cons .q (.cons .q (.cons .q (.cons .q (.cons .q (.cons .qc .nil)))))))) (.cons .q (.cons .q .nil))))) (hK12 hi12 (s12++([(p0.Batches.getD i12 default).Life]:List Range)) H)
     · have H:=H2 (geD hb13)
       refine W.exit (At.xthen (At.xthen (At.xhere (At.zad (W.seq (W.seq (At.znI 19 (K:=[3,6,7,956]) (ts:=[3,6,7]) rfl rfl rfl rfl (fun _ h=>h) ?_)))))))
       refine W.region env [] [⟨.clo (.func 119) [] [.rp [roL 3 zaA p0.Batches,roL 6 zau p0.Mantles,roL 7 zaL p0.Burns,roL 6 zaD p0.Looks,.int .i64 (p2),romL zz6 zah s5,.one]],[],0,[100000956]⟩] rfl rfl rfl .nil (.free (zeR (⟨p0,p2,s5,[]⟩:mantle_closet)) .nil) (At.kp [3,6,7,92] [3,6,7,956] ?_)
       refine At.zad (W.block ?_)
       obtain ⟨it15,hit15,H⟩:=zac H
       refine At.kp [3,6,7,92] [3,6,7,956] ?_
       refine W.zhu H (fun (x:Int×mantle_coat)=>[.int .i64 (x.1),.agg (zat x.2)]) (zeh (⟨p0,p2,s5,[]⟩:mantle_closet) hit15) rfl (fun _=>rfl) rfl rfl rfl (fun (s16:(List Range))=>[(3,.cells (zav p0)),(6,.cells [.nilS,.nilS,.nilS,.nilS,.int .i64 (0),.nilMap,.nilS]),(7,.cells [roL 3 zaA p0.Batches,roL 6 zau p0.Mantles,roL 7 zaL p0.Burns,roL 6 zaD p0.Looks,.int .i64 (p2),romL zz6 zah s5,.buf 956 (s16).length]),(956,bufL 52 2 zaI s16)]) (.cons .q (.cons (BSim.cells (.cons Sim.o (.cons Sim.o (.cons Sim.o (.cons Sim.o (.cons .q (.cons .q (.cons Sim.o .nil)))))))) (.cons (BSim.cells (.cons .q (.cons .q (.cons .q (.cons .q (.cons .q (.cons .q (.cons .qc .nil)))))))) (.cons .q .nil)))) (fun (x15:Int×mantle_coat)=>[(3,.lp 3 0),(6,.lp 6 0),(7,.lp 7 0),(15,.int .i64 (x15.1)),(16,.lp 16 0)]) (fun (x15:Int×mantle_coat) (s16:(List Range))=>[(3,.cells (zav p0)),(6,.cells [.nilS,.nilS,.nilS,.nilS,.int .i64 (0),.nilMap,.nilS]),(7,.cells [roL 3 zaA p0.Batches,roL 6 zau p0.Mantles,roL 7 zaL p0.Burns,roL 6 zaD p0.Looks,.int .i64 (p2),romL zz6 zah s5,.buf 956 (s16).length]),(16,.cells (zat x15.2)),(956,bufL 52 2 zaI s16)]) (fun _ (_:Unit)=>False) (fun _ _=>[]) (fun _ _ h=>h.elim) hval (fun h1 vs gh st lp x15 s16 K hK=>?_) (fun k16 h1 vs gh st lp x15 s16 H Qr hQ16 hX16=>?_) (fun s16 H=>?_) (fun _ _ h=>h.elim)
       · refine W.rg env [3,6,7,15,94] [3,6,7,956] ?_
         refine W.region env [] [] rfl rfl rfl .nil .nil (At.kp [3,6,7,15,16] [3,6,7,16,956] ?_)
         refine At.zaG (At.kp [3,6,7,15,16] [3,6,7,16,956] ?_)
         exact hK
       · refine W.block ?_
         obtain ⟨hc17,H⟩:=zab H
         obtain ⟨y18,hy19,H⟩:=zac H
         obtain ⟨y20,hy21,H⟩:=zac H
         obtain ⟨y22,hy23,H⟩:=zac H
         obtain ⟨hc24,H⟩:=zab H
         refine W.region env [] [⟨.int .i64 (y18),[],0,[]⟩,⟨.agg [.int .i64 (y20.Lo),.int .i64 (y20.Hi)],[],0,[]⟩,⟨.tup [],[(956,bufL 52 2 zaI y22.lives)],0,[956]⟩] rfl rfl (by kernel_rfl) (.cons hc17 .nil) (.free (zdR p0 ((p0.Mantles.getD (x15.1).toNat default).Batch) hy19) (.free (zdG x15.2 hy21) (.free (CtrO.sim (CtrO.ren (zfg (⟨p0,p2,s5,s16⟩:mantle_closet) y18 y20 hy23) [(90000,956)]) (.cons (Sim.aggL (.cons (.refl _) (.cons (.refl _) (.cons (.refl _) (.cons (.refl _) (.cons (.refl _) (.cons (.refl _) (.cons .qc .nil)))))))) (.cons (.refl _) (.cons (.refl _) .nil))) (.cons (.refl _) .nil)) .nil))) (At.kp [6] [3,6,7,956] ?_)
         refine At.inb (At.kp [] [3,6,7,956] ?_)
         exact At.conv .nil (.cons .q (.cons (BSim.cells (.cons Sim.o (.cons Sim.o (.cons Sim.o (.cons Sim.o (.cons .q (.cons .q (.cons Sim.o .nil)))))))) (.cons (BSim.cells (.cons .q (.cons .q (.cons .q (.cons .q (.cons .q (.cons .q (.cons .qc .nil)))))))) (.cons .q .nil)))) (hQ16 y22.lives H)
       · refine At.inb (At.zad (W.rg env [6] [6,956] ?_))
         refine W.ret ?_
         cases H
         exact At.ret env.ty rfl rfl (fun q hq=>by cases hq;exact (by first|rfl|(simp;done)|omega|(simp;omega))) (.refl _) hval
theorem zm5 (fuel:Nat) (p0:Wear) (p1:Int) (p2:Int) (p3:Int) {r:(Range×Int)} (H:ziI fuel p0 p1 p2 p3=some r):Ctr Tryz.prog 18 [.agg (zav p0),.int .i64 (p1),.int .i64 (p2),.int .i64 (p3)] (.tup [.agg [.int .i64 (r.1.Lo),.int .i64 (r.1.Hi)],.int .i64 (r.2)]):=by
 unfold ziI at H
 refine Ctr.ob Tryz.func18 Tryz.ntmps18 (fun w0 h0 hval=>?_)
 refine W.rg env [1,2,3,4,8] [4,8] ?_
 refine W.seq ?_
 obtain ⟨y1,hy2,H⟩:=zac H
 refine W.region env [] [⟨.tup [.int .i64 (y1.1),.int .i64 (y1.2)],[],0,[]⟩] rfl rfl rfl .nil (.free (zgR p0 p1 p2 p3 hy2) .nil) (At.kp [2,3,4,8,10,11] [4,8] ?_)
 refine At.zad (W.seq (W.rg env [2,3,4,8,10,11,21] [4,8] ?_))
 refine W.co H rfl (fun hb3 H=>?_) (fun hb3 H=>?_)
 · refine W.rg env [8,9] [8] ?_
   refine W.ret (At.rthen ?_)
   cases H
   exact At.rz env hval
 · refine W.skip (At.zad (W.seq ?_))
   obtain ⟨y4,hy5,H⟩:=zac H
   obtain ⟨y6,hy7,H⟩:=zac H
   refine W.region env [] [⟨.agg (zao y4),[],0,[]⟩,⟨.agg [.int .i64 (y6.Lo),.int .i64 (y6.Hi)],[],0,[]⟩] rfl rfl rfl (.cons rfl .nil) (.free (Ctr.sim (.cons (.refl _) (.cons (Sim.nil _ _) (.cons (.refl _) .nil))) (zed fuel p0 [] p3 hy5)) (.free (zcZ ((y4.coats.get y1.1).getD default) (-1) p2 hy7) .nil)) (At.kp [8,9] [8] ?_)
   refine At.zad (W.ret ?_)
   cases H
   exact At.rz env hval
theorem zfL (p0:(List Range)) (p1:Range→Option Bool) (p1_g:Nat) (p1_a p1_b:List AV) (p1_h:∀ x0 r,p1 x0=some r→Ctr Tryz.prog p1_g (p1_a++([.agg [.int .i64 (x0.Lo),.int .i64 (x0.Hi)]]++p1_b)) (.bool (r))) {r:Int} (H:zc9 p0 p1=some r):Ctr Tryz.prog 124 [roL 2 zaI p0,.clo (.func p1_g) p1_a p1_b] (.int .i64 (r)):=by
 unfold zc9 at H
 refine Ctr.ob Tryz.func124 Tryz.ntmps124 (fun w0 h0 hval=>?_)
 refine W.rg env [0,1] [] ?_
 refine W.seq (W.rg env [0,1,7,8] [] ?_)
 refine W.block (At.kp [0,1,7,8] [] ?_)
 refine W.len (t:=0) rfl (fun hn1=>?_)
 refine W.zak H (fun i1 (s1:Unit)=>[(0,roL 2 zaI p0),(1,.clo (.func p1_g) p1_a p1_b),(7,.int .i64 (((p0.length:Nat):Int))),(8,.int .i64 ((i1:Int)))]) (fun i1 (s1:Unit)=>[]) (.cons .q (.cons .q (.cons .qi (.cons .qi .nil)))) .nil (fun k1 i1 s1 hle1 H1 H2 K0 hK1=>?_)
 refine W.rg env [0,1,7,8,9] [] ?_
 refine W.seq (W.cond rfl (fun hb2=>?_) (fun hb2=>?_))
 · have hi1:i1<p0.length:=ltD hb2
   have H:=H1 hi1
   refine W.skip (At.zad (W.seq (W.block (W.rg env [0,1,5,7,8] [] ?_))))
   refine W.seq ?_
   obtain ⟨y3,hy4,H⟩:=zac H
   refine W.region env [] [⟨.bool (y3),[],0,[]⟩] rfl rfl rfl (.cons (inD hi1) .nil) (.free (p1_h (p0.getD i1 default) _ hy4) .nil) (At.kp [0,1,5,7,8,16] [] ?_)
   refine At.zad (W.co H rfl (fun hb5 H=>?_) (fun hb5 H=>?_))
   · refine W.rg env [4] [] ?_
     refine W.ret (At.rinb ?_)
     refine At.rthen ?_
     refine At.rthen ?_
     refine At.rinb ?_
     refine At.rthen ?_
     cases H
     exact At.rz env hval
   · refine W.skip (At.inb (At.zad (W.region env [] [] rfl rfl rfl (.cons (incD hi1 hn1) .nil) .nil (At.kp [0,1,7,8] [] ?_))))
     refine At.zaG (At.kp [0,1,7,8] [] ?_)
     exact At.conv (.cons .q (.cons .q (.cons .qi (.cons .qi .nil)))) .nil (hK1 hi1 () H)
 · have H:=H2 (geD hb2)
   refine W.exit (At.xthen (At.xthen (At.xhere (At.zad (W.rg env [4] [] ?_)))))
   refine W.ret ?_
   cases H
   exact At.rz env hval
theorem zfb (p0:(List Range)) (p1:Range→Option Bool) (p1_g:Nat) (p1_a p1_b:List AV) (p1_h:∀ x0 r,p1 x0=some r→Ctr Tryz.prog p1_g (p1_a++([.agg [.int .i64 (x0.Lo),.int .i64 (x0.Hi)]]++p1_b)) (.bool (r))) {r:Bool} (H:zbS p0 p1=some r):Ctr Tryz.prog 93 [roL 2 zaI p0,.clo (.func p1_g) p1_a p1_b] (.bool (r)):=by
 unfold zbS at H
 refine Ctr.ob Tryz.func93 Tryz.ntmps93 (fun w0 h0 hval=>?_)
 refine W.rg env [0,1] [] ?_
 refine W.seq ?_
 obtain ⟨y1,hy2,H⟩:=zac H
 refine W.region env [] [⟨.int .i64 (y1),[],0,[]⟩] rfl rfl rfl .nil (.free (zfL p0 p1 p1_g p1_a p1_b p1_h hy2) .nil) (At.kp [4] [] ?_)
 refine At.zad (W.ret ?_)
 cases H
 exact At.rz env hval
theorem zfc (p0:Range):Ctr Tryz.prog 94 [.agg [.int .i64 (p0.Lo),.int .i64 (p0.Hi)]] (.bool ((zaW p0))):=by
 obtain ⟨r,H⟩:∃ r,zaW p0=r:=⟨_,rfl⟩
 rw [H]
 unfold zaW at H
 refine Ctr.ob Tryz.func94 Tryz.ntmps94 (fun w0 h0 hval=>?_)
 refine W.rg env [1] [1] ?_
 refine W.rg env [2] [] ?_
 refine W.ret ?_
 cases H
 exact At.rz env hval
theorem zb4 (p0:mantle_closet) {r:Bool} (H:zaV p0=some r):Ctr Tryz.prog 51 [.agg (zao p0)] (.bool (r)):=by
 unfold zaV at H
 refine Ctr.ob Tryz.func51 Tryz.ntmps51 (fun w0 h0 hval=>?_)
 refine W.rg env [1] [1] ?_
 refine W.seq ?_
 obtain ⟨y1,hy2,H⟩:=zac H
 refine W.region env [] [⟨.bool (y1),[],0,[]⟩] rfl rfl rfl .nil (.free (zfb p0.lives (fun x0=>some (zaW x0)) 94 [] [] (fun x0 r h=>by cases h;exact zfc x0) hy2) .nil) (At.kp [2] [] ?_)
 refine At.zad (W.ret ?_)
 cases H
 exact At.rz env hval
theorem zhx (fuel:Nat) (p0:Wear) (p1:Int) {r:(mantle_closet×Int)} (H:zd1 fuel p0 p1=some r):Ctr Tryz.prog 56 [.agg (zav p0),.int .i64 (p1)] (.tup [.agg (zao r.1),.int .i64 (r.2)]):=by
 unfold zd1 at H
 refine Ctr.ob Tryz.func56 Tryz.ntmps56 (fun w0 h0 hval=>?_)
 refine W.rg env [1,2,4] [2,4] ?_
 refine W.seq ?_
 obtain ⟨y1,hy2,H⟩:=zac H
 refine W.region env [] [⟨.agg (zao y1),[],0,[]⟩] rfl rfl rfl .nil (.free (zed fuel p0 p0.Looks p1 hy2) .nil) (At.kp [4,6] [4,6] ?_)
 refine At.zad (W.seq (W.seq ?_))
 obtain ⟨y3,hy4,H⟩:=zac H
 refine W.region env [] [⟨.bool (y3),[],0,[]⟩] rfl rfl rfl .nil (.free (zb4 y1 hy4) .nil) (At.kp [4,6,14] [4,6] ?_)
 refine At.zad (W.co H rfl (fun hb5 H=>?_) (fun hb5 H=>?_))
 · refine W.rg env [4,5] [4] ?_
   refine W.ret (At.rthen ?_)
   cases H
   exact At.ret env.ty rfl rfl nofun (Sim.tupL (.cons (Sim.aggL (.cons (Sim.nil _ _) (.cons (Sim.nil _ _) (.cons (Sim.nil _ _) (.cons (Sim.nil _ _) (.cons (.refl _) (.cons (Sim.zhI (zs:=[.slice none 0 0,.slice none 0 0,.slice none 0 0,.slice none 0 0,.slice none 0 0,.slice none 0 0]) rfl (Sim.aggL (.cons (Sim.nil _ _) (.cons (Sim.nil _ _) (.cons (Sim.nil _ _) (.cons (Sim.nil _ _) (.cons (Sim.nil _ _) (.cons (Sim.nil _ _) .nil)))))))) (.cons (Sim.nil _ _) .nil)))))))) (.cons (.refl _) .nil))) hval
 · refine W.skip (At.zad (W.rg env [4,5] [4] ?_))
   refine W.ret ?_
   cases H
   exact At.rz env hval
theorem zl8 (fuel:Nat) (p0:Wear) (p1:Int) (p2:Int) {r:(Range×Int)} (H:zhJ fuel p0 p1 p2=some r):Ctr Tryz.prog 19 [.agg (zav p0),.int .i64 (p1),.int .i64 (p2)] (.tup [.agg [.int .i64 (r.1.Lo),.int .i64 (r.1.Hi)],.int .i64 (r.2)]):=by
 unfold zhJ at H
 refine Ctr.ob Tryz.func19 Tryz.ntmps19 (fun w0 h0 hval=>?_)
 refine W.rg env [1,2,3,6] [3,6] ?_
 refine W.seq (W.seq ?_)
 obtain ⟨y1,hy2,H⟩:=zac H
 refine W.region env [] [⟨.int .i64 (y1),[],0,[]⟩] rfl rfl rfl .nil (.free (Ctr.sim (.cons (.refl _) (.cons (Sim.lit (f:=zaa) ([p2]:List Int) rfl rfl (fun _=>rfl)) .nil)) (zec p0 ([p2]:List Int) hy2)) .nil) (At.kp [1,2,3,6,8] [3,6] ?_)
 refine At.zad (W.rg env [1,2,3,6,8,17] [3,6] ?_)
 refine W.co H rfl (fun hb3 H=>?_) (fun hb3 H=>?_)
 · refine W.rg env [6,7] [6] ?_
   refine W.ret (At.rthen ?_)
   cases H
   exact At.rz env hval
 · refine W.skip (At.zad (W.seq ?_))
   obtain ⟨y4,hy5,H⟩:=zac H
   refine W.region env [] [⟨.int .i64 (y4),[],0,[]⟩] rfl rfl rfl .nil (.free (zdR p0 p1 hy5) .nil) (At.kp [2,3,6,9] [3,6] ?_)
   refine At.zad (W.seq (W.rg env [2,3,6,9,24] [3,6] ?_))
   refine W.co H rfl (fun hb6 H=>?_) (fun hb6 H=>?_)
   · refine W.rg env [6,7] [6] ?_
     refine W.ret (At.rthen ?_)
     cases H
     exact At.rz env hval
   · refine W.skip (At.zad (W.seq ?_))
     obtain ⟨y7,hy8,H⟩:=zac H
     refine W.region env [] [⟨.tup [.agg (zao y7.1),.int .i64 (y7.2)],[],0,[]⟩] rfl rfl rfl .nil (.free (zhx fuel p0 p2 hy8) .nil) (At.kp [6,9,10,11] [6,10] ?_)
     refine At.zad (W.seq (W.rg env [6,9,10,11,33] [6,10] ?_))
     refine W.co H rfl (fun hb9 H=>?_) (fun hb9 H=>?_)
     · refine W.rg env [6,7] [6] ?_
       refine W.ret (At.rthen ?_)
       cases H
       exact At.rz env hval
     · refine W.skip (At.zad ?_)
       obtain ⟨hc10,H⟩:=zab H
       refine W.sr env [] [] [6,7] [6] rfl rfl rfl (.cons hc10 .nil) .nil ?_
       refine W.ret ?_
       cases H
       exact At.rz env hval
theorem zcm (p0:mantle_closet) (p1:Int) {r:Int} (H:zaS p0 p1=some r):Ctr Tryz.prog 89 [.agg (zao p0),.int .i64 (p1)] (.int .i64 (r)):=by
 unfold zaS at H
 refine Ctr.ob Tryz.func89 Tryz.ntmps89 (fun w0 h0 hval=>?_)
 refine W.rg env [1,2] [2] ?_
 refine W.seq ?_
 obtain ⟨hc1,H⟩:=zab H
 obtain ⟨y2,hy3,H⟩:=zac H
 refine W.region env [] [⟨.int .i64 (y2),[],0,[]⟩] rfl rfl (by kernel_rfl) (.cons hc1 .nil) (.free (zdR p0.w ((p0.w.Mantles.getD (p1).toNat default).Batch) hy3) .nil) (At.kp [4] [] ?_)
 refine At.zad (W.ret ?_)
 cases H
 exact At.rz env hval
theorem zeZ (p0:mantle_closet) (p1:Int) (p2:Int) (p3:Bool) {r:Range} (H:zb3 p0 p1 p2 p3=some r):Ctr Tryz.prog 95 [.agg (zao p0),.int .i64 (p1),.int .i64 (p2),.bool (p3)] (.agg [.int .i64 (r.Lo),.int .i64 (r.Hi)]):=by
 unfold zb3 at H
 refine Ctr.ob Tryz.func95 Tryz.ntmps95 (fun w0 h0 hval=>?_)
 refine W.rg env [1,2,3,4,8] [4,8] ?_
 refine W.seq ?_
 obtain ⟨y1,hy2,H⟩:=zac H
 obtain ⟨hc3,H⟩:=zab H
 obtain ⟨y4,hy5,H⟩:=zac H
 obtain ⟨y6,hy7,H⟩:=zac H
 refine W.region env [] [⟨.int .i64 (y1),[],0,[]⟩,⟨.agg (zat y4),[],0,[]⟩,⟨.agg [.int .i64 (y6.Lo),.int .i64 (y6.Hi)],[],0,[]⟩,⟨.agg [.int .i64 ((zaT (p0.lives.getD (y1).toNat default) y6).Lo),.int .i64 ((zaT (p0.lives.getD (y1).toNat default) y6).Hi)],[],0,[]⟩] rfl rfl (by kernel_rfl) (.cons hc3 (.cons rfl .nil)) (.free (zcm p0 p1 hy2) (.free (zdX ((p0.coats.get p1).getD default) (⟨p2,p3⟩:mantle_sight) hy5) (.free (zdG y4 hy7) (.free (zgg (p0.lives.getD (y1).toNat default) y6) .nil)))) (At.kp [8] [8] ?_)
 refine At.zad (W.ret ?_)
 cases H
 exact At.rz env hval
theorem zbN (p0:mantle_closet) (p1:Int) (p2:Int) {r:Int} (H:zaR p0 p1 p2=some r):Ctr Tryz.prog 57 [.agg (zao p0),.int .i64 (p1),.int .i64 (p2)] (.int .i64 (r)):=by
 unfold zaR at H
 refine Ctr.ob Tryz.func57 Tryz.ntmps57 (fun w0 h0 hval=>?_)
 refine W.rg env [1,2,3] [3] ?_
 refine W.seq (W.block (W.seq ?_))
 obtain ⟨y1,hy2,H⟩:=zac H
 refine W.region env [] [⟨.agg [.int .i64 (y1.Lo),.int .i64 (y1.Hi)],[],0,[]⟩,⟨.bool ((zaW y1)),[],0,[]⟩] rfl rfl rfl .nil (.free (zeZ p0 p1 p2 true hy2) (.free (zfc y1) .nil)) (At.kp [1,2,3,7] [3] ?_)
 refine At.zad (W.co H rfl (fun hb3 H=>?_) (fun hb3 H=>?_))
 · refine W.rg env [6] [] ?_
   refine W.ret (At.rinb ?_)
   refine At.rthen ?_
   cases H
   exact At.rz env hval
 · refine W.seq ?_
   obtain ⟨y4,hy5,H⟩:=zac H
   refine W.region env [] [⟨.agg [.int .i64 (y4.Lo),.int .i64 (y4.Hi)],[],0,[]⟩,⟨.bool ((zaW y4)),[],0,[]⟩] rfl rfl rfl .nil (.free (zeZ p0 p1 p2 false hy5) (.free (zfc y4) .nil)) (At.kp [13] [] ?_)
   refine At.zad (W.co H rfl (fun hb6 H=>?_) (fun hb6 H=>?_))
   · refine W.rg env [6] [] ?_
     refine W.ret (At.rinb ?_)
     refine At.rthen ?_
     cases H
     exact At.rz env hval
   · refine W.skip (At.inb (At.zad (W.rg env [6] [] ?_)))
     refine W.ret ?_
     cases H
     exact At.rz env hval
theorem zhz (fuel:Nat) (p0:Wear) (p1:Int) (p2:Int) (p3:Int) {r:(Int×Int)} (H:zd3 fuel p0 p1 p2 p3=some r):Ctr Tryz.prog 14 [.agg (zav p0),.int .i64 (p1),.int .i64 (p2),.int .i64 (p3)] (.tup [.int .i64 (r.1),.int .i64 (r.2)]):=by
 unfold zd3 at H
 refine Ctr.ob Tryz.func14 Tryz.ntmps14 (fun w0 h0 hval=>?_)
 refine W.rg env [1,2,3,4] [4] ?_
 refine W.seq ?_
 obtain ⟨y1,hy2,H⟩:=zac H
 refine W.region env [] [⟨.tup [.int .i64 (y1.1),.int .i64 (y1.2)],[],0,[]⟩] rfl rfl rfl .nil (.free (zgR p0 p1 p2 p3 hy2) .nil) (At.kp [2,3,4,10,11] [4] ?_)
 refine At.zad (W.seq (W.rg env [2,3,4,10,11,22] [4] ?_))
 refine W.co H rfl (fun hb3 H=>?_) (fun hb3 H=>?_)
 · refine W.rg env [8,9] [] ?_
   refine W.ret (At.rthen ?_)
   cases H
   exact At.rz env hval
 · refine W.skip (At.zad (W.seq ?_))
   obtain ⟨y4,hy5,H⟩:=zac H
   refine W.region env [] [⟨.tup [.agg (zao y4.1),.int .i64 (y4.2)],[],0,[]⟩] rfl rfl rfl .nil (.free (zhx fuel p0 p3 hy5) .nil) (At.kp [2,10,11,12] [12] ?_)
   refine At.zad (W.seq (W.rg env [2,10,11,12,31] [12] ?_))
   refine W.co H rfl (fun hb6 H=>?_) (fun hb6 H=>?_)
   · refine W.rg env [8,9] [] ?_
     refine W.ret (At.rthen ?_)
     cases H
     exact At.rz env hval
   · refine W.skip (At.zad (W.seq ?_))
     obtain ⟨y7,hy8,H⟩:=zac H
     refine W.region env [] [⟨.int .i64 (y7),[],0,[]⟩] rfl rfl rfl .nil (.free (zbN y4.1 y1.1 p2 hy8) .nil) (At.kp [8,9] [] ?_)
     refine At.zad (W.ret ?_)
     cases H
     exact At.rz env hval
theorem zhT (fuel:Nat) {r:Bool} (H:zdy fuel=some r):Ctr Tryz.prog 4 [] (.bool (r)):=by
 unfold zdy at H
 refine Ctr.ob Tryz.func4 Tryz.ntmps4 (fun w0 h0 hval=>?_)
 refine W.rg env [] [] ?_
 refine W.seq (W.region env [] [] rfl rfl rfl .nil .nil (At.kp [1] [1] ?_))
 refine At.zbY (.cons (y:=.cells [roL 3 zaA ([(⟨1,(⟨1000,2000⟩:Range)⟩:Batch)]:List Batch),roL 6 zau ([(⟨1,10,1,0,0,0⟩:Mantle)]:List Mantle),roL 7 zaL ([(⟨11,10,1,(⟨800,900⟩:Range),0,0⟩:Burn),(⟨12,10,2,(⟨500,700⟩:Range),0,0⟩:Burn)]:List Burn),roL 6 zaD ([(⟨22,10,2,true,0,0⟩:Look)]:List Look)]) (BSim.cells (.cons (Sim.lit (f:=zaA) ([(⟨1,(⟨1000,2000⟩:Range)⟩:Batch)]:List Batch) rfl rfl (fun _=>rfl)) (.cons (Sim.lit (f:=zau) ([(⟨1,10,1,0,0,0⟩:Mantle)]:List Mantle) rfl rfl (fun _=>rfl)) (.cons (Sim.lit (f:=zaL) ([(⟨11,10,1,(⟨800,900⟩:Range),0,0⟩:Burn),(⟨12,10,2,(⟨500,700⟩:Range),0,0⟩:Burn)]:List Burn) rfl rfl (fun _=>rfl)) (.cons (Sim.lit (f:=zaD) ([(⟨22,10,2,true,0,0⟩:Look)]:List Look) rfl rfl (fun _=>rfl)) .nil))))) .nil) ?_
 refine At.zad (W.seq ?_)
 obtain ⟨y1,hy2,H⟩:=zac H
 refine W.region env [] [⟨.tup [.agg [.int .i64 (y1.1.Lo),.int .i64 (y1.1.Hi)],.int .i64 (y1.2)],[],0,[]⟩] rfl rfl rfl .nil (.free (zm5 fuel (⟨([(⟨1,(⟨1000,2000⟩:Range)⟩:Batch)]:List Batch),([(⟨1,10,1,0,0,0⟩:Mantle)]:List Mantle),([(⟨11,10,1,(⟨800,900⟩:Range),0,0⟩:Burn),(⟨12,10,2,(⟨500,700⟩:Range),0,0⟩:Burn)]:List Burn),([(⟨22,10,2,true,0,0⟩:Look)]:List Look)⟩:Wear) 10 2 5 hy2) .nil) (At.kp [1,2,3] [1,2] ?_)
 refine At.zad (W.seq ?_)
 obtain ⟨y3,hy4,H⟩:=zac H
 refine W.region env [] [⟨.tup [.agg [.int .i64 (y3.1.Lo),.int .i64 (y3.1.Hi)],.int .i64 (y3.2)],[],0,[]⟩] rfl rfl rfl .nil (.free (zl8 fuel (⟨([(⟨1,(⟨1000,2000⟩:Range)⟩:Batch)]:List Batch),([(⟨1,10,1,0,0,0⟩:Mantle)]:List Mantle),([(⟨11,10,1,(⟨800,900⟩:Range),0,0⟩:Burn),(⟨12,10,2,(⟨500,700⟩:Range),0,0⟩:Burn)]:List Burn),([(⟨22,10,2,true,0,0⟩:Look)]:List Look)⟩:Wear) 1 5 hy4) .nil) (At.kp [1,2,3,4,5] [1,2,4] ?_)
 refine At.zad (W.seq ?_)
 obtain ⟨y5,hy6,H⟩:=zac H
 refine W.region env [] [⟨.tup [.int .i64 (y5.1),.int .i64 (y5.2)],[],0,[]⟩] rfl rfl rfl .nil (.free (zhz fuel (⟨([(⟨1,(⟨1000,2000⟩:Range)⟩:Batch)]:List Batch),([(⟨1,10,1,0,0,0⟩:Mantle)]:List Mantle),([(⟨11,10,1,(⟨800,900⟩:Range),0,0⟩:Burn),(⟨12,10,2,(⟨500,700⟩:Range),0,0⟩:Burn)]:List Burn),([(⟨22,10,2,true,0,0⟩:Look)]:List Look)⟩:Wear) 10 1 5 hy6) .nil) (At.kp [2,3,4,5,6,7] [2,4] ?_)
 refine At.zad (W.sr env [] [] [0] [] rfl rfl rfl (.cons id (.cons id (.cons id (.cons id (.cons id (.cons id (.cons id (.cons id (.cons id (.cons id (.cons id (.cons id .nil)))))))))))) .nil ?_)
 refine W.ret ?_
 cases H
 exact At.rz env hval
theorem zaF (p0:Int) (p1:Int) {r:Int} (H:zaB p0 p1=some r):Ctr Tryz.prog 8 [.int .i64 (p0),.int .i64 (p1)] (.int .i64 (r)):=by
 unfold zaB at H
 refine Ctr.ob Tryz.func8 Tryz.ntmps8 (fun w0 h0 hval=>?_)
 refine W.rg env [0,1] [] ?_
 obtain ⟨hc1,H⟩:=zab H
 obtain ⟨hc2,H⟩:=zab H
 obtain ⟨hc3,H⟩:=zab H
 refine W.sr env [] [] [4] [] rfl rfl rfl (.cons hc1 (.cons hc2 (.cons hc3 .nil))) .nil ?_
 refine W.ret ?_
 cases H
 exact At.rz env hval
theorem zdH (p0:(List Int)) (p1:Int) {r:Int} (H:zbC p0 p1=some r):Ctr Tryz.prog 20 [roL 1 zaa p0,.int .i64 (p1)] (.int .i64 (r)):=by
 unfold zbC at H
 refine Ctr.ob Tryz.func20 Tryz.ntmps20 (fun w0 h0 hval=>?_)
 refine W.rg env [0,1] [] ?_
 refine W.seq (W.rg env [0,1,7] [] ?_)
 refine W.co H rfl (fun hb1 H=>?_) (fun hb1 H=>?_)
 · refine W.rg env [4] [] ?_
   refine W.ret (At.rthen ?_)
   cases H
   exact At.rz env hval
 · refine W.skip (At.zad (W.seq ?_))
   obtain ⟨y2,hy3,H⟩:=zac H
   obtain ⟨hc4,H⟩:=zab H
   refine W.region env [] [⟨.int .i64 (y2),[],0,[]⟩] rfl rfl rfl (.cons hc4 .nil) (.free (zaF p1 ((p0.length:Nat):Int) hy3) .nil) (At.kp [4] [] ?_)
   refine At.zad (W.ret ?_)
   cases H
   exact At.rz env hval
theorem zgr (p0:(List Version)) (p1:Int) (p2:Version→Option Int) (p2_g:Nat) (p2_a p2_b:List AV) (p2_h:∀ x0 r,p2 x0=some r→Ctr Tryz.prog p2_g (p2_a++([.agg [.int .i64 (x0.Source),.int .i64 (x0.Class),.int .i64 (x0.From),.int .i64 (x0.On.Lo),.int .i64 (x0.On.Hi),.int .i64 (x0.Off.Lo),.int .i64 (x0.Off.Hi),.int .i64 (x0.Moon),.int .i64 (x0.Fog),.int .i64 (x0.Known),.int .i64 (x0.Until)]]++p2_b)) (.int .i64 (r))) (p3:Version→Option Int) (p3_g:Nat) (p3_a p3_b:List AV) (p3_h:∀ x0 r,p3 x0=some r→Ctr Tryz.prog p3_g (p3_a++([.agg [.int .i64 (x0.Source),.int .i64 (x0.Class),.int .i64 (x0.From),.int .i64 (x0.On.Lo),.int .i64 (x0.On.Hi),.int .i64 (x0.Off.Lo),.int .i64 (x0.Off.Hi),.int .i64 (x0.Moon),.int .i64 (x0.Fog),.int .i64 (x0.Known),.int .i64 (x0.Until)]]++p3_b)) (.int .i64 (r))) {r:Bool} (H:zdI p0 p1 p2 p3=some r):Ctr Tryz.prog 137 [roL 11 za7 p0,.int .i64 (p1),.clo (.func p2_g) p2_a p2_b,.clo (.func p3_g) p3_a p3_b] (.bool (r)):=by
 unfold zdI at H
 refine Ctr.ob Tryz.func137 Tryz.ntmps137 (fun w0 h0 hval=>?_)
 refine W.rg env [0,1,2,3] [] ?_
 refine W.seq (W.rg env [0,1,2,3,11,12,13] [] ?_)
 refine W.block (At.kp [0,1,2,3,11,12,13] [] ?_)
 refine W.len (t:=11) rfl (fun hn1=>?_)
 refine W.zak H (fun i1 (s1:Unit)=>[(0,roL 11 za7 p0),(1,.int .i64 (p1)),(2,.clo (.func p2_g) p2_a p2_b),(3,.clo (.func p3_g) p3_a p3_b),(11,roL 11 za7 p0),(12,.int .i64 (((p0.length:Nat):Int))),(13,.int .i64 ((i1:Int)))]) (fun i1 (s1:Unit)=>[]) (.cons .q (.cons .qi (.cons .q (.cons .q (.cons .q (.cons .qi (.cons .qi .nil))))))) .nil (fun k1 i1 s1 hle1 H1 H2 K0 hK1=>?_)
 refine W.rg env [0,1,2,3,11,12,13,14] [] ?_
 refine W.seq (W.cond rfl (fun hb2=>?_) (fun hb2=>?_))
 · have hi1:i1<p0.length:=ltD hb2
   have H:=H1 hi1
   refine W.skip (At.zad (W.seq (W.block (W.sr env [] [] [0,1,2,3,9,10,11,12,13] [10] rfl rfl rfl (.cons (inD hi1) .nil) .nil ?_))))
   refine W.seq ?_
   obtain ⟨y3,hy4,H⟩:=zac H
   obtain ⟨hc5,H⟩:=zab H
   obtain ⟨hc6,H⟩:=zab H
   obtain ⟨y7,hy8,H⟩:=zac H
   obtain ⟨y9,hy10,H⟩:=zac H
   refine W.region env [] [⟨.int .i64 (y3),[],0,[]⟩,⟨.int .i64 (y7),[],0,[]⟩,⟨.int .i64 (y9),[],0,[]⟩] rfl rfl (by kernel_rfl) (.cons id (.cons id (.cons hc5 (.cons id (.cons hc6 (.cons id (.cons id (.cons id (.cons id (.cons id (.cons id (.cons id (.cons id (.cons id (.cons id (.cons (fun hW h=>by revert hW h;first|(simp +contextual;done)|grind) (.cons (fun h=>by rw [h];rfl) .nil))))))))))))))))) (.free (p2_h (p0.getD i1 default) _ hy4) (.on (fun hW=>p3_h (p0.getD (((i1:Int) - 1)).toNat default) _ (zbf hy8 hW)) (.on (fun hW=>p3_h (p0.getD i1 default) _ (zbf hy10 hW)) .nil))) (At.kp [0,1,2,3,11,12,13,38] [] ?_)
   refine At.zad (W.co H rfl (fun hb11 H=>?_) (fun hb11 H=>?_))
   · refine W.rg env [8] [] ?_
     refine W.ret (At.rinb ?_)
     refine At.rthen ?_
     refine At.rthen ?_
     refine At.rinb ?_
     refine At.rthen ?_
     cases H
     exact At.rz env hval
   · refine W.skip (At.inb (At.zad (W.region env [] [] rfl rfl rfl (.cons (incD hi1 hn1) .nil) .nil (At.kp [0,1,2,3,11,12,13] [] ?_))))
     refine At.zaG (At.kp [0,1,2,3,11,12,13] [] ?_)
     exact At.conv (.cons .q (.cons .qi (.cons .q (.cons .q (.cons .q (.cons .qi (.cons .qi .nil))))))) .nil (hK1 hi1 () H)
 · have H:=H2 (geD hb2)
   refine W.exit (At.xthen (At.xthen (At.xhere (At.zad (W.rg env [8] [] ?_)))))
   refine W.ret ?_
   cases H
   exact At.rz env hval
theorem zce (p0:Int) (p1:Int) (p2:Int):Ctr Tryz.prog 145 [.int .i64 (p0),.int .i64 (p1),.int .i64 (p2)] (.bool ((zaJ p0 p1 p2))):=by
 obtain ⟨r,H⟩:∃ r,zaJ p0 p1 p2=r:=⟨_,rfl⟩
 rw [H]
 unfold zaJ at H
 refine Ctr.ob Tryz.func145 Tryz.ntmps145 (fun w0 h0 hval=>?_)
 refine W.rg env [0,1,2] [] ?_
 refine W.sr env [] [] [6] [] rfl rfl rfl (.cons id (.cons id (.cons id .nil))) .nil ?_
 refine W.ret ?_
 cases H
 exact At.rz env hval
theorem zek (p0:Int):Ctr Tryz.prog 107 [.int .i64 (p0)] (.bool ((za8 p0))):=by
 obtain ⟨r,H⟩:∃ r,za8 p0=r:=⟨_,rfl⟩
 rw [H]
 unfold za8 at H
 refine Ctr.ob Tryz.func107 Tryz.ntmps107 (fun w0 h0 hval=>?_)
 refine W.rg env [0] [] ?_
 refine W.sr env [] [⟨.bool ((zaJ p0 0 100000)),[],0,[]⟩] [2] [] rfl rfl rfl .nil (.free (zce p0 0 100000) .nil) ?_
 refine W.ret ?_
 cases H
 exact At.rz env hval
theorem zdr (p0:Range) (p1:Int):Ctr Tryz.prog 144 [.agg [.int .i64 (p0.Lo),.int .i64 (p0.Hi)],.int .i64 (p1)] (.bool ((zaX p0 p1))):=by
 obtain ⟨r,H⟩:∃ r,zaX p0 p1=r:=⟨_,rfl⟩
 rw [H]
 unfold zaX at H
 refine Ctr.ob Tryz.func144 Tryz.ntmps144 (fun w0 h0 hval=>?_)
 refine W.rg env [1,2] [2] ?_
 refine W.sr env [] [] [4] [] rfl rfl rfl (.cons id (.cons id (.cons id (.cons id (.cons id (.cons id (.cons id (.cons id (.cons id .nil))))))))) .nil ?_
 refine W.ret ?_
 cases H
 exact At.rz env hval
theorem zhr (p0:Version) {r:Int} (H:zdi p0=some r):Ctr Tryz.prog 138 [.agg [.int .i64 (p0.Source),.int .i64 (p0.Class),.int .i64 (p0.From),.int .i64 (p0.On.Lo),.int .i64 (p0.On.Hi),.int .i64 (p0.Off.Lo),.int .i64 (p0.Off.Hi),.int .i64 (p0.Moon),.int .i64 (p0.Fog),.int .i64 (p0.Known),.int .i64 (p0.Until)]] (.int .i64 (r)):=by
 unfold zdi at H
 refine Ctr.ob Tryz.func138 Tryz.ntmps138 (fun w0 h0 hval=>?_)
 refine W.rg env [1] [1] ?_
 refine W.seq ?_
 obtain ⟨hc1,H⟩:=zab H
 refine W.sr env [] [⟨.bool ((zaJ p0.Source 1 99999)),[],0,[]⟩,⟨.bool ((zaJ p0.Class 1 9)),[],0,[]⟩,⟨.bool ((za8 p0.From)),[],0,[]⟩,⟨.bool ((zaX p0.On 600)),[],0,[]⟩,⟨.bool ((zaX p0.Off 600)),[],0,[]⟩,⟨.bool ((zaJ p0.Moon 0 1001)),[],0,[]⟩,⟨.bool ((zaJ p0.Fog 0 600)),[],0,[]⟩,⟨.bool ((za8 p0.Known)),[],0,[]⟩,⟨.bool ((zaJ p0.Until (p0.Known+1) 100000)),[],0,[]⟩] [62] [] rfl rfl rfl (.cons id (.cons id (.cons id (.cons (fun h=>by rw [h];rfl) (.cons id (.cons id (.cons id (.cons (fun h=>by rw [h];rfl) (.cons id (.cons id (.cons id (.cons (fun h=>by rw [h];rfl) (.cons id (.cons id (.cons id (.cons (fun h=>by rw [h];rfl) (.cons id (.cons id (.cons id (.cons (fun h=>by rw [h];rfl) (.cons id (.cons id (.cons id (.cons (fun h=>by rw [h];rfl) (.cons id (.cons id (.cons id (.cons (fun h=>by rw [h];rfl) (.cons id (.cons id (.cons id (.cons id (.cons id (.cons hc1 (.cons id (.cons id (.cons id (.cons id (.cons id (.cons (fun hW h=>by revert hW h;first|(simp +contextual;done)|grind) (.cons (fun h=>by rw [h];rfl) .nil))))))))))))))))))))))))))))))))))))))))) (.free (zce p0.Source 1 99999) (.on (fun hW=>zce p0.Class 1 9) (.on (fun hW=>zek p0.From) (.on (fun hW=>zdr p0.On 600) (.on (fun hW=>zdr p0.Off 600) (.on (fun hW=>zce p0.Moon 0 1001) (.on (fun hW=>zce p0.Fog 0 600) (.on (fun hW=>zek p0.Known) (.on (fun hW=>zce p0.Until (p0.Known+1) 100000) .nil))))))))) ?_
 refine W.co H rfl (fun hb2 H=>?_) (fun hb2 H=>?_)
 · refine W.rg env [2] [] ?_
   refine W.ret (At.rthen ?_)
   cases H
   exact At.rz env hval
 · refine W.skip (At.zad (W.rg env [2] [] ?_))
   refine W.ret ?_
   cases H
   exact At.rz env hval
theorem zju (p0:Version):Ctr Tryz.prog 139 [.agg [.int .i64 (p0.Source),.int .i64 (p0.Class),.int .i64 (p0.From),.int .i64 (p0.On.Lo),.int .i64 (p0.On.Hi),.int .i64 (p0.Off.Lo),.int .i64 (p0.Off.Hi),.int .i64 (p0.Moon),.int .i64 (p0.Fog),.int .i64 (p0.Known),.int .i64 (p0.Until)]] (.int .i64 ((zdO p0))):=by
 obtain ⟨r,H⟩:∃ r,zdO p0=r:=⟨_,rfl⟩
 rw [H]
 unfold zdO at H
 refine Ctr.ob Tryz.func139 Tryz.ntmps139 (fun w0 h0 hval=>?_)
 refine W.rg env [1] [1] ?_
 refine W.rg env [2] [] ?_
 refine W.ret ?_
 cases H
 exact At.rz env hval
theorem zgW (p0:(List Street)) (p1:Int) (p2:Street→Option Int) (p2_g:Nat) (p2_a p2_b:List AV) (p2_h:∀ x0 r,p2 x0=some r→Ctr Tryz.prog p2_g (p2_a++([.agg [.int .i64 (x0.Id),.int .i64 (x0.Class),.int .i64 (x0.District),.int .i64 (x0.First),.int .i64 (x0.Many)]]++p2_b)) (.int .i64 (r))) (p3:Street→Option Int) (p3_g:Nat) (p3_a p3_b:List AV) (p3_h:∀ x0 r,p3 x0=some r→Ctr Tryz.prog p3_g (p3_a++([.agg [.int .i64 (x0.Id),.int .i64 (x0.Class),.int .i64 (x0.District),.int .i64 (x0.First),.int .i64 (x0.Many)]]++p3_b)) (.int .i64 (r))) {r:Bool} (H:zdZ p0 p1 p2 p3=some r):Ctr Tryz.prog 140 [roL 5 zaU p0,.int .i64 (p1),.clo (.func p2_g) p2_a p2_b,.clo (.func p3_g) p3_a p3_b] (.bool (r)):=by
 unfold zdZ at H
 refine Ctr.ob Tryz.func140 Tryz.ntmps140 (fun w0 h0 hval=>?_)
 refine W.rg env [0,1,2,3] [] ?_
 refine W.seq (W.rg env [0,1,2,3,11,12,13] [] ?_)
 refine W.block (At.kp [0,1,2,3,11,12,13] [] ?_)
 refine W.len (t:=11) rfl (fun hn1=>?_)
 refine W.zak H (fun i1 (s1:Unit)=>[(0,roL 5 zaU p0),(1,.int .i64 (p1)),(2,.clo (.func p2_g) p2_a p2_b),(3,.clo (.func p3_g) p3_a p3_b),(11,roL 5 zaU p0),(12,.int .i64 (((p0.length:Nat):Int))),(13,.int .i64 ((i1:Int)))]) (fun i1 (s1:Unit)=>[]) (.cons .q (.cons .qi (.cons .q (.cons .q (.cons .q (.cons .qi (.cons .qi .nil))))))) .nil (fun k1 i1 s1 hle1 H1 H2 K0 hK1=>?_)
 refine W.rg env [0,1,2,3,11,12,13,14] [] ?_
 refine W.seq (W.cond rfl (fun hb2=>?_) (fun hb2=>?_))
 · have hi1:i1<p0.length:=ltD hb2
   have H:=H1 hi1
   refine W.skip (At.zad (W.seq (W.block (W.sr env [] [] [0,1,2,3,9,10,11,12,13] [10] rfl rfl rfl (.cons (inD hi1) .nil) .nil ?_))))
   refine W.seq ?_
   obtain ⟨y3,hy4,H⟩:=zac H
   obtain ⟨hc5,H⟩:=zab H
   obtain ⟨hc6,H⟩:=zab H
   obtain ⟨y7,hy8,H⟩:=zac H
   obtain ⟨y9,hy10,H⟩:=zac H
   refine W.region env [] [⟨.int .i64 (y3),[],0,[]⟩,⟨.int .i64 (y7),[],0,[]⟩,⟨.int .i64 (y9),[],0,[]⟩] rfl rfl (by kernel_rfl) (.cons id (.cons id (.cons hc5 (.cons id (.cons hc6 (.cons id (.cons id (.cons id (.cons id (.cons id (.cons id (.cons id (.cons id (.cons id (.cons id (.cons (fun hW h=>by revert hW h;first|(simp +contextual;done)|grind) (.cons (fun h=>by rw [h];rfl) .nil))))))))))))))))) (.free (p2_h (p0.getD i1 default) _ hy4) (.on (fun hW=>p3_h (p0.getD (((i1:Int) - 1)).toNat default) _ (zbf hy8 hW)) (.on (fun hW=>p3_h (p0.getD i1 default) _ (zbf hy10 hW)) .nil))) (At.kp [0,1,2,3,11,12,13,38] [] ?_)
   refine At.zad (W.co H rfl (fun hb11 H=>?_) (fun hb11 H=>?_))
   · refine W.rg env [8] [] ?_
     refine W.ret (At.rinb ?_)
     refine At.rthen ?_
     refine At.rthen ?_
     refine At.rinb ?_
     refine At.rthen ?_
     cases H
     exact At.rz env hval
   · refine W.skip (At.inb (At.zad (W.region env [] [] rfl rfl rfl (.cons (incD hi1 hn1) .nil) .nil (At.kp [0,1,2,3,11,12,13] [] ?_))))
     refine At.zaG (At.kp [0,1,2,3,11,12,13] [] ?_)
     exact At.conv (.cons .q (.cons .qi (.cons .q (.cons .q (.cons .q (.cons .qi (.cons .qi .nil))))))) .nil (hK1 hi1 () H)
 · have H:=H2 (geD hb2)
   refine W.exit (At.xthen (At.xthen (At.xhere (At.zad (W.rg env [8] [] ?_)))))
   refine W.ret ?_
   cases H
   exact At.rz env hval
theorem zhW (p0:Street) {r:Int} (H:zdA p0=some r):Ctr Tryz.prog 141 [.agg [.int .i64 (p0.Id),.int .i64 (p0.Class),.int .i64 (p0.District),.int .i64 (p0.First),.int .i64 (p0.Many)]] (.int .i64 (r)):=by
 unfold zdA at H
 refine Ctr.ob Tryz.func141 Tryz.ntmps141 (fun w0 h0 hval=>?_)
 refine W.rg env [1] [1] ?_
 refine W.seq ?_
 obtain ⟨hc1,H⟩:=zab H
 obtain ⟨hc2,H⟩:=zab H
 refine W.sr env [] [⟨.bool ((zaJ p0.Id 1 99)),[],0,[]⟩,⟨.bool ((zaJ p0.Class 1 9)),[],0,[]⟩,⟨.bool ((zaJ p0.District 1 9)),[],0,[]⟩,⟨.bool ((zaJ p0.First 1 999)),[],0,[]⟩,⟨.bool ((zaJ p0.Many 1 200)),[],0,[]⟩] [39] [] rfl rfl rfl (.cons id (.cons id (.cons id (.cons (fun h=>by rw [h];rfl) (.cons id (.cons id (.cons id (.cons (fun h=>by rw [h];rfl) (.cons id (.cons id (.cons id (.cons (fun h=>by rw [h];rfl) (.cons id (.cons id (.cons id (.cons (fun h=>by rw [h];rfl) (.cons id (.cons id (.cons hc1 (.cons id (.cons id (.cons hc2 (.cons id (.cons id (.cons (fun h=>by rw [h];rfl) .nil))))))))))))))))))))))))) (.free (zce p0.Id 1 99) (.on (fun hW=>zce p0.Class 1 9) (.on (fun hW=>zce p0.District 1 9) (.on (fun hW=>zce p0.First 1 999) (.on (fun hW=>zce p0.Many 1 200) .nil))))) ?_
 refine W.co H rfl (fun hb3 H=>?_) (fun hb3 H=>?_)
 · refine W.rg env [2] [] ?_
   refine W.ret (At.rthen ?_)
   cases H
   exact At.rz env hval
 · refine W.skip (At.zad (W.rg env [2] [] ?_))
   refine W.ret ?_
   cases H
   exact At.rz env hval
theorem zm7 (p0:Street):Ctr Tryz.prog 142 [.agg [.int .i64 (p0.Id),.int .i64 (p0.Class),.int .i64 (p0.District),.int .i64 (p0.First),.int .i64 (p0.Many)]] (.int .i64 ((zfQ p0))):=by
 obtain ⟨r,H⟩:∃ r,zfQ p0=r:=⟨_,rfl⟩
 rw [H]
 unfold zfQ at H
 refine Ctr.ob Tryz.func142 Tryz.ntmps142 (fun w0 h0 hval=>?_)
 refine W.rg env [1] [1] ?_
 refine W.rg env [2] [] ?_
 refine W.ret ?_
 cases H
 exact At.rz env hval
theorem zhV (p0:Street) (p1:Int) {r:Bool} (H:zgX p0 p1=some r):Ctr Tryz.prog 143 [.agg [.int .i64 (p0.Id),.int .i64 (p0.Class),.int .i64 (p0.District),.int .i64 (p0.First),.int .i64 (p0.Many)],.int .i64 (p1)] (.bool (r)):=by
 unfold zgX at H
 refine Ctr.ob Tryz.func143 Tryz.ntmps143 (fun w0 h0 hval=>?_)
 refine W.rg env [1,2] [2] ?_
 obtain ⟨hc1,H⟩:=zab H
 obtain ⟨hc2,H⟩:=zab H
 refine W.sr env [] [⟨.bool ((zaJ p1 p0.First ((p0.First+p0.Many) - 1))),[],0,[]⟩] [4] [] rfl rfl rfl (.cons hc1 (.cons hc2 .nil)) (.free (zce p1 p0.First ((p0.First+p0.Many) - 1)) .nil) ?_
 refine W.ret ?_
 cases H
 exact At.rz env hval
theorem zma (p0:Bylaw) {r:Int} (H:zgi p0=some r):Ctr Tryz.prog 105 [.agg [roL 11 za7 p0.Versions,roL 5 zaU p0.Streets]] (.int .i64 (r)):=by
 unfold zgi at H
 refine Ctr.ob Tryz.func105 Tryz.ntmps105 (fun w0 h0 hval=>?_)
 refine W.rg env [1] [1] ?_
 refine W.seq (W.seq ?_)
 obtain ⟨y1,hy2,H⟩:=zac H
 obtain ⟨y3,hy4,H⟩:=zac H
 refine W.region env [] [⟨.bool (y1),[],0,[]⟩,⟨.bool (y3),[],0,[]⟩] rfl rfl rfl (.cons id (.cons id (.cons id (.cons (fun h=>by rw [h];rfl) .nil)))) (.free (zgr p0.Versions 60 (fun x0=>zdi x0) 138 [] [] (fun x0 r h=>zhr x0 h) (fun x0=>some (zdO x0)) 139 [] [] (fun x0 r h=>by cases h;exact zju x0) hy2) (.on (fun hW=>zgW p0.Streets 20 (fun x0=>zdA x0) 141 [] [] (fun x0 r h=>zhW x0 h) (fun x0=>some (zfQ x0)) 142 [] [] (fun x0 r h=>by cases h;exact zm7 x0) (zbf hy4 hW)) .nil)) (At.kp [1,16] [1] ?_)
 refine At.zad (W.co H rfl (fun hb5 H=>?_) (fun hb5 H=>?_))
 · refine W.rg env [2] [] ?_
   refine W.ret (At.rthen ?_)
   cases H
   exact At.rz env hval
 · refine W.skip (At.zad (W.seq (W.rg env [1,18,19,20] [1] ?_)))
   refine W.block (At.kp [1,18,19,20] [1] ?_)
   refine W.len (t:=18) rfl (fun hn6=>?_)
   refine W.zak H (fun i6 (s6:Unit)=>[(1,.lp 1 0),(18,roL 5 zaU p0.Streets),(19,.int .i64 (((p0.Streets.length:Nat):Int))),(20,.int .i64 ((i6:Int)))]) (fun i6 (s6:Unit)=>[(1,.cells [roL 11 za7 p0.Versions,roL 5 zaU p0.Streets])]) (.cons .q (.cons .q (.cons .qi (.cons .qi .nil)))) (.cons .q .nil) (fun k6 i6 s6 hle6 H1 H2 K0 hK6=>?_)
   refine W.rg env [1,18,19,20,21] [1] ?_
   refine W.seq (W.cond rfl (fun hb7=>?_) (fun hb7=>?_))
   · have hi6:i6<p0.Streets.length:=ltD hb7
     have H:=H1 hi6
     refine W.skip (At.zad (W.seq (W.block (W.sr env [] [] [1,3,4,18,19,20] [1,4] rfl rfl rfl (.cons (inD hi6) .nil) .nil ?_))))
     refine W.seq ?_
     obtain ⟨hc8,H⟩:=zab H
     refine W.r1 env hc8 [1,4,18,19,20,28,29,30] [1,4] ?_
     refine At.slot (t:=28) (v:=roL 5 zaU (p0.Streets.take i6)) (Sim.seg (Seg.take zaU p0.Streets i6 (by omega))) ?_
     refine At.zad (W.block (At.kp [1,4,18,19,20,28,29,30] [1,4] ?_))
     refine W.len (t:=28) rfl (fun hn9=>?_)
     refine W.zak H (fun i9 (s9:Unit)=>[(1,.lp 1 0),(4,.lp 4 0),(18,roL 5 zaU p0.Streets),(19,.int .i64 (((p0.Streets.length:Nat):Int))),(20,.int .i64 ((i6:Int))),(28,roL 5 zaU (p0.Streets.take i6)),(29,.int .i64 ((((p0.Streets.take i6).length:Nat):Int))),(30,.int .i64 ((i9:Int)))]) (fun i9 (s9:Unit)=>[(1,.cells [roL 11 za7 p0.Versions,roL 5 zaU p0.Streets]),(4,.cells [.int .i64 ((p0.Streets.getD i6 default).Id),.int .i64 ((p0.Streets.getD i6 default).Class),.int .i64 ((p0.Streets.getD i6 default).District),.int .i64 ((p0.Streets.getD i6 default).First),.int .i64 ((p0.Streets.getD i6 default).Many)])]) (.cons .q (.cons .q (.cons .q (.cons .qi (.cons .qi (.cons .q (.cons .qi (.cons .qi .nil)))))))) (.cons .q (.cons .q .nil)) (fun k9 i9 s9 hle9 H1 H2 K0 hK9=>?_)
     refine W.rg env [1,4,18,19,20,28,29,30,31] [1,4] ?_
     refine W.seq (W.cond rfl (fun hb10=>?_) (fun hb10=>?_))
     · have hi9:i9<(p0.Streets.take i6).length:=ltD hb10
       have H:=H1 hi9
       refine W.skip (At.zad (W.seq (W.block (W.sr env [] [] [1,4,6,18,19,20,28,29,30] [1,4,6] rfl rfl rfl (.cons (inD hi9) .nil) .nil ?_))))
       refine W.seq ?_
       obtain ⟨y11,hy12,H⟩:=zac H
       obtain ⟨y13,hy14,H⟩:=zac H
       refine W.region env [] [⟨.bool (y11),[],0,[]⟩,⟨.bool (y13),[],0,[]⟩] rfl rfl rfl (.cons id (.cons id (.cons id (.cons (fun h=>by rw [h];rfl) .nil)))) (.free (zhV (p0.Streets.getD i6 default) (((p0.Streets.take i6).getD i9 default).First) hy12) (.on (fun hW=>zhV ((p0.Streets.take i6).getD i9 default) ((p0.Streets.getD i6 default).First) (zbf hy14 hW)) .nil)) (At.kp [1,4,18,19,20,28,29,30,43] [1,4] ?_)
       refine At.zad (W.co H rfl (fun hb15 H=>?_) (fun hb15 H=>?_))
       · refine W.rg env [2] [] ?_
         refine W.ret (At.rinb ?_)
         refine At.rthen ?_
         refine At.rthen ?_
         refine At.rinb ?_
         refine At.rinb ?_
         refine At.rthen ?_
         refine At.rthen ?_
         refine At.rinb ?_
         refine At.rthen ?_
         cases H
         exact At.rz env hval
       · refine W.skip (At.inb (At.zad (W.region env [] [] rfl rfl rfl (.cons (incD hi9 hn9) .nil) .nil (At.kp [1,4,18,19,20,28,29,30] [1,4] ?_))))
         refine At.zaG (At.kp [1,4,18,19,20,28,29,30] [1,4] ?_)
         exact At.conv (.cons .q (.cons .q (.cons .q (.cons .qi (.cons .qi (.cons .q (.cons .qi (.cons .qi .nil)))))))) (.cons .q (.cons .q .nil)) (hK9 hi9 () H)
     · have H:=H2 (geD hb10)
       refine W.exit (At.xthen (At.xthen (At.xhere (At.inb (At.zad (W.region env [] [] rfl rfl rfl (.cons (incD hi6 hn6) .nil) .nil (At.kp [1,18,19,20] [1] ?_)))))))
       refine At.zaG (At.kp [1,18,19,20] [1] ?_)
       exact At.conv (.cons .q (.cons .q (.cons .qi (.cons .qi .nil)))) (.cons .q .nil) (hK6 hi6 () H)
   · have H:=H2 (geD hb7)
     refine W.exit (At.xthen (At.xthen (At.xhere (At.zad (W.rg env [2] [] ?_)))))
     refine W.ret ?_
     cases H
     exact At.rz env hval
theorem zit (p0:Night):Ctr Tryz.prog 106 [.agg [.int .i64 (p0.No),.int .i64 (p0.Set.Lo),.int .i64 (p0.Set.Hi),.int .i64 (p0.Rise.Lo),.int .i64 (p0.Rise.Hi),.int .i64 (p0.Light.Lo),.int .i64 (p0.Light.Hi),.int .i64 (p0.Fog)]] (.int .i64 ((zbG p0))):=by
 obtain ⟨r,H⟩:∃ r,zbG p0=r:=⟨_,rfl⟩
 rw [H]
 unfold zbG at H
 refine Ctr.ob Tryz.func106 Tryz.ntmps106 (fun w0 h0 hval=>?_)
 refine W.rg env [1] [1] ?_
 refine W.seq (W.sr env [] [⟨.bool ((za8 p0.No)),[],0,[]⟩,⟨.bool ((zaX p0.Set 1439)),[],0,[]⟩,⟨.bool ((zaX p0.Rise 1439)),[],0,[]⟩,⟨.bool ((zaX p0.Light 1000)),[],0,[]⟩,⟨.bool ((zaJ p0.Fog 0 2)),[],0,[]⟩] [39] [] rfl rfl rfl (.cons id (.cons id (.cons id (.cons (fun h=>by rw [h];rfl) (.cons id (.cons id (.cons id (.cons (fun h=>by rw [h];rfl) (.cons id (.cons id (.cons id (.cons id (.cons id (.cons id (.cons (fun h=>by rw [h];rfl) (.cons id (.cons id (.cons id (.cons (fun h=>by rw [h];rfl) (.cons id (.cons id (.cons id (.cons (fun h=>by rw [h];rfl) .nil))))))))))))))))))))))) (.free (zek p0.No) (.on (fun hW=>zdr p0.Set 1439) (.on (fun hW=>zdr p0.Rise 1439) (.on (fun hW=>zdr p0.Light 1000) (.on (fun hW=>zce p0.Fog 0 2) .nil))))) ?_)
 refine W.co H rfl (fun hb1 H=>?_) (fun hb1 H=>?_)
 · refine W.rg env [2] [] ?_
   refine W.ret (At.rthen ?_)
   cases H
   exact At.rz env hval
 · refine W.skip (At.zad (W.rg env [2] [] ?_))
   refine W.ret ?_
   cases H
   exact At.rz env hval
theorem zfw (p0:(List Street)) (p1:Street→Option Bool) (p1_g:Nat) (p1_a p1_b:List AV) (p1_h:∀ x0 r,p1 x0=some r→Ctr Tryz.prog p1_g (p1_a++([.agg [.int .i64 (x0.Id),.int .i64 (x0.Class),.int .i64 (x0.District),.int .i64 (x0.First),.int .i64 (x0.Many)]]++p1_b)) (.bool (r))) {r:Int} (H:zcR p0 p1=some r):Ctr Tryz.prog 158 [roL 5 zaU p0,.clo (.func p1_g) p1_a p1_b] (.int .i64 (r)):=by
 unfold zcR at H
 refine Ctr.ob Tryz.func158 Tryz.ntmps158 (fun w0 h0 hval=>?_)
 refine W.rg env [0,1] [] ?_
 refine W.seq (W.rg env [0,1,7,8] [] ?_)
 refine W.block (At.kp [0,1,7,8] [] ?_)
 refine W.len (t:=0) rfl (fun hn1=>?_)
 refine W.zak H (fun i1 (s1:Unit)=>[(0,roL 5 zaU p0),(1,.clo (.func p1_g) p1_a p1_b),(7,.int .i64 (((p0.length:Nat):Int))),(8,.int .i64 ((i1:Int)))]) (fun i1 (s1:Unit)=>[]) (.cons .q (.cons .q (.cons .qi (.cons .qi .nil)))) .nil (fun k1 i1 s1 hle1 H1 H2 K0 hK1=>?_)
 refine W.rg env [0,1,7,8,9] [] ?_
 refine W.seq (W.cond rfl (fun hb2=>?_) (fun hb2=>?_))
 · have hi1:i1<p0.length:=ltD hb2
   have H:=H1 hi1
   refine W.skip (At.zad (W.seq (W.block (W.rg env [0,1,5,7,8] [] ?_))))
   refine W.seq ?_
   obtain ⟨y3,hy4,H⟩:=zac H
   refine W.region env [] [⟨.bool (y3),[],0,[]⟩] rfl rfl rfl (.cons (inD hi1) .nil) (.free (p1_h (p0.getD i1 default) _ hy4) .nil) (At.kp [0,1,5,7,8,16] [] ?_)
   refine At.zad (W.co H rfl (fun hb5 H=>?_) (fun hb5 H=>?_))
   · refine W.rg env [4] [] ?_
     refine W.ret (At.rinb ?_)
     refine At.rthen ?_
     refine At.rthen ?_
     refine At.rinb ?_
     refine At.rthen ?_
     cases H
     exact At.rz env hval
   · refine W.skip (At.inb (At.zad (W.region env [] [] rfl rfl rfl (.cons (incD hi1 hn1) .nil) .nil (At.kp [0,1,7,8] [] ?_))))
     refine At.zaG (At.kp [0,1,7,8] [] ?_)
     exact At.conv (.cons .q (.cons .q (.cons .qi (.cons .qi .nil)))) .nil (hK1 hi1 () H)
 · have H:=H2 (geD hb2)
   refine W.exit (At.xthen (At.xthen (At.xhere (At.zad (W.rg env [4] [] ?_)))))
   refine W.ret ?_
   cases H
   exact At.rz env hval
theorem zis (p0:Street) (c0:Int) {r:Bool} (H:zdS p0 c0=some r):Ctr Tryz.prog 159 [.agg [.int .i64 (p0.Id),.int .i64 (p0.Class),.int .i64 (p0.District),.int .i64 (p0.First),.int .i64 (p0.Many)],.rp [.int .i64 (c0)]] (.bool (r)):=by
 unfold zdS at H
 refine Ctr.ob Tryz.func159 Tryz.ntmps159 (fun w0 h0 hval=>?_)
 refine W.rg env [1,2] [2] ?_
 refine W.seq ?_
 obtain ⟨y1,hy2,H⟩:=zac H
 refine W.region env [] [⟨.bool (y1),[],0,[]⟩] rfl rfl rfl .nil (.free (zhV p0 c0 hy2) .nil) (At.kp [3] [] ?_)
 refine At.zad (W.ret ?_)
 cases H
 exact At.rz env hval
theorem zjt (p0:Bylaw) (p1:Int) {r:(Street×Int)} (H:zcc p0 p1=some r):Ctr Tryz.prog 146 [.agg [roL 11 za7 p0.Versions,roL 5 zaU p0.Streets],.int .i64 (p1)] (.tup [.agg [.int .i64 (r.1.Id),.int .i64 (r.1.Class),.int .i64 (r.1.District),.int .i64 (r.1.First),.int .i64 (r.1.Many)],.int .i64 (r.2)]):=by
 unfold zcc at H
 refine Ctr.ob Tryz.func146 Tryz.ntmps146 (fun w0 h0 hval=>?_)
 refine W.rg env [2,3,4] [2,3,4] ?_
 refine W.seq ?_
 obtain ⟨y1,hy2,H⟩:=zac H
 refine W.region env [] [⟨.int .i64 (y1),[],0,[]⟩] rfl rfl rfl .nil (.free (zfw p0.Streets (fun x0=>zdS x0 p1) 159 [] ([.rp [.int .i64 (p1)]]) (fun x0 r h=>zis x0 p1 h) hy2) .nil) (At.kp [2,4,6] [2,4] ?_)
 refine At.zad (W.seq (W.rg env [2,4,6,12] [2,4] ?_))
 refine W.co H rfl (fun hb3 H=>?_) (fun hb3 H=>?_)
 · refine W.rg env [4,5] [4] ?_
   refine W.ret (At.rthen ?_)
   cases H
   exact At.rz env hval
 · refine W.skip (At.zad ?_)
   obtain ⟨hc4,H⟩:=zab H
   refine W.sr env [] [] [4,5] [4] rfl rfl rfl (.cons hc4 .nil) .nil ?_
   refine W.ret ?_
   cases H
   exact At.rz env hval
theorem zkE (p0:Bylaw) (p1:Int) (p2:Int) (p3:Int) {r:(Version×Int)} (H:zel p0 p1 p2 p3=some r):Ctr Tryz.prog 147 [.agg [roL 11 za7 p0.Versions,roL 5 zaU p0.Streets],.int .i64 (p1),.int .i64 (p2),.int .i64 (p3)] (.tup [.agg [.int .i64 (r.1.Source),.int .i64 (r.1.Class),.int .i64 (r.1.From),.int .i64 (r.1.On.Lo),.int .i64 (r.1.On.Hi),.int .i64 (r.1.Off.Lo),.int .i64 (r.1.Off.Hi),.int .i64 (r.1.Moon),.int .i64 (r.1.Fog),.int .i64 (r.1.Known),.int .i64 (r.1.Until)],.int .i64 (r.2)]):=by
 unfold zel at H
 refine Ctr.ob Tryz.func147 Tryz.ntmps147 (fun w0 h0 hval=>?_)
 refine W.rg env [1,2,3,4,8] [4,8] ?_
 refine W.rg env [1,2,3,4,8,10] [4,8,10] ?_
 refine W.seq (W.rg env [1,2,3,8,10,14,15,16] [8,10] ?_)
 refine W.block (At.kp [1,2,3,8,10,14,15,16] [8,10] ?_)
 refine W.len (t:=14) rfl (fun hn1=>?_)
 refine W.zak H (fun i1 (s1:Version)=>[(1,.int .i64 (p1)),(2,.int .i64 (p2)),(3,.int .i64 (p3)),(8,.lp 8 0),(10,.lp 10 0),(14,roL 11 za7 p0.Versions),(15,.int .i64 (((p0.Versions.length:Nat):Int))),(16,.int .i64 ((i1:Int)))]) (fun i1 (s1:Version)=>[(8,.cells [.int .i64 (0),.int .i64 (0),.int .i64 (0),.int .i64 (0),.int .i64 (0),.int .i64 (0),.int .i64 (0),.int .i64 (0),.int .i64 (0),.int .i64 (0),.int .i64 (0)]),(10,.cells [.int .i64 (s1.Source),.int .i64 (s1.Class),.int .i64 (s1.From),.int .i64 (s1.On.Lo),.int .i64 (s1.On.Hi),.int .i64 (s1.Off.Lo),.int .i64 (s1.Off.Hi),.int .i64 (s1.Moon),.int .i64 (s1.Fog),.int .i64 (s1.Known),.int .i64 (s1.Until)])]) (.cons .qi (.cons .qi (.cons .qi (.cons .q (.cons .q (.cons .q (.cons .qi (.cons .qi .nil)))))))) (.cons .q (.cons .q .nil)) (fun k1 i1 s1 hle1 H1 H2 K0 hK1=>?_)
 refine W.rg env [1,2,3,8,10,14,15,16,17] [8,10] ?_
 refine W.seq (W.cond rfl (fun hb2=>?_) (fun hb2=>?_))
 · have hi1:i1<p0.Versions.length:=ltD hb2
   have H:=H1 hi1
   refine W.skip (At.zad (W.seq (W.block (W.sr env [] [] [1,2,3,8,10,12,14,15,16] [8,10,12] rfl rfl rfl (.cons (inD hi1) .nil) .nil ?_))))
   refine W.sr env [] [] [1,2,3,8,10,12,14,15,16,53] [8,10,12] rfl rfl rfl (.cons id (.cons id (.cons id (.cons id (.cons id (.cons id (.cons id (.cons id (.cons id (.cons id (.cons id (.cons id (.cons id (.cons id (.cons id (.cons (fun hW h=>by revert hW h;first|(simp +contextual;done)|grind) (.cons id (.cons id (.cons id (.cons id (.cons id (.cons id .nil)))))))))))))))))))))) .nil ?_
   refine W.co H rfl (fun hb3 H=>?_) (fun hb3 H=>?_)
   · refine W.region env [] [] rfl rfl rfl .nil .nil (At.kp [1,2,3,8,10,14,15,16] [8,10] ?_)
     refine At.inb (At.zad (W.region env [] [] rfl rfl rfl (.cons (incD hi1 hn1) .nil) .nil (At.kp [1,2,3,8,10,14,15,16] [8,10] ?_)))
     refine At.zaG (At.kp [1,2,3,8,10,14,15,16] [8,10] ?_)
     exact At.conv (.cons .qi (.cons .qi (.cons .qi (.cons .q (.cons .q (.cons .q (.cons .qi (.cons .qi .nil)))))))) (.cons .q (.cons .q .nil)) (hK1 hi1 (p0.Versions.getD i1 default) H)
   · refine W.skip (At.inb (At.zad (W.region env [] [] rfl rfl rfl (.cons (incD hi1 hn1) .nil) .nil (At.kp [1,2,3,8,10,14,15,16] [8,10] ?_))))
     refine At.zaG (At.kp [1,2,3,8,10,14,15,16] [8,10] ?_)
     exact At.conv (.cons .qi (.cons .qi (.cons .qi (.cons .q (.cons .q (.cons .q (.cons .qi (.cons .qi .nil)))))))) (.cons .q (.cons .q .nil)) (hK1 hi1 s1 H)
 · have H:=H2 (geD hb2)
   refine W.exit (At.xthen (At.xthen (At.xhere (At.zad (W.seq (W.rg env [8,10,58] [8,10] ?_))))))
   refine W.co H rfl (fun hb4 H=>?_) (fun hb4 H=>?_)
   · refine W.rg env [8,9] [8] ?_
     refine W.ret (At.rthen ?_)
     cases H
     exact At.rz env hval
   · refine W.skip (At.zad (W.rg env [8,9] [8] ?_))
     refine W.ret ?_
     cases H
     exact At.rz env hval
theorem zl9 (p0:Bylaw) (p1:Int) (p2:Night) (p3:Int) {r:(bylaw_window×Int)} (H:zff p0 p1 p2 p3=some r):Ctr Tryz.prog 108 [.agg [roL 11 za7 p0.Versions,roL 5 zaU p0.Streets],.int .i64 (p1),.agg [.int .i64 (p2.No),.int .i64 (p2.Set.Lo),.int .i64 (p2.Set.Hi),.int .i64 (p2.Rise.Lo),.int .i64 (p2.Rise.Hi),.int .i64 (p2.Light.Lo),.int .i64 (p2.Light.Hi),.int .i64 (p2.Fog)],.int .i64 (p3)] (.tup [.agg [.int .i64 (r.1.v.Source),.int .i64 (r.1.v.Class),.int .i64 (r.1.v.From),.int .i64 (r.1.v.On.Lo),.int .i64 (r.1.v.On.Hi),.int .i64 (r.1.v.Off.Lo),.int .i64 (r.1.v.Off.Hi),.int .i64 (r.1.v.Moon),.int .i64 (r.1.v.Fog),.int .i64 (r.1.v.Known),.int .i64 (r.1.v.Until),.int .i64 (r.1.n.No),.int .i64 (r.1.n.Set.Lo),.int .i64 (r.1.n.Set.Hi),.int .i64 (r.1.n.Rise.Lo),.int .i64 (r.1.n.Rise.Hi),.int .i64 (r.1.n.Light.Lo),.int .i64 (r.1.n.Light.Hi),.int .i64 (r.1.n.Fog)],.int .i64 (r.2)]):=by
 unfold zff at H
 refine Ctr.ob Tryz.func108 Tryz.ntmps108 (fun w0 h0 hval=>?_)
 refine W.rg env [1,3,4,6,8] [4,6,8] ?_
 refine W.seq ?_
 obtain ⟨y1,hy2,H⟩:=zac H
 refine W.region env [] [⟨.tup [.agg [.int .i64 (y1.1.Id),.int .i64 (y1.1.Class),.int .i64 (y1.1.District),.int .i64 (y1.1.First),.int .i64 (y1.1.Many)],.int .i64 (y1.2)],[],0,[]⟩] rfl rfl rfl .nil (.free (zjt p0 p1 hy2) .nil) (At.kp [3,4,6,8,10,11] [4,6,8,10] ?_)
 refine At.zad (W.seq (W.rg env [3,4,6,8,10,11,20] [4,6,8,10] ?_))
 refine W.co H rfl (fun hb3 H=>?_) (fun hb3 H=>?_)
 · refine W.rg env [8,9] [8] ?_
   refine W.ret (At.rthen ?_)
   cases H
   exact At.rz env hval
 · refine W.skip (At.zad (W.seq ?_))
   obtain ⟨y4,hy5,H⟩:=zac H
   refine W.region env [] [⟨.tup [.agg [.int .i64 (y4.1.Source),.int .i64 (y4.1.Class),.int .i64 (y4.1.From),.int .i64 (y4.1.On.Lo),.int .i64 (y4.1.On.Hi),.int .i64 (y4.1.Off.Lo),.int .i64 (y4.1.Off.Hi),.int .i64 (y4.1.Moon),.int .i64 (y4.1.Fog),.int .i64 (y4.1.Known),.int .i64 (y4.1.Until)],.int .i64 (y4.2)],[],0,[]⟩] rfl rfl rfl .nil (.free (zkE p0 y1.1.Class p2.No p3 hy5) .nil) (At.kp [6,8,11,12] [6,8,12] ?_)
   refine At.zad (W.rg env [8,9] [8] ?_)
   refine W.ret ?_
   cases H
   exact At.rz env hval
theorem zm6 (p0:Bylaw) (p1:Int) (p2:Night) (p3:Int) {r:(bylaw_window×Int)} (H:zfP p0 p1 p2 p3=some r):Ctr Tryz.prog 65 [.agg [roL 11 za7 p0.Versions,roL 5 zaU p0.Streets],.int .i64 (p1),.agg [.int .i64 (p2.No),.int .i64 (p2.Set.Lo),.int .i64 (p2.Set.Hi),.int .i64 (p2.Rise.Lo),.int .i64 (p2.Rise.Hi),.int .i64 (p2.Light.Lo),.int .i64 (p2.Light.Hi),.int .i64 (p2.Fog)],.int .i64 (p3)] (.tup [.agg [.int .i64 (r.1.v.Source),.int .i64 (r.1.v.Class),.int .i64 (r.1.v.From),.int .i64 (r.1.v.On.Lo),.int .i64 (r.1.v.On.Hi),.int .i64 (r.1.v.Off.Lo),.int .i64 (r.1.v.Off.Hi),.int .i64 (r.1.v.Moon),.int .i64 (r.1.v.Fog),.int .i64 (r.1.v.Known),.int .i64 (r.1.v.Until),.int .i64 (r.1.n.No),.int .i64 (r.1.n.Set.Lo),.int .i64 (r.1.n.Set.Hi),.int .i64 (r.1.n.Rise.Lo),.int .i64 (r.1.n.Rise.Hi),.int .i64 (r.1.n.Light.Lo),.int .i64 (r.1.n.Light.Hi),.int .i64 (r.1.n.Fog)],.int .i64 (r.2)]):=by
 unfold zfP at H
 refine Ctr.ob Tryz.func65 Tryz.ntmps65 (fun w0 h0 hval=>?_)
 refine W.rg env [1,3,4,6,8] [4,6,8] ?_
 refine W.seq (W.seq ?_)
 obtain ⟨y1,hy2,H⟩:=zac H
 refine W.region env [] [⟨.int .i64 (y1),[],0,[]⟩] rfl rfl rfl .nil (.free (zma p0 hy2) .nil) (At.kp [1,3,4,6,8,10] [4,6,8] ?_)
 refine At.zad (W.rg env [1,3,4,6,8,10,15] [4,6,8] ?_)
 refine W.co H rfl (fun hb3 H=>?_) (fun hb3 H=>?_)
 · refine W.rg env [8,9] [8] ?_
   refine W.ret (At.rthen ?_)
   cases H
   exact At.rz env hval
 · refine W.skip (At.zad (W.seq (W.sr env [] [⟨.int .i64 ((zbG p2)),[],0,[]⟩] [1,3,4,6,8,11] [4,6,8] rfl rfl rfl .nil (.free (zit p2) .nil) ?_)))
   refine W.rg env [1,3,4,6,8,11,21] [4,6,8] ?_
   refine W.co H rfl (fun hb4 H=>?_) (fun hb4 H=>?_)
   · refine W.rg env [8,9] [8] ?_
     refine W.ret (At.rthen ?_)
     cases H
     exact At.rz env hval
   · refine W.skip (At.zad (W.seq (W.sr env [] [⟨.bool ((za8 p3)),[],0,[]⟩] [1,3,4,6,8,26] [4,6,8] rfl rfl rfl .nil (.free (zek p3) .nil) ?_)))
     refine W.co H rfl (fun hb5 H=>?_) (fun hb5 H=>?_)
     · refine W.rg env [8,9] [8] ?_
       refine W.ret (At.rthen ?_)
       cases H
       exact At.rz env hval
     · refine W.skip (At.zad (W.seq ?_))
       obtain ⟨y6,hy7,H⟩:=zac H
       refine W.region env [] [⟨.tup [.agg [.int .i64 (y6.1.v.Source),.int .i64 (y6.1.v.Class),.int .i64 (y6.1.v.From),.int .i64 (y6.1.v.On.Lo),.int .i64 (y6.1.v.On.Hi),.int .i64 (y6.1.v.Off.Lo),.int .i64 (y6.1.v.Off.Hi),.int .i64 (y6.1.v.Moon),.int .i64 (y6.1.v.Fog),.int .i64 (y6.1.v.Known),.int .i64 (y6.1.v.Until),.int .i64 (y6.1.n.No),.int .i64 (y6.1.n.Set.Lo),.int .i64 (y6.1.n.Set.Hi),.int .i64 (y6.1.n.Rise.Lo),.int .i64 (y6.1.n.Rise.Hi),.int .i64 (y6.1.n.Light.Lo),.int .i64 (y6.1.n.Light.Hi),.int .i64 (y6.1.n.Fog)],.int .i64 (y6.2)],[],0,[]⟩] rfl rfl rfl .nil (.free (zl9 p0 p1 p2 p3 hy7) .nil) (At.kp [8,9] [8] ?_)
       refine At.zad (W.ret ?_)
       cases H
       exact At.rz env hval
theorem zfd (p0:bylaw_window):Ctr Tryz.prog 109 [.agg [.int .i64 (p0.v.Source),.int .i64 (p0.v.Class),.int .i64 (p0.v.From),.int .i64 (p0.v.On.Lo),.int .i64 (p0.v.On.Hi),.int .i64 (p0.v.Off.Lo),.int .i64 (p0.v.Off.Hi),.int .i64 (p0.v.Moon),.int .i64 (p0.v.Fog),.int .i64 (p0.v.Known),.int .i64 (p0.v.Until),.int .i64 (p0.n.No),.int .i64 (p0.n.Set.Lo),.int .i64 (p0.n.Set.Hi),.int .i64 (p0.n.Rise.Lo),.int .i64 (p0.n.Rise.Hi),.int .i64 (p0.n.Light.Lo),.int .i64 (p0.n.Light.Hi),.int .i64 (p0.n.Fog)]] (.int .i64 ((zbd p0))):=by
 obtain ⟨r,H⟩:∃ r,zbd p0=r:=⟨_,rfl⟩
 rw [H]
 unfold zbd at H
 refine Ctr.ob Tryz.func109 Tryz.ntmps109 (fun w0 h0 hval=>?_)
 refine W.rg env [1] [1] ?_
 refine W.rg env [1,3] [1] ?_
 refine W.seq (W.block (W.sr env [] [] [1,12] [1] rfl rfl rfl (.cons (fun h=>by rw [h];rfl) .nil) .nil ?_))
 refine W.co H rfl (fun hb1 H=>?_) (fun hb1 H=>?_)
 · refine W.rg env [2] [] ?_
   refine W.ret (At.rinb ?_)
   refine At.rthen ?_
   cases H
   exact At.rz env hval
 · refine W.sr env [] [] [20] [] rfl rfl rfl (.cons id (.cons id (.cons id (.cons id (.cons id (.cons id (.cons id (.cons id .nil)))))))) .nil ?_
   refine W.co H rfl (fun hb2 H=>?_) (fun hb2 H=>?_)
   · refine W.rg env [2] [] ?_
     refine W.ret (At.rinb ?_)
     refine At.rthen ?_
     cases H
     exact At.rz env hval
   · refine W.skip (At.inb (At.zad (W.rg env [2] [] ?_)))
     refine W.ret ?_
     cases H
     exact At.rz env hval
theorem zej (p0:bylaw_window) (p1:Option Range) (p1_g:Nat) (p1_a p1_b:List AV) (p1_h:∀  r,p1  = some r→Ctr Tryz.prog p1_g (p1_a++([]++p1_b)) (.agg [.int .i64 (r.Lo),.int .i64 (r.Hi)])) {r:(Range×Int)} (H:zbt p0 p1=some r):Ctr Tryz.prog 110 [.agg [.int .i64 (p0.v.Source),.int .i64 (p0.v.Class),.int .i64 (p0.v.From),.int .i64 (p0.v.On.Lo),.int .i64 (p0.v.On.Hi),.int .i64 (p0.v.Off.Lo),.int .i64 (p0.v.Off.Hi),.int .i64 (p0.v.Moon),.int .i64 (p0.v.Fog),.int .i64 (p0.v.Known),.int .i64 (p0.v.Until),.int .i64 (p0.n.No),.int .i64 (p0.n.Set.Lo),.int .i64 (p0.n.Set.Hi),.int .i64 (p0.n.Rise.Lo),.int .i64 (p0.n.Rise.Hi),.int .i64 (p0.n.Light.Lo),.int .i64 (p0.n.Light.Hi),.int .i64 (p0.n.Fog)],.clo (.func p1_g) p1_a p1_b] (.tup [.agg [.int .i64 (r.1.Lo),.int .i64 (r.1.Hi)],.int .i64 (r.2)]):=by
 unfold zbt at H
 refine Ctr.ob Tryz.func110 Tryz.ntmps110 (fun w0 h0 hval=>?_)
 refine W.rg env [1,2,4] [2,4] ?_
 refine W.seq (W.sr env [] [⟨.int .i64 ((zbd p0)),[],0,[]⟩] [1,4,9] [4] rfl rfl rfl .nil (.free (zfd p0) .nil) ?_)
 refine W.co H rfl (fun hb1 H=>?_) (fun hb1 H=>?_)
 · refine W.rg env [4,5] [4] ?_
   refine W.ret (At.rthen ?_)
   cases H
   exact At.rz env hval
 · refine W.skip (At.zad (W.seq ?_))
   obtain ⟨y2,hy3,H⟩:=zac H
   refine W.region env [] [⟨.agg [.int .i64 (y2.Lo),.int .i64 (y2.Hi)],[],0,[]⟩] rfl rfl rfl .nil (.free (p1_h  _ hy3) .nil) (At.kp [4,6] [4,6] ?_)
   refine At.zad (W.seq (W.rg env [4,6,17] [4,6] ?_))
   refine W.co H rfl (fun hb4 H=>?_) (fun hb4 H=>?_)
   · refine W.rg env [4,5] [4] ?_
     refine W.ret (At.rthen ?_)
     cases H
     exact At.rz env hval
   · refine W.skip (At.zad (W.rg env [4,5] [4] ?_))
     refine W.ret ?_
     cases H
     exact At.rz env hval
theorem zfe (p0:bylaw_window) (p1:(List Int)) {r:Int} (H:zcg p0 p1=some r):Ctr Tryz.prog 149 [.agg [.int .i64 (p0.v.Source),.int .i64 (p0.v.Class),.int .i64 (p0.v.From),.int .i64 (p0.v.On.Lo),.int .i64 (p0.v.On.Hi),.int .i64 (p0.v.Off.Lo),.int .i64 (p0.v.Off.Hi),.int .i64 (p0.v.Moon),.int .i64 (p0.v.Fog),.int .i64 (p0.v.Known),.int .i64 (p0.v.Until),.int .i64 (p0.n.No),.int .i64 (p0.n.Set.Lo),.int .i64 (p0.n.Set.Hi),.int .i64 (p0.n.Rise.Lo),.int .i64 (p0.n.Rise.Hi),.int .i64 (p0.n.Light.Lo),.int .i64 (p0.n.Light.Hi),.int .i64 (p0.n.Fog)],roL 1 zaa p1] (.int .i64 (r)):=by
 unfold zcg at H
 refine Ctr.ob Tryz.func149 Tryz.ntmps149 (fun w0 h0 hval=>?_)
 refine W.rg env [1,2] [2] ?_
 refine W.seq (W.rg env [2,7,8,9] [2] ?_)
 refine W.block (At.kp [2,7,8,9] [2] ?_)
 refine W.len (t:=7) rfl (fun hn1=>?_)
 refine W.zak H (fun i1 (s1:Unit)=>[(2,.lp 2 0),(7,roL 1 zaa p1),(8,.int .i64 (((p1.length:Nat):Int))),(9,.int .i64 ((i1:Int)))]) (fun i1 (s1:Unit)=>[(2,.cells [.int .i64 (p0.v.Source),.int .i64 (p0.v.Class),.int .i64 (p0.v.From),.int .i64 (p0.v.On.Lo),.int .i64 (p0.v.On.Hi),.int .i64 (p0.v.Off.Lo),.int .i64 (p0.v.Off.Hi),.int .i64 (p0.v.Moon),.int .i64 (p0.v.Fog),.int .i64 (p0.v.Known),.int .i64 (p0.v.Until),.int .i64 (p0.n.No),.int .i64 (p0.n.Set.Lo),.int .i64 (p0.n.Set.Hi),.int .i64 (p0.n.Rise.Lo),.int .i64 (p0.n.Rise.Hi),.int .i64 (p0.n.Light.Lo),.int .i64 (p0.n.Light.Hi),.int .i64 (p0.n.Fog)])]) (.cons .q (.cons .q (.cons .qi (.cons .qi .nil)))) (.cons .q .nil) (fun k1 i1 s1 hle1 H1 H2 K0 hK1=>?_)
 refine W.rg env [2,7,8,9,10] [2] ?_
 refine W.seq (W.cond rfl (fun hb2=>?_) (fun hb2=>?_))
 · have hi1:i1<p1.length:=ltD hb2
   have H:=H1 hi1
   refine W.skip (At.zad (W.seq (W.block (W.sr env [] [] [2,6,7,8,9] [2] rfl rfl rfl (.cons (inD hi1) .nil) .nil ?_))))
   refine W.rg env [2,7,8,9,17] [2] ?_
   refine W.co H rfl (fun hb3 H=>?_) (fun hb3 H=>?_)
   · refine W.rg env [4] [] ?_
     refine W.ret (At.rinb ?_)
     refine At.rthen ?_
     refine At.rthen ?_
     refine At.rinb ?_
     refine At.rthen ?_
     cases H
     exact At.rz env hval
   · refine W.skip (At.inb (At.zad (W.region env [] [] rfl rfl rfl (.cons (incD hi1 hn1) .nil) .nil (At.kp [2,7,8,9] [2] ?_))))
     refine At.zaG (At.kp [2,7,8,9] [2] ?_)
     exact At.conv (.cons .q (.cons .q (.cons .qi (.cons .qi .nil)))) (.cons .q .nil) (hK1 hi1 () H)
 · have H:=H2 (geD hb2)
   refine W.exit (At.xthen (At.xthen (At.xhere (At.zad (W.rg env [4] [] ?_)))))
   refine W.ret ?_
   cases H
   exact At.rz env hval
theorem zji (p0:Int) (p1:Int):Ctr Tryz.prog 148 [.int .i64 (p0),.int .i64 (p1)] (.agg [.int .i64 ((zcu p0 p1).Lo),.int .i64 ((zcu p0 p1).Hi)]):=by
 obtain ⟨r,H⟩:∃ r,zcu p0 p1=r:=⟨_,rfl⟩
 rw [H]
 unfold zcu at H
 refine Ctr.ob Tryz.func148 Tryz.ntmps148 (fun w0 h0 hval=>?_)
 refine W.rg env [0,1,4] [4] ?_
 refine W.rg env [4] [4] ?_
 refine W.ret ?_
 cases H
 exact At.rz env hval
theorem zir (p0:bylaw_window) {r:Range} (H:zct p0=some r):Ctr Tryz.prog 111 [.agg [.int .i64 (p0.v.Source),.int .i64 (p0.v.Class),.int .i64 (p0.v.From),.int .i64 (p0.v.On.Lo),.int .i64 (p0.v.On.Hi),.int .i64 (p0.v.Off.Lo),.int .i64 (p0.v.Off.Hi),.int .i64 (p0.v.Moon),.int .i64 (p0.v.Fog),.int .i64 (p0.v.Known),.int .i64 (p0.v.Until),.int .i64 (p0.n.No),.int .i64 (p0.n.Set.Lo),.int .i64 (p0.n.Set.Hi),.int .i64 (p0.n.Rise.Lo),.int .i64 (p0.n.Rise.Hi),.int .i64 (p0.n.Light.Lo),.int .i64 (p0.n.Light.Hi),.int .i64 (p0.n.Fog)]] (.agg [.int .i64 (r.Lo),.int .i64 (r.Hi)]):=by
 unfold zct at H
 refine Ctr.ob Tryz.func111 Tryz.ntmps111 (fun w0 h0 hval=>?_)
 refine W.rg env [1,2] [1,2] ?_
 refine W.seq ?_
 obtain ⟨hc1,H⟩:=zab H
 obtain ⟨y2,hy3,H⟩:=zac H
 obtain ⟨hc4,H⟩:=zab H
 obtain ⟨hc5,H⟩:=zab H
 obtain ⟨y6,hy7,H⟩:=zac H
 obtain ⟨hc8,H⟩:=zab H
 refine W.region env [] [⟨.int .i64 (y2),[],0,[]⟩,⟨.int .i64 (y6),[],0,[]⟩,⟨.agg [.int .i64 ((zcu ((p0.n.Set.Hi+p0.v.On.Lo) - y2) ((p0.n.Set.Lo+p0.v.On.Hi) - y6)).Lo),.int .i64 ((zcu ((p0.n.Set.Hi+p0.v.On.Lo) - y2) ((p0.n.Set.Lo+p0.v.On.Hi) - y6)).Hi)],[],0,[]⟩] rfl rfl (by kernel_rfl) (.cons hc1 (.cons hc4 (.cons hc5 (.cons hc8 .nil)))) (.free (Ctr.sim (.cons (.refl _) (.cons (Sim.lit (f:=zaa) ([1]:List Int) rfl rfl (fun _=>rfl)) .nil)) (zfe p0 ([1]:List Int) hy3)) (.free (Ctr.sim (.cons (.refl _) (.cons (Sim.lit (f:=zaa) ([1,2]:List Int) rfl rfl (fun _=>rfl)) .nil)) (zfe p0 ([1,2]:List Int) hy7)) (.free (zji ((p0.n.Set.Hi+p0.v.On.Lo) - y2) ((p0.n.Set.Lo+p0.v.On.Hi) - y6)) .nil))) (At.kp [2] [2] ?_)
 refine At.zad (W.ret ?_)
 cases H
 exact At.rz env hval
theorem zhU (p0:bylaw_window) {r:Range} (H:zcf p0=some r):Ctr Tryz.prog 112 [.agg [.int .i64 (p0.v.Source),.int .i64 (p0.v.Class),.int .i64 (p0.v.From),.int .i64 (p0.v.On.Lo),.int .i64 (p0.v.On.Hi),.int .i64 (p0.v.Off.Lo),.int .i64 (p0.v.Off.Hi),.int .i64 (p0.v.Moon),.int .i64 (p0.v.Fog),.int .i64 (p0.v.Known),.int .i64 (p0.v.Until),.int .i64 (p0.n.No),.int .i64 (p0.n.Set.Lo),.int .i64 (p0.n.Set.Hi),.int .i64 (p0.n.Rise.Lo),.int .i64 (p0.n.Rise.Hi),.int .i64 (p0.n.Light.Lo),.int .i64 (p0.n.Light.Hi),.int .i64 (p0.n.Fog)]] (.agg [.int .i64 (r.Lo),.int .i64 (r.Hi)]):=by
 unfold zcf at H
 refine Ctr.ob Tryz.func112 Tryz.ntmps112 (fun w0 h0 hval=>?_)
 refine W.rg env [1,2] [1,2] ?_
 obtain ⟨hc1,H⟩:=zab H
 obtain ⟨hc2,H⟩:=zab H
 refine W.sr env [] [⟨.agg [.int .i64 ((zcu (p0.n.Rise.Hi - p0.v.Off.Hi) (p0.n.Rise.Lo - p0.v.Off.Lo)).Lo),.int .i64 ((zcu (p0.n.Rise.Hi - p0.v.Off.Hi) (p0.n.Rise.Lo - p0.v.Off.Lo)).Hi)],[],0,[]⟩] [2] [2] rfl rfl rfl (.cons hc1 (.cons hc2 .nil)) (.free (zji (p0.n.Rise.Hi - p0.v.Off.Hi) (p0.n.Rise.Lo - p0.v.Off.Lo)) .nil) ?_
 refine W.ret ?_
 cases H
 exact At.rz env hval
theorem zhq (p0:bylaw_window) {r:(Duty×Int)} (H:zcB p0=some r):Ctr Tryz.prog 66 [.agg [.int .i64 (p0.v.Source),.int .i64 (p0.v.Class),.int .i64 (p0.v.From),.int .i64 (p0.v.On.Lo),.int .i64 (p0.v.On.Hi),.int .i64 (p0.v.Off.Lo),.int .i64 (p0.v.Off.Hi),.int .i64 (p0.v.Moon),.int .i64 (p0.v.Fog),.int .i64 (p0.v.Known),.int .i64 (p0.v.Until),.int .i64 (p0.n.No),.int .i64 (p0.n.Set.Lo),.int .i64 (p0.n.Set.Hi),.int .i64 (p0.n.Rise.Lo),.int .i64 (p0.n.Rise.Hi),.int .i64 (p0.n.Light.Lo),.int .i64 (p0.n.Light.Hi),.int .i64 (p0.n.Fog)]] (.tup [.agg [.int .i64 (r.1.Lit),.int .i64 (r.1.On.Lo),.int .i64 (r.1.On.Hi),.int .i64 (r.1.Off.Lo),.int .i64 (r.1.Off.Hi)],.int .i64 (r.2)]):=by
 unfold zcB at H
 refine Ctr.ob Tryz.func66 Tryz.ntmps66 (fun w0 h0 hval=>?_)
 refine W.rg env [1,2] [1,2] ?_
 refine W.sr env [] [⟨.int .i64 ((zbd p0)),[],0,[]⟩] [1,2,4] [1,2] rfl rfl rfl .nil (.free (zfd p0) .nil) ?_
 refine W.seq (W.rg env [1,2,4,11] [1,2] ?_)
 refine W.co H rfl (fun hb1 H=>?_) (fun hb1 H=>?_)
 · refine W.rg env [2,3] [2] ?_
   refine W.ret (At.rthen ?_)
   cases H
   exact At.rz env hval
 · refine W.skip (At.zad (W.seq ?_))
   obtain ⟨y2,hy3,H⟩:=zac H
   refine W.region env [] [⟨.tup [.agg [.int .i64 (y2.1.Lo),.int .i64 (y2.1.Hi)],.int .i64 (y2.2)],[],0,[]⟩] rfl rfl rfl .nil (.free (zej p0 (zct p0) 111 ([.agg [.int .i64 (p0.v.Source),.int .i64 (p0.v.Class),.int .i64 (p0.v.From),.int .i64 (p0.v.On.Lo),.int .i64 (p0.v.On.Hi),.int .i64 (p0.v.Off.Lo),.int .i64 (p0.v.Off.Hi),.int .i64 (p0.v.Moon),.int .i64 (p0.v.Fog),.int .i64 (p0.v.Known),.int .i64 (p0.v.Until),.int .i64 (p0.n.No),.int .i64 (p0.n.Set.Lo),.int .i64 (p0.n.Set.Hi),.int .i64 (p0.n.Rise.Lo),.int .i64 (p0.n.Rise.Hi),.int .i64 (p0.n.Light.Lo),.int .i64 (p0.n.Light.Hi),.int .i64 (p0.n.Fog)]]) [] (fun  r h=>zir p0 h) hy3) .nil) (At.kp [1,2,4,5,6] [1,2,5] ?_)
   refine At.zad (W.seq (W.rg env [1,2,4,5,6,21] [1,2,5] ?_))
   refine W.co H rfl (fun hb4 H=>?_) (fun hb4 H=>?_)
   · refine W.rg env [2,3] [2] ?_
     refine W.ret (At.rthen ?_)
     cases H
     exact At.rz env hval
   · refine W.skip (At.zad (W.seq ?_))
     obtain ⟨y5,hy6,H⟩:=zac H
     refine W.region env [] [⟨.tup [.agg [.int .i64 (y5.1.Lo),.int .i64 (y5.1.Hi)],.int .i64 (y5.2)],[],0,[]⟩] rfl rfl rfl .nil (.free (zej p0 (zcf p0) 112 ([.agg [.int .i64 (p0.v.Source),.int .i64 (p0.v.Class),.int .i64 (p0.v.From),.int .i64 (p0.v.On.Lo),.int .i64 (p0.v.On.Hi),.int .i64 (p0.v.Off.Lo),.int .i64 (p0.v.Off.Hi),.int .i64 (p0.v.Moon),.int .i64 (p0.v.Fog),.int .i64 (p0.v.Known),.int .i64 (p0.v.Until),.int .i64 (p0.n.No),.int .i64 (p0.n.Set.Lo),.int .i64 (p0.n.Set.Hi),.int .i64 (p0.n.Rise.Lo),.int .i64 (p0.n.Rise.Hi),.int .i64 (p0.n.Light.Lo),.int .i64 (p0.n.Light.Hi),.int .i64 (p0.n.Fog)]]) [] (fun  r h=>zhU p0 h) hy6) .nil) (At.kp [2,4,5,6,7] [2,5,7] ?_)
     refine At.zad (W.seq (W.rg env [2,4,5,6,7,32] [2,5,7] ?_))
     refine W.co H rfl (fun hb7 H=>?_) (fun hb7 H=>?_)
     · refine W.rg env [2,3] [2] ?_
       refine W.ret (At.rthen ?_)
       cases H
       exact At.rz env hval
     · refine W.skip (At.zad (W.rg env [2,3] [2] ?_))
       refine W.ret ?_
       cases H
       exact At.rz env hval
theorem zjj (p0:Bylaw) (p1:Int) (p2:Night) (p3:Int) {r:(Duty×Int)} (H:zew p0 p1 p2 p3=some r):Ctr Tryz.prog 22 [.agg [roL 11 za7 p0.Versions,roL 5 zaU p0.Streets],.int .i64 (p1),.agg [.int .i64 (p2.No),.int .i64 (p2.Set.Lo),.int .i64 (p2.Set.Hi),.int .i64 (p2.Rise.Lo),.int .i64 (p2.Rise.Hi),.int .i64 (p2.Light.Lo),.int .i64 (p2.Light.Hi),.int .i64 (p2.Fog)],.int .i64 (p3)] (.tup [.agg [.int .i64 (r.1.Lit),.int .i64 (r.1.On.Lo),.int .i64 (r.1.On.Hi),.int .i64 (r.1.Off.Lo),.int .i64 (r.1.Off.Hi)],.int .i64 (r.2)]):=by
 unfold zew at H
 refine Ctr.ob Tryz.func22 Tryz.ntmps22 (fun w0 h0 hval=>?_)
 refine W.rg env [1,3,4,6,8] [4,6,8] ?_
 refine W.seq ?_
 obtain ⟨y1,hy2,H⟩:=zac H
 refine W.region env [] [⟨.tup [.agg [.int .i64 (y1.1.v.Source),.int .i64 (y1.1.v.Class),.int .i64 (y1.1.v.From),.int .i64 (y1.1.v.On.Lo),.int .i64 (y1.1.v.On.Hi),.int .i64 (y1.1.v.Off.Lo),.int .i64 (y1.1.v.Off.Hi),.int .i64 (y1.1.v.Moon),.int .i64 (y1.1.v.Fog),.int .i64 (y1.1.v.Known),.int .i64 (y1.1.v.Until),.int .i64 (y1.1.n.No),.int .i64 (y1.1.n.Set.Lo),.int .i64 (y1.1.n.Set.Hi),.int .i64 (y1.1.n.Rise.Lo),.int .i64 (y1.1.n.Rise.Hi),.int .i64 (y1.1.n.Light.Lo),.int .i64 (y1.1.n.Light.Hi),.int .i64 (y1.1.n.Fog)],.int .i64 (y1.2)],[],0,[]⟩] rfl rfl rfl .nil (.free (zm6 p0 p1 p2 p3 hy2) .nil) (At.kp [8,10,11] [8,10] ?_)
 refine At.zad (W.seq (W.rg env [8,10,11,21] [8,10] ?_))
 refine W.co H rfl (fun hb3 H=>?_) (fun hb3 H=>?_)
 · refine W.rg env [8,9] [8] ?_
   refine W.ret (At.rthen ?_)
   cases H
   exact At.rz env hval
 · refine W.skip (At.zad (W.seq ?_))
   obtain ⟨y4,hy5,H⟩:=zac H
   refine W.region env [] [⟨.tup [.agg [.int .i64 (y4.1.Lit),.int .i64 (y4.1.On.Lo),.int .i64 (y4.1.On.Hi),.int .i64 (y4.1.Off.Lo),.int .i64 (y4.1.Off.Hi)],.int .i64 (y4.2)],[],0,[]⟩] rfl rfl rfl .nil (.free (zhq y1.1 hy5) .nil) (At.kp [8,9] [8] ?_)
   refine At.zad (W.ret ?_)
   cases H
   exact At.rz env hval
theorem zmb (p0:Bylaw) (p1:Int) (p2:Night) (p3:Int) {r:(Range×Int)} (H:zex p0 p1 p2 p3=some r):Ctr Tryz.prog 21 [.agg [roL 11 za7 p0.Versions,roL 5 zaU p0.Streets],.int .i64 (p1),.agg [.int .i64 (p2.No),.int .i64 (p2.Set.Lo),.int .i64 (p2.Set.Hi),.int .i64 (p2.Rise.Lo),.int .i64 (p2.Rise.Hi),.int .i64 (p2.Light.Lo),.int .i64 (p2.Light.Hi),.int .i64 (p2.Fog)],.int .i64 (p3)] (.tup [.agg [.int .i64 (r.1.Lo),.int .i64 (r.1.Hi)],.int .i64 (r.2)]):=by
 unfold zex at H
 refine Ctr.ob Tryz.func21 Tryz.ntmps21 (fun w0 h0 hval=>?_)
 refine W.rg env [1,3,4,6,8] [4,6,8] ?_
 refine W.seq ?_
 obtain ⟨y1,hy2,H⟩:=zac H
 refine W.region env [] [⟨.tup [.agg [.int .i64 (y1.1.Lit),.int .i64 (y1.1.On.Lo),.int .i64 (y1.1.On.Hi),.int .i64 (y1.1.Off.Lo),.int .i64 (y1.1.Off.Hi)],.int .i64 (y1.2)],[],0,[]⟩] rfl rfl rfl .nil (.free (zjj p0 p1 p2 p3 hy2) .nil) (At.kp [8,10,11] [8,10] ?_)
 refine At.zad (W.seq (W.sr env [] [] [8,10,11,27] [8,10] rfl rfl rfl (.cons id (.cons id (.cons (fun h=>by rw [h];rfl) .nil))) .nil ?_))
 refine W.co H rfl (fun hb3 H=>?_) (fun hb3 H=>?_)
 · refine W.rg env [8,9] [8] ?_
   refine W.ret (At.rthen ?_)
   cases H
   exact At.rz env hval
 · refine W.skip (At.zad ?_)
   obtain ⟨hc4,H⟩:=zab H
   obtain ⟨hc5,H⟩:=zab H
   refine W.sr env [] [] [8,10,12] [8,10,12] rfl rfl rfl (.cons hc4 (.cons hc5 .nil)) .nil ?_
   refine W.seq (W.rg env [8,12,49] [8,12] ?_)
   refine W.zkK H (fun (s6:Int)=>[(8,.lp 8 0),(12,.lp 12 0)]) (fun (s6:Int)=>[(8,.cells [.int .i64 (0),.int .i64 (0)]),(12,.cells [.int .i64 (s6),.int .i64 ((max (y1.1.Off.Hi - y1.1.On.Lo) 0))])]) (fun s6 H=>?_) (fun k6 H hK6=>?_)
   · refine W.rg env [8,9] [8] ?_
     refine W.ret ?_
     cases H
     exact At.rz env hval
   · refine W.co H rfl (fun hb7 H=>?_) (fun hb7 H=>?_)
     · refine W.region env [] [] rfl rfl rfl .nil .nil (At.kp [8,12] [8,12] ?_)
       refine At.zaG (At.kp [8,12] [8,12] ?_)
       exact At.conv (.cons .q (.cons .q .nil)) (.cons .q (.cons .q .nil)) (hK6 0 H)
     · refine W.skip (At.zaG (At.kp [8,12] [8,12] ?_))
       exact At.conv (.cons .q (.cons .q .nil)) (.cons .q (.cons .q .nil)) (hK6 (max (y1.1.Off.Lo - y1.1.On.Hi) 0) H)
end Go.Sp
