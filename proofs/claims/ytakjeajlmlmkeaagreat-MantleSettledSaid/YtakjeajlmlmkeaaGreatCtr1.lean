/- Printed by gen.py. -/
import Derived.Test.YtakjeajlmlmkeaaGreatFr4
import Derived.Test.YtakjeajlmlmkeaaGreatFr3
import Derived.Test.YtakjeajlmlmkeaaGreatProg
import Derived.KernelRfl
import Derived.Shelf.Spec.SlicesInsert
import Derived.Tactics
import Derived.Tactics2
set_option linter.all false
set_option maxRecDepth 100000
set_option maxHeartbeats 1000000
set_option linter.unusedVariables false
namespace Go.Proofs
open Go.Shelf Go.RowKit Go.Lib
theorem zcT {P:Program} (w:World) {ops:Array Oper} {rest:List Oper} {o:Oper} {a:Act} {Q:Exit→Act→World→Prop} (hgd:o.guard=none) (d s:Operand) (t t':TypeId)
 (ho:o.op = .call { callee:=.builtin .append,args:=#[d,s],argTypes:=#[t,t'] }) (v u:Value) (hd:a.eval d=v) (hs:a.eval s=u) {v':Value} {w':World}
 (hr:(Builtin.append_ #[t,t'] o.type #[v,u]).run P w = .ok v' w') (h:wpList P ops Q rest (a.put o.dst v') w'):wpList P ops Q (o::rest) a w:=
 wpList_plain hgd fun _ hK=>by
  unfold Oper.wp execOp
  simp only [ho,resolve,invoke,builtin,Sem.run_bind,Sem.run_pure,Result.andThen_ok,List.map_toArray,List.map_cons,List.map_nil,hd,hs,hr]
  exact hK _ _ h
set_option maxHeartbeats 4000000 in
set_option maxRecDepth 100000 in
theorem zlP:Go.Av.InsW Tryz.prog 66 25 3 137 6 where
 shift:=by
  intro g n c i vb vc w W1 W2 hi hroom hc63 hov hcp1 hcp2
  have hz2:¬ ((i:Int)=(n:Int)):=by omega
  have hw1:IntKind.i64.wrap ((i:Int)+1)=(i:Int)+1:=by rw [IntKind.wrap_i64];omega
  have hw2:IntKind.i64.wrap ((n:Int)+1)=(n:Int)+1:=by rw [IntKind.wrap_i64];omega
  have hb1:(0:Int)≤(i:Int)+1:=by omega
  have hin:i≤n:=by omega
  have htn:((i:Int)+1).toNat=i+1:=by omega
  have hb3:(i:Int)≤(n:Int)+1:=by omega
  have hb2:¬ (c=i+1):=by omega
  have hb4:¬ (c=i):=by omega
  have mixed:Tryz.prog.follows .mixedOrders=true:=by kernel_rfl
  go_enter Tryz.func66,Tryz.ntmps66
  go_wp2_with (simp only [hov])
  go_region_law_o (refine step_copy_runI rfl _ _ 25 25 rfl _ _ (by simp [Act.eval,Act.put]) (by simp [Act.eval,Act.put]) (hcp1 _ _ _) ?_)
  go_wp2_with (at_builtin;refine wpList_copy_runI _ rfl _ _ 25 25 rfl _ _ rfl rfl (hcp2 _ _) ?_)
  go_ret
  exact ⟨rfl,rfl⟩
 end_:=by
  intro g n c vb vc w v' w' hnc hc63 hap
  have mixed:Tryz.prog.follows .mixedOrders=true:=by kernel_rfl
  by_cases hcn:c=n
  · subst hcn
    go_enter Tryz.func66,Tryz.ntmps66
    go_wp2_with (at_builtin;refine zcT _ rfl _ _ 25 25 rfl _ _ rfl rfl (hap _) ?_)
    go_ret
    exact ⟨rfl,rfl⟩
  · go_enter Tryz.func66,Tryz.ntmps66
    go_wp2_with (at_builtin;refine zcT _ rfl _ _ 25 25 rfl _ _ rfl rfl (hap _) ?_)
    go_ret
    exact ⟨rfl,rfl⟩
 nil_:=by
  intro vb vc w v' w' hap
  have mixed:Tryz.prog.follows .mixedOrders=true:=by kernel_rfl
  go_enter Tryz.func66,Tryz.ntmps66
  go_wp2_with (at_builtin;refine zcT _ rfl _ _ 25 25 rfl _ _ rfl rfl (hap _) ?_)
  go_ret
  exact ⟨rfl,rfl⟩
 grow:=by
  intro g n c i vb vc g2 c2 w W1 W2 W3 hi hnc hroom hn63 hc2 hc63 hap hcp1 hcp2
  have hz2:¬ ((i:Int)=(n:Int)):=by omega
  have hw1:IntKind.i64.wrap ((i:Int)+1)=(i:Int)+1:=by rw [IntKind.wrap_i64];omega
  have hw2:IntKind.i64.wrap ((n:Int)+1)=(n:Int)+1:=by rw [IntKind.wrap_i64];omega
  have hb1:(0:Int)≤(i:Int)+1:=by omega
  have hin:i≤n:=by omega
  have htn:((i:Int)+1).toNat=i+1:=by omega
  have hb3:(i:Int)≤(n:Int)+1:=by omega
  have hw3:IntKind.i64.wrap ((n:Int)+1 - (i:Int))=(n:Int)+1 - (i:Int):=by rw [IntKind.wrap_i64];omega
  have hic:i≤c:=by omega
  have hb2:¬ (c2=i+1):=by omega
  have hb4:¬ (c2=i):=by omega
  have hb5:¬ (c=i):=by omega
  have mixed:Tryz.prog.follows .mixedOrders=true:=by kernel_rfl
  go_enter Tryz.func66,Tryz.ntmps66
  go_wp2_with (at_builtin;refine zcT _ rfl _ _ 25 3 rfl _ _ rfl rfl (hap _) ?_)
  go_wp2_with (at_builtin;refine wpList_copy_runI _ rfl _ _ 25 25 rfl _ _ rfl rfl (hcp1 _ _) ?_)
  go_region_law_o (refine step_copy_runI rfl _ _ 25 25 rfl _ _ (by simp [Act.eval,Act.put]) (by simp [Act.eval,Act.put]) (hcp2 _ _ _) ?_)
  go_wp2
  go_ret
  exact ⟨rfl,rfl⟩
theorem zlQ (w:World) (a b:Value) (h:(Extern.SlicesOverlaps.overlaps #[25,25] #[4] #[a,b]).run Tryz.prog w = .ok (.bool false) w):(callFunc 137 #[a,b]).run Tryz.prog w = .ok (.value (.bool false)) w:=by
 rw [run_callFunc_extern Tryz.func137 (by kernel_rfl) (by kernel_rfl) (by kernel_rfl) (e:=Extern.SlicesOverlaps.overlaps #[25,25] #[4]) (by kernel_rfl),h]
 rfl
end Go.Proofs
namespace Go.Sp
open Go Go.Av Go.Proofs
def zab (x:Int):List AV:=[.int .i64 (x)]
def zeC (x:Bool):List AV:=[.bool (x)]
def zaJ (x:Range):List AV:=[.int .i64 (x.Lo),.int .i64 (x.Hi)]
def zav (x:Batch):List AV:=[.int .i64 (x.Id),.int .i64 (x.Life.Lo),.int .i64 (x.Life.Hi)]
def zao (x:Mantle):List AV:=[.int .i64 (x.Source),.int .i64 (x.Lamp),.int .i64 (x.Batch),.int .i64 (x.Night),.int .i64 (x.Known),.int .i64 (x.Until)]
def zaA (x:Burn):List AV:=[.int .i64 (x.Source),.int .i64 (x.Lamp),.int .i64 (x.Night),.int .i64 (x.Minutes.Lo),.int .i64 (x.Minutes.Hi),.int .i64 (x.Known),.int .i64 (x.Until)]
def zaj (x:Look):List AV:=[.int .i64 (x.Source),.int .i64 (x.Lamp),.int .i64 (x.Night),.bool (x.Bad),.int .i64 (x.Known),.int .i64 (x.Until)]
def zci (x:(List Int)):List AV:=[roL 1 zab x]
def za0 (x:(Arr4 Int)):List AV:=[.int .i64 (x.x0),.int .i64 (x.x1),.int .i64 (x.x2),.int .i64 (x.x3)]
def zcD (x:(Arr2 Int)):List AV:=[.int .i64 (x.x0),.int .i64 (x.x1)]
def zcC (x:(Arr5 Int)):List AV:=[.int .i64 (x.x0),.int .i64 (x.x1),.int .i64 (x.x2),.int .i64 (x.x3),.int .i64 (x.x4)]
def zaH (x:mantle_sight):List AV:=[.int .i64 (x.night),.bool (x.bad)]
abbrev zz6:Value:=.agg #[.slice none 0 0,.slice none 0 0,.slice none 0 0,.slice none 0 0,.slice none 0 0,.slice none 0 0]
abbrev zal (x:Wear):List AV:=[roL 3 zav x.Batches,roL 6 zao x.Mantles,roL 7 zaA x.Burns,roL 6 zaj x.Looks]
abbrev zay (x:mantle_coat):List AV:=[roL 3 zav x.w.Batches,roL 6 zao x.w.Mantles,roL 7 zaA x.w.Burns,roL 6 zaj x.w.Looks,roL 1 zab x.burns,roL 2 zaH x.sights]
abbrev zaK (x:mantle_closet):List AV:=[roL 3 zav x.w.Batches,roL 6 zao x.w.Mantles,roL 7 zaA x.w.Burns,roL 6 zaj x.w.Looks,.int .i64 (x.known),romL zz6 (fun (y:mantle_coat)=>.agg (zay y)) x.coats,roL 2 zaJ x.lives]
abbrev zak (x:mantle_lot):List AV:=[roL 3 zav x.closet.w.Batches,roL 6 zao x.closet.w.Mantles,roL 7 zaA x.closet.w.Burns,roL 6 zaj x.closet.w.Looks,.int .i64 (x.closet.known),romL zz6 (fun (y:mantle_coat)=>.agg (zay y)) x.closet.coats,roL 2 zaJ x.closet.lives,roL 1 zab x.lamps,roL 1 zab x.mantles,.int .i64 (x.night)]
abbrev zah (x:mantle_coat):AV:=.agg (zay x)
def tids:List Nat:=[3,4,22,23,24,25,27,29,31,33,35,37,41,46,47,48,49,51,52,53,55,56,57,58,60,74,81,108,116,118,120,122,124,129,131,135,136,138,145,151,153,171,173,189,191,195,197,200,205,216]
def Γ:Tys:=[(3,⟨.int .i64,[.int .i64 0],1,8⟩),
 (4,⟨.bool,[.bool false],1,1⟩),
 (22,⟨.slice 31,[.slice none 0 0],1,24⟩),
 (23,⟨.slice 33,[.slice none 0 0],1,24⟩),
 (24,⟨.slice 35,[.slice none 0 0],1,24⟩),
 (25,⟨.slice 37,[.slice none 0 0],1,24⟩),
 (27,⟨.struct [(0,22),(1,23),(2,24),(3,25)],[.slice none 0 0,.slice none 0 0,.slice none 0 0,.slice none 0 0],4,96⟩),
 (29,⟨.struct [(0,3),(1,3)],[.int .i64 0,.int .i64 0],2,16⟩),
 (31,⟨.struct [(0,3),(1,29)],[.int .i64 0,.int .i64 0,.int .i64 0],3,24⟩),
 (33,⟨.struct [(0,3),(1,3),(2,3),(3,3),(4,3),(5,3)],[.int .i64 0,.int .i64 0,.int .i64 0,.int .i64 0,.int .i64 0,.int .i64 0],6,48⟩),
 (35,⟨.struct [(0,3),(1,3),(2,3),(3,29),(5,3),(6,3)],[.int .i64 0,.int .i64 0,.int .i64 0,.int .i64 0,.int .i64 0,.int .i64 0,.int .i64 0],7,56⟩),
 (37,⟨.struct [(0,3),(1,3),(2,3),(3,4),(4,3),(5,3)],[.int .i64 0,.int .i64 0,.int .i64 0,.bool false,.int .i64 0,.int .i64 0],6,48⟩),
 (41,⟨.int .i64,[.int .i64 0],1,8⟩),
 (46,⟨.func,[.nilFunc],1,8⟩),
 (47,⟨.func,[.nilFunc],1,8⟩),
 (48,⟨.func,[.nilFunc],1,8⟩),
 (49,⟨.func,[.nilFunc],1,8⟩),
 (51,⟨.slice 81,[.slice none 0 0],1,24⟩),
 (52,⟨.slice 57,[.slice none 0 0],1,24⟩),
 (53,⟨.slice 131,[.slice none 0 0],1,24⟩),
 (55,⟨.struct [(0,51),(1,52),(2,53),(3,52)],[.slice none 0 0,.slice none 0 0,.slice none 0 0,.slice none 0 0],4,96⟩),
 (56,⟨.slice 3,[.slice none 0 0],1,24⟩),
 (57,⟨.array 4 3,[.int .i64 0,.int .i64 0,.int .i64 0,.int .i64 0],4,32⟩),
 (58,⟨.func,[.nilFunc],1,8⟩),
 (60,⟨.struct [(0,56),(1,56)],[.slice none 0 0,.slice none 0 0],2,48⟩),
 (74,⟨.struct [(0,3),(1,3),(2,3)],[.int .i64 0,.int .i64 0,.int .i64 0],3,24⟩),
 (81,⟨.array 2 3,[.int .i64 0,.int .i64 0],2,16⟩),
 (108,⟨.func,[.nilFunc],1,8⟩),
 (116,⟨.func,[.nilFunc],1,8⟩),
 (118,⟨.func,[.nilFunc],1,8⟩),
 (120,⟨.func,[.nilFunc],1,8⟩),
 (122,⟨.func,[.nilFunc],1,8⟩),
 (124,⟨.func,[.nilFunc],1,8⟩),
 (129,⟨.func,[.nilFunc],1,8⟩),
 (131,⟨.array 5 3,[.int .i64 0,.int .i64 0,.int .i64 0,.int .i64 0,.int .i64 0],5,40⟩),
 (135,⟨.map 3 153,[.map none],1,8⟩),
 (136,⟨.slice 29,[.slice none 0 0],1,24⟩),
 (138,⟨.struct [(0,27),(4,3),(5,135),(6,136)],[.slice none 0 0,.slice none 0 0,.slice none 0 0,.slice none 0 0,.int .i64 0,.map none,.slice none 0 0],7,136⟩),
 (145,⟨.struct [(0,138),(7,56),(8,56),(9,3)],[.slice none 0 0,.slice none 0 0,.slice none 0 0,.slice none 0 0,.int .i64 0,.map none,.slice none 0 0,.slice none 0 0,.slice none 0 0,.int .i64 0],10,192⟩),
 (151,⟨.slice 189,[.slice none 0 0],1,24⟩),
 (153,⟨.struct [(0,27),(4,56),(5,151)],[.slice none 0 0,.slice none 0 0,.slice none 0 0,.slice none 0 0,.slice none 0 0,.slice none 0 0],6,144⟩),
 (171,⟨.func,[.nilFunc],1,8⟩),
 (173,⟨.func,[.nilFunc],1,8⟩),
 (189,⟨.struct [(0,3),(1,4)],[.int .i64 0,.bool false],2,16⟩),
 (191,⟨.int .u64,[.int .u64 0],1,8⟩),
 (195,⟨.func,[.nilFunc],1,8⟩),
 (197,⟨.slice 4,[.slice none 0 0],1,24⟩),
 (200,⟨.map 3 56,[.map none],1,8⟩),
 (205,⟨.func,[.nilFunc],1,8⟩),
 (216,⟨.slice 56,[.slice none 0 0],1,24⟩)]
theorem Γ_ok:zoG Tryz.prog tids=some Γ:=by kernel_rfl
theorem env:Env Tryz.prog Γ:=⟨zji Γ_ok,by decide +kernel,by kernel_rfl⟩
def zpO:Go.Shelf.Ren where
 f:=fun x=>match x with
  | 189=>120
  | 125=>162
  | 257=>161
  | 128=>193
  | 129=>194
  | 294=>185
  | 295=>186
  | 296=>187
  | 297=>188
  | 298=>189
  | 299=>190
  | 216=>166
  | 300=>191
  | 301=>192
  | 328=>200
  | 329=>201
  | 330=>202
  | 331=>203
  | 332=>204
  | 215=>136
  | 343=>207
  | n=>n
 t:=fun x=>match x with
  | 28=>56
  | 3=>3
  | 46=>191
  | 0=>0
  | 51=>243
  | 53=>245
  | 4=>4
  | 183=>237
  | 182=>236
  | 131=>106
  | 5=>5
  | 9=>9
  | 218=>251
  | 222=>255
  | 228=>259
  | 229=>228
  | n=>n
 g:=fun x=>x
theorem zlt:Go.Proofs.Lays.n189 Tryz.prog zpO:=
 {
  mixed:=by kernel_rfl,
  f125:=Tryz.func162.trans (congrArg some (by kernel_rfl)),
  f128:=Tryz.func193.trans (congrArg some (by kernel_rfl)),
  f129:=Tryz.func194.trans (congrArg some (by kernel_rfl)),
  f189:=Tryz.func120.trans (congrArg some (by kernel_rfl)),
  f215:=Tryz.func136.trans (congrArg some (by kernel_rfl)),
  f216:=Tryz.func166.trans (congrArg some (by kernel_rfl)),
  f257:=Tryz.func161.trans (congrArg some (by kernel_rfl)),
  f294:=Tryz.func185.trans (congrArg some (by kernel_rfl)),
  f295:=Tryz.func186.trans (congrArg some (by kernel_rfl)),
  f296:=Tryz.func187.trans (congrArg some (by kernel_rfl)),
  f297:=Tryz.func188.trans (congrArg some (by kernel_rfl)),
  f298:=Tryz.func189.trans (congrArg some (by kernel_rfl)),
  f299:=Tryz.func190.trans (congrArg some (by kernel_rfl)),
  f300:=Tryz.func191.trans (congrArg some (by kernel_rfl)),
  f301:=Tryz.func192.trans (congrArg some (by kernel_rfl)),
  f328:=Tryz.func200.trans (congrArg some (by kernel_rfl)),
  f329:=Tryz.func201.trans (congrArg some (by kernel_rfl)),
  f330:=Tryz.func202.trans (congrArg some (by kernel_rfl)),
  f331:=Tryz.func203.trans (congrArg some (by kernel_rfl)),
  f332:=Tryz.func204.trans (congrArg some (by kernel_rfl)),
  f343:=Tryz.func207.trans (congrArg some (by kernel_rfl)),
  t0:=Tryz.underlying0,
  a0:=Tryz.isAgg0,
  z0:=Tryz.sizeOf0,
  v0:=Tryz.zeroValue0,
  t3:=Tryz.underlying3,
  a3:=Tryz.isAgg3,
  z3:=Tryz.sizeOf3,
  v3:=Tryz.zeroValue3,
  t4:=Tryz.underlying4,
  a4:=Tryz.isAgg4,
  z4:=Tryz.sizeOf4,
  v4:=Tryz.zeroValue4,
  t5:=Tryz.underlying5,
  a5:=Tryz.isAgg5,
  z5:=Tryz.sizeOf5,
  v5:=Tryz.zeroValue5,
  t9:=Tryz.underlying9,
  a9:=Tryz.isAgg9,
  z9:=Tryz.sizeOf9,
  v9:=Tryz.zeroValue9,
  t28:=Tryz.underlying56,
  a28:=Tryz.isAgg56,
  z28:=Tryz.sizeOf56,
  v28:=Tryz.zeroValue56,
  t46:=Tryz.underlying191,
  a46:=Tryz.isAgg191,
  z46:=Tryz.sizeOf191,
  v46:=Tryz.zeroValue191,
  t51:=Tryz.underlying243,
  a51:=Tryz.isAgg243,
  z51:=Tryz.sizeOf243,
  v51:=Tryz.zeroValue243,
  t53:=Tryz.underlying245,
  a53:=Tryz.isAgg245,
  z53:=Tryz.sizeOf245,
  v53:=Tryz.zeroValue245,
  t131:=Tryz.underlying106,
  a131:=Tryz.isAgg106,
  z131:=Tryz.sizeOf106,
  v131:=Tryz.zeroValue106,
  t182:=Tryz.underlying236,
  a182:=Tryz.isAgg236,
  z182:=Tryz.sizeOf236,
  v182:=Tryz.zeroValue236,
  t183:=Tryz.underlying237,
  a183:=Tryz.isAgg237,
  z183:=Tryz.sizeOf237,
  v183:=Tryz.zeroValue237,
  t218:=Tryz.underlying251,
  a218:=Tryz.isAgg251,
  z218:=Tryz.sizeOf251,
  v218:=Tryz.zeroValue251,
  t222:=Tryz.underlying255,
  a222:=Tryz.isAgg255,
  z222:=Tryz.sizeOf255,
  v222:=Tryz.zeroValue255,
  t228:=Tryz.underlying259,
  a228:=Tryz.isAgg259,
  z228:=Tryz.sizeOf259,
  v228:=Tryz.zeroValue259,
  t229:=Tryz.underlying228,
  a229:=Tryz.isAgg228,
  z229:=Tryz.sizeOf228,
  v229:=Tryz.zeroValue228 }
theorem zfQ  : Ctr Tryz.prog 59 [] (.agg [roL 3 zav ((zai).Batches),roL 6 zao ((zai).Mantles),roL 7 zaA ((zai).Burns),roL 6 zaj ((zai).Looks)]):=by
 obtain ⟨r,H⟩:∃ r,zai=r:=⟨_,rfl⟩
 rw [H]
 unfold zai at H
 refine Ctr.ob Tryz.func59 Tryz.ntmps59 (fun w0 h0 hval=>?_)
 refine W.rg env [0] [0] ?_
 refine W.seq (W.region env [] [] rfl rfl rfl .nil .nil (At.kp [0] [0] ?_))
 refine At.zbb (.cons (y:=.cells [roL 3 zav ([(⟨1,(⟨1000,2000⟩:Range)⟩:Batch),(⟨2,(⟨100,3000⟩:Range)⟩:Batch)]:List Batch),roL 6 zao ([(⟨1,10,1,0,0,0⟩:Mantle),(⟨2,11,1,0,0,0⟩:Mantle),(⟨3,12,2,0,0,0⟩:Mantle),(⟨4,10,1,9,0,0⟩:Mantle)]:List Mantle),roL 7 zaA ([(⟨11,10,1,(⟨800,900⟩:Range),0,0⟩:Burn),(⟨12,10,2,(⟨500,700⟩:Range),0,0⟩:Burn),(⟨13,11,1,(⟨700,1200⟩:Range),0,0⟩:Burn),(⟨14,12,1,(⟨50,90⟩:Range),0,0⟩:Burn)]:List Burn),roL 6 zaj ([(⟨21,10,1,false,0,0⟩:Look),(⟨22,10,2,true,5,0⟩:Look)]:List Look)]) (BSim.cells (.cons (Sim.lit (f:=zav) ([(⟨1,(⟨1000,2000⟩:Range)⟩:Batch),(⟨2,(⟨100,3000⟩:Range)⟩:Batch)]:List Batch) rfl rfl (fun _=>rfl)) (.cons (Sim.lit (f:=zao) ([(⟨1,10,1,0,0,0⟩:Mantle),(⟨2,11,1,0,0,0⟩:Mantle),(⟨3,12,2,0,0,0⟩:Mantle),(⟨4,10,1,9,0,0⟩:Mantle)]:List Mantle) rfl rfl (fun _=>rfl)) (.cons (Sim.lit (f:=zaA) ([(⟨11,10,1,(⟨800,900⟩:Range),0,0⟩:Burn),(⟨12,10,2,(⟨500,700⟩:Range),0,0⟩:Burn),(⟨13,11,1,(⟨700,1200⟩:Range),0,0⟩:Burn),(⟨14,12,1,(⟨50,90⟩:Range),0,0⟩:Burn)]:List Burn) rfl rfl (fun _=>rfl)) (.cons (Sim.lit (f:=zaj) ([(⟨21,10,1,false,0,0⟩:Look),(⟨22,10,2,true,5,0⟩:Look)]:List Look) rfl rfl (fun _=>rfl)) .nil))))) .nil) ?_
 refine At.zad (W.ret ?_)
 cases H
 exact At.rz env hval
theorem zfW (p0:(List Batch)) (p1:Int) (p2:Batch→Option Int) (p2_g:Nat) (p2_a p2_b:List AV) (p2_h:∀ x0 r,p2 x0=some r→Ctr Tryz.prog p2_g (p2_a++([.agg [.int .i64 (x0.Id),.int .i64 (x0.Life.Lo),.int .i64 (x0.Life.Hi)]]++p2_b)) (.int .i64 (r))) (p3:Batch→Option Int) (p3_g:Nat) (p3_a p3_b:List AV) (p3_h:∀ x0 r,p3 x0=some r→Ctr Tryz.prog p3_g (p3_a++([.agg [.int .i64 (x0.Id),.int .i64 (x0.Life.Lo),.int .i64 (x0.Life.Hi)]]++p3_b)) (.int .i64 (r))) {r:Bool} (H:zcl p0 p1 p2 p3=some r):Ctr Tryz.prog 69 [roL 3 zav p0,.int .i64 (p1),.clo (.func p2_g) p2_a p2_b,.clo (.func p3_g) p3_a p3_b] (.bool (r)):=by
 unfold zcl at H
 refine Ctr.ob Tryz.func69 Tryz.ntmps69 (fun w0 h0 hval=>?_)
 refine W.rg env [0,1,2,3] [] ?_
 refine W.seq (W.rg env [0,1,2,3,11,12,13] [] ?_)
 refine W.block (At.kp [0,1,2,3,11,12,13] [] ?_)
 refine W.len (t:=11) rfl (fun hn1=>?_)
 refine W.zaq H (fun i1 (s1:Unit)=>[(0,roL 3 zav p0),(1,.int .i64 (p1)),(2,.clo (.func p2_g) p2_a p2_b),(3,.clo (.func p3_g) p3_a p3_b),(11,roL 3 zav p0),(12,.int .i64 (((p0.length:Nat):Int))),(13,.int .i64 ((i1:Int)))]) (fun i1 (s1:Unit)=>[]) (.cons .q (.cons .qi (.cons .q (.cons .q (.cons .q (.cons .qi (.cons .qi .nil))))))) .nil (fun k1 i1 s1 hle1 H1 H2 K0 hK1=>?_)
 refine W.rg env [0,1,2,3,11,12,13,14] [] ?_
 refine W.seq (W.cond rfl (fun hb2=>?_) (fun hb2=>?_))
 · have hi1:i1<p0.length:=ltD hb2
   have H:=H1 hi1
   refine W.skip (At.zad (W.seq (W.block (W.sr env [] [] [0,1,2,3,9,10,11,12,13] [10] rfl rfl rfl (.cons (inD hi1) .nil) .nil ?_))))
   refine W.seq ?_
   obtain ⟨y3,hy4,H⟩:=zac H
   obtain ⟨hc5,H⟩:=zaa H
   obtain ⟨hc6,H⟩:=zaa H
   obtain ⟨y7,hy8,H⟩:=zac H
   obtain ⟨y9,hy10,H⟩:=zac H
   refine W.region env [] [⟨.int .i64 (y3),[],0,[]⟩,⟨.int .i64 (y7),[],0,[]⟩,⟨.int .i64 (y9),[],0,[]⟩] rfl rfl (by kernel_rfl) (.cons id (.cons id (.cons hc5 (.cons id (.cons hc6 (.cons id (.cons id (.cons id (.cons id (.cons id (.cons id (.cons id (.cons id (.cons id (.cons id (.cons (fun hW h=>by revert hW h;first|(simp +contextual;done)|grind) (.cons (fun h=>by rw [h];rfl) .nil))))))))))))))))) (.free (p2_h (p0.getD i1 default) _ hy4) (.on (fun hW=>p3_h (p0.getD (((i1:Int) - 1)).toNat default) _ (zbJ hy8 hW)) (.on (fun hW=>p3_h (p0.getD i1 default) _ (zbJ hy10 hW)) .nil))) (At.kp [0,1,2,3,11,12,13,38] [] ?_)
   refine At.zad (W.co H rfl (fun hb11 H=>?_) (fun hb11 H=>?_))
   · refine W.rg env [8] [] ?_
     refine W.ret (At.rinb ?_)
     refine At.rthen ?_
     refine At.rthen ?_
     refine At.rinb ?_
     refine At.rthen ?_
     cases H
     exact At.rz env hval
   · refine W.skip (At.inb (At.zad (W.region env [] [] rfl rfl rfl (.cons (incD hi1 hn1) .nil) .nil (At.kp [0,1,2,3,11,12,13] [] ?_))))
     refine At.zaF (At.kp [0,1,2,3,11,12,13] [] ?_)
     exact At.conv (.cons .q (.cons .qi (.cons .q (.cons .q (.cons .q (.cons .qi (.cons .qi .nil))))))) .nil (hK1 hi1 () H)
 · have H:=H2 (geD hb2)
   refine W.exit (At.xthen (At.xthen (At.xhere (At.zad (W.rg env [8] [] ?_)))))
   refine W.ret ?_
   cases H
   exact At.rz env hval
theorem zb8 (p0:Int) (p1:Int) (p2:Int):Ctr Tryz.prog 81 [.int .i64 (p0),.int .i64 (p1),.int .i64 (p2)] (.bool ((zaC p0 p1 p2))):=by
 obtain ⟨r,H⟩:∃ r,zaC p0 p1 p2=r:=⟨_,rfl⟩
 rw [H]
 unfold zaC at H
 refine Ctr.ob Tryz.func81 Tryz.ntmps81 (fun w0 h0 hval=>?_)
 refine W.rg env [0,1,2] [] ?_
 refine W.sr env [] [] [6] [] rfl rfl rfl (.cons id (.cons id (.cons id .nil))) .nil ?_
 refine W.ret ?_
 cases H
 exact At.rz env hval
theorem zgp (p0:Range) (p1:Int):Ctr Tryz.prog 82 [.agg [.int .i64 (p0.Lo),.int .i64 (p0.Hi)],.int .i64 (p1)] (.bool ((zbH p0 p1))):=by
 obtain ⟨r,H⟩:∃ r,zbH p0 p1=r:=⟨_,rfl⟩
 rw [H]
 unfold zbH at H
 refine Ctr.ob Tryz.func82 Tryz.ntmps82 (fun w0 h0 hval=>?_)
 refine W.rg env [1,2] [2] ?_
 refine W.sr env [] [] [4] [] rfl rfl rfl (.cons id (.cons id (.cons id (.cons id (.cons id (.cons id (.cons id (.cons id (.cons id .nil))))))))) .nil ?_
 refine W.ret ?_
 cases H
 exact At.rz env hval
theorem zhm (p0:Batch):Ctr Tryz.prog 19 [.agg [.int .i64 (p0.Id),.int .i64 (p0.Life.Lo),.int .i64 (p0.Life.Hi)]] (.int .i64 ((zaX p0))):=by
 obtain ⟨r,H⟩:∃ r,zaX p0=r:=⟨_,rfl⟩
 rw [H]
 unfold zaX at H
 refine Ctr.ob Tryz.func19 Tryz.ntmps19 (fun w0 h0 hval=>?_)
 refine W.rg env [1] [1] ?_
 refine W.seq (W.sr env [] [⟨.bool ((zaC p0.Id 1 99)),[],0,[]⟩,⟨.bool ((zbH p0.Life 1000000)),[],0,[]⟩] [12] [] rfl rfl rfl (.cons id (.cons id (.cons id (.cons (fun h=>by rw [h];rfl) .nil)))) (.free (zb8 p0.Id 1 99) (.on (fun hW=>zgp p0.Life 1000000) .nil)) ?_)
 refine W.co H rfl (fun hb1 H=>?_) (fun hb1 H=>?_)
 · refine W.rg env [2] [] ?_
   refine W.ret (At.rthen ?_)
   cases H
   exact At.rz env hval
 · refine W.skip (At.zad (W.rg env [2] [] ?_))
   refine W.ret ?_
   cases H
   exact At.rz env hval
theorem ziL (p0:Batch):Ctr Tryz.prog 70 [.agg [.int .i64 (p0.Id),.int .i64 (p0.Life.Lo),.int .i64 (p0.Life.Hi)]] (.int .i64 ((zcL p0))):=by
 obtain ⟨r,H⟩:∃ r,zcL p0=r:=⟨_,rfl⟩
 rw [H]
 unfold zcL at H
 refine Ctr.ob Tryz.func70 Tryz.ntmps70 (fun w0 h0 hval=>?_)
 refine W.rg env [1] [1] ?_
 refine W.rg env [2] [] ?_
 refine W.ret ?_
 cases H
 exact At.rz env hval
theorem zfO (p0:(List Mantle)) (p1:Int) (p2:Mantle→Option Int) (p2_g:Nat) (p2_a p2_b:List AV) (p2_h:∀ x0 r,p2 x0=some r→Ctr Tryz.prog p2_g (p2_a++([.agg [.int .i64 (x0.Source),.int .i64 (x0.Lamp),.int .i64 (x0.Batch),.int .i64 (x0.Night),.int .i64 (x0.Known),.int .i64 (x0.Until)]]++p2_b)) (.int .i64 (r))) (p3:Mantle→Option Int) (p3_g:Nat) (p3_a p3_b:List AV) (p3_h:∀ x0 r,p3 x0=some r→Ctr Tryz.prog p3_g (p3_a++([.agg [.int .i64 (x0.Source),.int .i64 (x0.Lamp),.int .i64 (x0.Batch),.int .i64 (x0.Night),.int .i64 (x0.Known),.int .i64 (x0.Until)]]++p3_b)) (.int .i64 (r))) {r:Bool} (H:zcd p0 p1 p2 p3=some r):Ctr Tryz.prog 71 [roL 6 zao p0,.int .i64 (p1),.clo (.func p2_g) p2_a p2_b,.clo (.func p3_g) p3_a p3_b] (.bool (r)):=by
 unfold zcd at H
 refine Ctr.ob Tryz.func71 Tryz.ntmps71 (fun w0 h0 hval=>?_)
 refine W.rg env [0,1,2,3] [] ?_
 refine W.seq (W.rg env [0,1,2,3,11,12,13] [] ?_)
 refine W.block (At.kp [0,1,2,3,11,12,13] [] ?_)
 refine W.len (t:=11) rfl (fun hn1=>?_)
 refine W.zaq H (fun i1 (s1:Unit)=>[(0,roL 6 zao p0),(1,.int .i64 (p1)),(2,.clo (.func p2_g) p2_a p2_b),(3,.clo (.func p3_g) p3_a p3_b),(11,roL 6 zao p0),(12,.int .i64 (((p0.length:Nat):Int))),(13,.int .i64 ((i1:Int)))]) (fun i1 (s1:Unit)=>[]) (.cons .q (.cons .qi (.cons .q (.cons .q (.cons .q (.cons .qi (.cons .qi .nil))))))) .nil (fun k1 i1 s1 hle1 H1 H2 K0 hK1=>?_)
 refine W.rg env [0,1,2,3,11,12,13,14] [] ?_
 refine W.seq (W.cond rfl (fun hb2=>?_) (fun hb2=>?_))
 · have hi1:i1<p0.length:=ltD hb2
   have H:=H1 hi1
   refine W.skip (At.zad (W.seq (W.block (W.sr env [] [] [0,1,2,3,9,10,11,12,13] [10] rfl rfl rfl (.cons (inD hi1) .nil) .nil ?_))))
   refine W.seq ?_
   obtain ⟨y3,hy4,H⟩:=zac H
   obtain ⟨hc5,H⟩:=zaa H
   obtain ⟨hc6,H⟩:=zaa H
   obtain ⟨y7,hy8,H⟩:=zac H
   obtain ⟨y9,hy10,H⟩:=zac H
   refine W.region env [] [⟨.int .i64 (y3),[],0,[]⟩,⟨.int .i64 (y7),[],0,[]⟩,⟨.int .i64 (y9),[],0,[]⟩] rfl rfl (by kernel_rfl) (.cons id (.cons id (.cons hc5 (.cons id (.cons hc6 (.cons id (.cons id (.cons id (.cons id (.cons id (.cons id (.cons id (.cons id (.cons id (.cons id (.cons (fun hW h=>by revert hW h;first|(simp +contextual;done)|grind) (.cons (fun h=>by rw [h];rfl) .nil))))))))))))))))) (.free (p2_h (p0.getD i1 default) _ hy4) (.on (fun hW=>p3_h (p0.getD (((i1:Int) - 1)).toNat default) _ (zbJ hy8 hW)) (.on (fun hW=>p3_h (p0.getD i1 default) _ (zbJ hy10 hW)) .nil))) (At.kp [0,1,2,3,11,12,13,38] [] ?_)
   refine At.zad (W.co H rfl (fun hb11 H=>?_) (fun hb11 H=>?_))
   · refine W.rg env [8] [] ?_
     refine W.ret (At.rinb ?_)
     refine At.rthen ?_
     refine At.rthen ?_
     refine At.rinb ?_
     refine At.rthen ?_
     cases H
     exact At.rz env hval
   · refine W.skip (At.inb (At.zad (W.region env [] [] rfl rfl rfl (.cons (incD hi1 hn1) .nil) .nil (At.kp [0,1,2,3,11,12,13] [] ?_))))
     refine At.zaF (At.kp [0,1,2,3,11,12,13] [] ?_)
     exact At.conv (.cons .q (.cons .qi (.cons .q (.cons .q (.cons .q (.cons .qi (.cons .qi .nil))))))) .nil (hK1 hi1 () H)
 · have H:=H2 (geD hb2)
   refine W.exit (At.xthen (At.xthen (At.xhere (At.zad (W.rg env [8] [] ?_)))))
   refine W.ret ?_
   cases H
   exact At.rz env hval
theorem zd0 (p0:Int):Ctr Tryz.prog 84 [.int .i64 (p0)] (.bool ((zaZ p0))):=by
 obtain ⟨r,H⟩:∃ r,zaZ p0=r:=⟨_,rfl⟩
 rw [H]
 unfold zaZ at H
 refine Ctr.ob Tryz.func84 Tryz.ntmps84 (fun w0 h0 hval=>?_)
 refine W.rg env [0] [] ?_
 refine W.sr env [] [⟨.bool ((zaC p0 1 99999)),[],0,[]⟩] [2] [] rfl rfl rfl .nil (.free (zb8 p0 1 99999) .nil) ?_
 refine W.ret ?_
 cases H
 exact At.rz env hval
theorem zc6 (p0:Int):Ctr Tryz.prog 85 [.int .i64 (p0)] (.bool ((zaI p0))):=by
 obtain ⟨r,H⟩:∃ r,zaI p0=r:=⟨_,rfl⟩
 rw [H]
 unfold zaI at H
 refine Ctr.ob Tryz.func85 Tryz.ntmps85 (fun w0 h0 hval=>?_)
 refine W.rg env [0] [] ?_
 refine W.sr env [] [⟨.bool ((zaC p0 1 999)),[],0,[]⟩] [2] [] rfl rfl rfl .nil (.free (zb8 p0 1 999) .nil) ?_
 refine W.ret ?_
 cases H
 exact At.rz env hval
theorem zcc (p0:Int):Ctr Tryz.prog 142 [.int .i64 (p0)] (.bool ((zaM p0))):=by
 obtain ⟨r,H⟩:∃ r,zaM p0=r:=⟨_,rfl⟩
 rw [H]
 unfold zaM at H
 refine Ctr.ob Tryz.func142 Tryz.ntmps142 (fun w0 h0 hval=>?_)
 refine W.rg env [0] [] ?_
 refine W.sr env [] [⟨.bool ((zaC p0 0 100000)),[],0,[]⟩] [2] [] rfl rfl rfl .nil (.free (zb8 p0 0 100000) .nil) ?_
 refine W.ret ?_
 cases H
 exact At.rz env hval
theorem zd1 (p0:Int) (p1:Int) (p2:Int):Ctr Tryz.prog 86 [.int .i64 (p0),.int .i64 (p1),.int .i64 (p2)] (.bool ((za3 p0 p1 p2))):=by
 obtain ⟨r,H⟩:∃ r,za3 p0 p1 p2=r:=⟨_,rfl⟩
 rw [H]
 unfold za3 at H
 refine Ctr.ob Tryz.func86 Tryz.ntmps86 (fun w0 h0 hval=>?_)
 refine W.rg env [0,1,2] [] ?_
 refine W.sr env [] [⟨.bool ((zaM p0)),[],0,[]⟩,⟨.bool ((zaM p1)),[],0,[]⟩,⟨.bool ((zaM p2)),[],0,[]⟩] [6] [] rfl rfl rfl (.cons id (.cons id (.cons id (.cons id (.cons id (.cons id (.cons id (.cons id (.cons id (.cons (fun hW h=>by revert hW h;first|(simp +contextual;done)|grind) (.cons id (.cons (fun hW h=>by revert hW h;first|(simp +contextual;done)|grind) (.cons id .nil))))))))))))) (.free (zcc p0) (.on (fun hW=>zcc p1) (.on (fun hW=>zcc p2) .nil))) ?_
 refine W.ret ?_
 cases H
 exact At.rz env hval
theorem zgU (p0:Mantle):Ctr Tryz.prog 21 [.agg [.int .i64 (p0.Source),.int .i64 (p0.Lamp),.int .i64 (p0.Batch),.int .i64 (p0.Night),.int .i64 (p0.Known),.int .i64 (p0.Until)]] (.int .i64 ((za9 p0))):=by
 obtain ⟨r,H⟩:∃ r,za9 p0=r:=⟨_,rfl⟩
 rw [H]
 unfold za9 at H
 refine Ctr.ob Tryz.func21 Tryz.ntmps21 (fun w0 h0 hval=>?_)
 refine W.rg env [1] [1] ?_
 refine W.seq (W.sr env [] [⟨.bool ((zaZ p0.Source)),[],0,[]⟩,⟨.bool ((zaI p0.Lamp)),[],0,[]⟩,⟨.bool ((zaC p0.Batch 1 99)),[],0,[]⟩,⟨.bool ((za3 p0.Night p0.Known p0.Until)),[],0,[]⟩] [28] [] rfl rfl rfl (.cons id (.cons id (.cons id (.cons (fun h=>by rw [h];rfl) (.cons id (.cons id (.cons id (.cons (fun h=>by rw [h];rfl) (.cons id (.cons id (.cons id (.cons id (.cons id (.cons id (.cons id (.cons (fun h=>by rw [h];rfl) .nil)))))))))))))))) (.free (zd0 p0.Source) (.on (fun hW=>zc6 p0.Lamp) (.on (fun hW=>zb8 p0.Batch 1 99) (.on (fun hW=>zd1 p0.Night p0.Known p0.Until) .nil)))) ?_)
 refine W.co H rfl (fun hb1 H=>?_) (fun hb1 H=>?_)
 · refine W.rg env [2] [] ?_
   refine W.ret (At.rthen ?_)
   cases H
   exact At.rz env hval
 · refine W.skip (At.zad (W.rg env [2] [] ?_))
   refine W.ret ?_
   cases H
   exact At.rz env hval
theorem ziK (p0:Mantle):Ctr Tryz.prog 72 [.agg [.int .i64 (p0.Source),.int .i64 (p0.Lamp),.int .i64 (p0.Batch),.int .i64 (p0.Night),.int .i64 (p0.Known),.int .i64 (p0.Until)]] (.int .i64 ((zcK p0))):=by
 obtain ⟨r,H⟩:∃ r,zcK p0=r:=⟨_,rfl⟩
 rw [H]
 unfold zcK at H
 refine Ctr.ob Tryz.func72 Tryz.ntmps72 (fun w0 h0 hval=>?_)
 refine W.rg env [1] [1] ?_
 refine W.rg env [2] [] ?_
 refine W.ret ?_
 cases H
 exact At.rz env hval
theorem zgs (p0:(List Burn)) (p1:Int) (p2:Burn→Option Int) (p2_g:Nat) (p2_a p2_b:List AV) (p2_h:∀ x0 r,p2 x0=some r→Ctr Tryz.prog p2_g (p2_a++([.agg [.int .i64 (x0.Source),.int .i64 (x0.Lamp),.int .i64 (x0.Night),.int .i64 (x0.Minutes.Lo),.int .i64 (x0.Minutes.Hi),.int .i64 (x0.Known),.int .i64 (x0.Until)]]++p2_b)) (.int .i64 (r))) (p3:Burn→Option Int) (p3_g:Nat) (p3_a p3_b:List AV) (p3_h:∀ x0 r,p3 x0=some r→Ctr Tryz.prog p3_g (p3_a++([.agg [.int .i64 (x0.Source),.int .i64 (x0.Lamp),.int .i64 (x0.Night),.int .i64 (x0.Minutes.Lo),.int .i64 (x0.Minutes.Hi),.int .i64 (x0.Known),.int .i64 (x0.Until)]]++p3_b)) (.int .i64 (r))) {r:Bool} (H:zcz p0 p1 p2 p3=some r):Ctr Tryz.prog 73 [roL 7 zaA p0,.int .i64 (p1),.clo (.func p2_g) p2_a p2_b,.clo (.func p3_g) p3_a p3_b] (.bool (r)):=by
 unfold zcz at H
 refine Ctr.ob Tryz.func73 Tryz.ntmps73 (fun w0 h0 hval=>?_)
 refine W.rg env [0,1,2,3] [] ?_
 refine W.seq (W.rg env [0,1,2,3,11,12,13] [] ?_)
 refine W.block (At.kp [0,1,2,3,11,12,13] [] ?_)
 refine W.len (t:=11) rfl (fun hn1=>?_)
 refine W.zaq H (fun i1 (s1:Unit)=>[(0,roL 7 zaA p0),(1,.int .i64 (p1)),(2,.clo (.func p2_g) p2_a p2_b),(3,.clo (.func p3_g) p3_a p3_b),(11,roL 7 zaA p0),(12,.int .i64 (((p0.length:Nat):Int))),(13,.int .i64 ((i1:Int)))]) (fun i1 (s1:Unit)=>[]) (.cons .q (.cons .qi (.cons .q (.cons .q (.cons .q (.cons .qi (.cons .qi .nil))))))) .nil (fun k1 i1 s1 hle1 H1 H2 K0 hK1=>?_)
 refine W.rg env [0,1,2,3,11,12,13,14] [] ?_
 refine W.seq (W.cond rfl (fun hb2=>?_) (fun hb2=>?_))
 · have hi1:i1<p0.length:=ltD hb2
   have H:=H1 hi1
   refine W.skip (At.zad (W.seq (W.block (W.sr env [] [] [0,1,2,3,9,10,11,12,13] [10] rfl rfl rfl (.cons (inD hi1) .nil) .nil ?_))))
   refine W.seq ?_
   obtain ⟨y3,hy4,H⟩:=zac H
   obtain ⟨hc5,H⟩:=zaa H
   obtain ⟨hc6,H⟩:=zaa H
   obtain ⟨y7,hy8,H⟩:=zac H
   obtain ⟨y9,hy10,H⟩:=zac H
   refine W.region env [] [⟨.int .i64 (y3),[],0,[]⟩,⟨.int .i64 (y7),[],0,[]⟩,⟨.int .i64 (y9),[],0,[]⟩] rfl rfl (by kernel_rfl) (.cons id (.cons id (.cons hc5 (.cons id (.cons hc6 (.cons id (.cons id (.cons id (.cons id (.cons id (.cons id (.cons id (.cons id (.cons id (.cons id (.cons (fun hW h=>by revert hW h;first|(simp +contextual;done)|grind) (.cons (fun h=>by rw [h];rfl) .nil))))))))))))))))) (.free (p2_h (p0.getD i1 default) _ hy4) (.on (fun hW=>p3_h (p0.getD (((i1:Int) - 1)).toNat default) _ (zbJ hy8 hW)) (.on (fun hW=>p3_h (p0.getD i1 default) _ (zbJ hy10 hW)) .nil))) (At.kp [0,1,2,3,11,12,13,38] [] ?_)
   refine At.zad (W.co H rfl (fun hb11 H=>?_) (fun hb11 H=>?_))
   · refine W.rg env [8] [] ?_
     refine W.ret (At.rinb ?_)
     refine At.rthen ?_
     refine At.rthen ?_
     refine At.rinb ?_
     refine At.rthen ?_
     cases H
     exact At.rz env hval
   · refine W.skip (At.inb (At.zad (W.region env [] [] rfl rfl rfl (.cons (incD hi1 hn1) .nil) .nil (At.kp [0,1,2,3,11,12,13] [] ?_))))
     refine At.zaF (At.kp [0,1,2,3,11,12,13] [] ?_)
     exact At.conv (.cons .q (.cons .qi (.cons .q (.cons .q (.cons .q (.cons .qi (.cons .qi .nil))))))) .nil (hK1 hi1 () H)
 · have H:=H2 (geD hb2)
   refine W.exit (At.xthen (At.xthen (At.xhere (At.zad (W.rg env [8] [] ?_)))))
   refine W.ret ?_
   cases H
   exact At.rz env hval
theorem zhQ (p0:Burn):Ctr Tryz.prog 23 [.agg [.int .i64 (p0.Source),.int .i64 (p0.Lamp),.int .i64 (p0.Night),.int .i64 (p0.Minutes.Lo),.int .i64 (p0.Minutes.Hi),.int .i64 (p0.Known),.int .i64 (p0.Until)]] (.int .i64 ((zbu p0))):=by
 obtain ⟨r,H⟩:∃ r,zbu p0=r:=⟨_,rfl⟩
 rw [H]
 unfold zbu at H
 refine Ctr.ob Tryz.func23 Tryz.ntmps23 (fun w0 h0 hval=>?_)
 refine W.rg env [1] [1] ?_
 refine W.seq (W.sr env [] [⟨.bool ((zaZ p0.Source)),[],0,[]⟩,⟨.bool ((zaI p0.Lamp)),[],0,[]⟩,⟨.bool ((zbH p0.Minutes 1440)),[],0,[]⟩,⟨.bool ((za3 p0.Night p0.Known p0.Until)),[],0,[]⟩] [28] [] rfl rfl rfl (.cons id (.cons id (.cons id (.cons (fun h=>by rw [h];rfl) (.cons id (.cons id (.cons id (.cons (fun h=>by rw [h];rfl) (.cons id (.cons id (.cons id (.cons id (.cons id (.cons id (.cons id (.cons (fun h=>by rw [h];rfl) .nil)))))))))))))))) (.free (zd0 p0.Source) (.on (fun hW=>zc6 p0.Lamp) (.on (fun hW=>zgp p0.Minutes 1440) (.on (fun hW=>zd1 p0.Night p0.Known p0.Until) .nil)))) ?_)
 refine W.co H rfl (fun hb1 H=>?_) (fun hb1 H=>?_)
 · refine W.rg env [2] [] ?_
   refine W.ret (At.rthen ?_)
   cases H
   exact At.rz env hval
 · refine W.skip (At.zad (W.rg env [2] [] ?_))
   refine W.ret ?_
   cases H
   exact At.rz env hval
theorem ziJ (p0:Burn):Ctr Tryz.prog 74 [.agg [.int .i64 (p0.Source),.int .i64 (p0.Lamp),.int .i64 (p0.Night),.int .i64 (p0.Minutes.Lo),.int .i64 (p0.Minutes.Hi),.int .i64 (p0.Known),.int .i64 (p0.Until)]] (.int .i64 ((zcJ p0))):=by
 obtain ⟨r,H⟩:∃ r,zcJ p0=r:=⟨_,rfl⟩
 rw [H]
 unfold zcJ at H
 refine Ctr.ob Tryz.func74 Tryz.ntmps74 (fun w0 h0 hval=>?_)
 refine W.rg env [1] [1] ?_
 refine W.rg env [2] [] ?_
 refine W.ret ?_
 cases H
 exact At.rz env hval
theorem zgr (p0:(List Look)) (p1:Int) (p2:Look→Option Int) (p2_g:Nat) (p2_a p2_b:List AV) (p2_h:∀ x0 r,p2 x0=some r→Ctr Tryz.prog p2_g (p2_a++([.agg [.int .i64 (x0.Source),.int .i64 (x0.Lamp),.int .i64 (x0.Night),.bool (x0.Bad),.int .i64 (x0.Known),.int .i64 (x0.Until)]]++p2_b)) (.int .i64 (r))) (p3:Look→Option Int) (p3_g:Nat) (p3_a p3_b:List AV) (p3_h:∀ x0 r,p3 x0=some r→Ctr Tryz.prog p3_g (p3_a++([.agg [.int .i64 (x0.Source),.int .i64 (x0.Lamp),.int .i64 (x0.Night),.bool (x0.Bad),.int .i64 (x0.Known),.int .i64 (x0.Until)]]++p3_b)) (.int .i64 (r))) {r:Bool} (H:zdz p0 p1 p2 p3=some r):Ctr Tryz.prog 77 [roL 6 zaj p0,.int .i64 (p1),.clo (.func p2_g) p2_a p2_b,.clo (.func p3_g) p3_a p3_b] (.bool (r)):=by
 unfold zdz at H
 refine Ctr.ob Tryz.func77 Tryz.ntmps77 (fun w0 h0 hval=>?_)
 refine W.rg env [0,1,2,3] [] ?_
 refine W.seq (W.rg env [0,1,2,3,11,12,13] [] ?_)
 refine W.block (At.kp [0,1,2,3,11,12,13] [] ?_)
 refine W.len (t:=11) rfl (fun hn1=>?_)
 refine W.zaq H (fun i1 (s1:Unit)=>[(0,roL 6 zaj p0),(1,.int .i64 (p1)),(2,.clo (.func p2_g) p2_a p2_b),(3,.clo (.func p3_g) p3_a p3_b),(11,roL 6 zaj p0),(12,.int .i64 (((p0.length:Nat):Int))),(13,.int .i64 ((i1:Int)))]) (fun i1 (s1:Unit)=>[]) (.cons .q (.cons .qi (.cons .q (.cons .q (.cons .q (.cons .qi (.cons .qi .nil))))))) .nil (fun k1 i1 s1 hle1 H1 H2 K0 hK1=>?_)
 refine W.rg env [0,1,2,3,11,12,13,14] [] ?_
 refine W.seq (W.cond rfl (fun hb2=>?_) (fun hb2=>?_))
 · have hi1:i1<p0.length:=ltD hb2
   have H:=H1 hi1
   refine W.skip (At.zad (W.seq (W.block (W.sr env [] [] [0,1,2,3,9,10,11,12,13] [10] rfl rfl rfl (.cons (inD hi1) .nil) .nil ?_))))
   refine W.seq ?_
   obtain ⟨y3,hy4,H⟩:=zac H
   obtain ⟨hc5,H⟩:=zaa H
   obtain ⟨hc6,H⟩:=zaa H
   obtain ⟨y7,hy8,H⟩:=zac H
   obtain ⟨y9,hy10,H⟩:=zac H
   refine W.region env [] [⟨.int .i64 (y3),[],0,[]⟩,⟨.int .i64 (y7),[],0,[]⟩,⟨.int .i64 (y9),[],0,[]⟩] rfl rfl (by kernel_rfl) (.cons id (.cons id (.cons hc5 (.cons id (.cons hc6 (.cons id (.cons id (.cons id (.cons id (.cons id (.cons id (.cons id (.cons id (.cons id (.cons id (.cons (fun hW h=>by revert hW h;first|(simp +contextual;done)|grind) (.cons (fun h=>by rw [h];rfl) .nil))))))))))))))))) (.free (p2_h (p0.getD i1 default) _ hy4) (.on (fun hW=>p3_h (p0.getD (((i1:Int) - 1)).toNat default) _ (zbJ hy8 hW)) (.on (fun hW=>p3_h (p0.getD i1 default) _ (zbJ hy10 hW)) .nil))) (At.kp [0,1,2,3,11,12,13,38] [] ?_)
   refine At.zad (W.co H rfl (fun hb11 H=>?_) (fun hb11 H=>?_))
   · refine W.rg env [8] [] ?_
     refine W.ret (At.rinb ?_)
     refine At.rthen ?_
     refine At.rthen ?_
     refine At.rinb ?_
     refine At.rthen ?_
     cases H
     exact At.rz env hval
   · refine W.skip (At.inb (At.zad (W.region env [] [] rfl rfl rfl (.cons (incD hi1 hn1) .nil) .nil (At.kp [0,1,2,3,11,12,13] [] ?_))))
     refine At.zaF (At.kp [0,1,2,3,11,12,13] [] ?_)
     exact At.conv (.cons .q (.cons .qi (.cons .q (.cons .q (.cons .q (.cons .qi (.cons .qi .nil))))))) .nil (hK1 hi1 () H)
 · have H:=H2 (geD hb2)
   refine W.exit (At.xthen (At.xthen (At.xhere (At.zad (W.rg env [8] [] ?_)))))
   refine W.ret ?_
   cases H
   exact At.rz env hval
theorem zeY (p0:Look):Ctr Tryz.prog 25 [.agg [.int .i64 (p0.Source),.int .i64 (p0.Lamp),.int .i64 (p0.Night),.bool (p0.Bad),.int .i64 (p0.Known),.int .i64 (p0.Until)]] (.int .i64 ((za4 p0))):=by
 obtain ⟨r,H⟩:∃ r,za4 p0=r:=⟨_,rfl⟩
 rw [H]
 unfold za4 at H
 refine Ctr.ob Tryz.func25 Tryz.ntmps25 (fun w0 h0 hval=>?_)
 refine W.rg env [1] [1] ?_
 refine W.seq (W.sr env [] [⟨.bool ((zaZ p0.Source)),[],0,[]⟩,⟨.bool ((zaI p0.Lamp)),[],0,[]⟩,⟨.bool ((za3 p0.Night p0.Known p0.Until)),[],0,[]⟩] [22] [] rfl rfl rfl (.cons id (.cons id (.cons id (.cons (fun h=>by rw [h];rfl) (.cons id (.cons id (.cons id (.cons id (.cons id (.cons id (.cons id (.cons (fun h=>by rw [h];rfl) .nil)))))))))))) (.free (zd0 p0.Source) (.on (fun hW=>zc6 p0.Lamp) (.on (fun hW=>zd1 p0.Night p0.Known p0.Until) .nil))) ?_)
 refine W.co H rfl (fun hb1 H=>?_) (fun hb1 H=>?_)
 · refine W.rg env [2] [] ?_
   refine W.ret (At.rthen ?_)
   cases H
   exact At.rz env hval
 · refine W.skip (At.zad (W.rg env [2] [] ?_))
   refine W.ret ?_
   cases H
   exact At.rz env hval
theorem zjF (p0:Look):Ctr Tryz.prog 78 [.agg [.int .i64 (p0.Source),.int .i64 (p0.Lamp),.int .i64 (p0.Night),.bool (p0.Bad),.int .i64 (p0.Known),.int .i64 (p0.Until)]] (.int .i64 ((zdc p0))):=by
 obtain ⟨r,H⟩:∃ r,zdc p0=r:=⟨_,rfl⟩
 rw [H]
 unfold zdc at H
 refine Ctr.ob Tryz.func78 Tryz.ntmps78 (fun w0 h0 hval=>?_)
 refine W.rg env [1] [1] ?_
 refine W.rg env [2] [] ?_
 refine W.ret ?_
 cases H
 exact At.rz env hval
theorem ze7 (p0:(List Mantle)) (p1:Mantle→Option Bool) (p1_g:Nat) (p1_a p1_b:List AV) (p1_h:∀ x0 r,p1 x0=some r→Ctr Tryz.prog p1_g (p1_a++([.agg [.int .i64 (x0.Source),.int .i64 (x0.Lamp),.int .i64 (x0.Batch),.int .i64 (x0.Night),.int .i64 (x0.Known),.int .i64 (x0.Until)]]++p1_b)) (.bool (r))) {r:Int} (H:zbX p0 p1=some r):Ctr Tryz.prog 141 [roL 6 zao p0,.clo (.func p1_g) p1_a p1_b] (.int .i64 (r)):=by
 unfold zbX at H
 refine Ctr.ob Tryz.func141 Tryz.ntmps141 (fun w0 h0 hval=>?_)
 refine W.rg env [0,1] [] ?_
 refine W.seq (W.rg env [0,1,7,8] [] ?_)
 refine W.block (At.kp [0,1,7,8] [] ?_)
 refine W.len (t:=0) rfl (fun hn1=>?_)
 refine W.zaq H (fun i1 (s1:Unit)=>[(0,roL 6 zao p0),(1,.clo (.func p1_g) p1_a p1_b),(7,.int .i64 (((p0.length:Nat):Int))),(8,.int .i64 ((i1:Int)))]) (fun i1 (s1:Unit)=>[]) (.cons .q (.cons .q (.cons .qi (.cons .qi .nil)))) .nil (fun k1 i1 s1 hle1 H1 H2 K0 hK1=>?_)
 refine W.rg env [0,1,7,8,9] [] ?_
 refine W.seq (W.cond rfl (fun hb2=>?_) (fun hb2=>?_))
 · have hi1:i1<p0.length:=ltD hb2
   have H:=H1 hi1
   refine W.skip (At.zad (W.seq (W.block (W.rg env [0,1,5,7,8] [] ?_))))
   refine W.seq ?_
   obtain ⟨y3,hy4,H⟩:=zac H
   refine W.region env [] [⟨.bool (y3),[],0,[]⟩] rfl rfl rfl (.cons (inD hi1) .nil) (.free (p1_h (p0.getD i1 default) _ hy4) .nil) (At.kp [0,1,5,7,8,16] [] ?_)
   refine At.zad (W.co H rfl (fun hb5 H=>?_) (fun hb5 H=>?_))
   · refine W.rg env [4] [] ?_
     refine W.ret (At.rinb ?_)
     refine At.rthen ?_
     refine At.rthen ?_
     refine At.rinb ?_
     refine At.rthen ?_
     cases H
     exact At.rz env hval
   · refine W.skip (At.inb (At.zad (W.region env [] [] rfl rfl rfl (.cons (incD hi1 hn1) .nil) .nil (At.kp [0,1,7,8] [] ?_))))
     refine At.zaF (At.kp [0,1,7,8] [] ?_)
     exact At.conv (.cons .q (.cons .q (.cons .qi (.cons .qi .nil)))) .nil (hK1 hi1 () H)
 · have H:=H2 (geD hb2)
   refine W.exit (At.xthen (At.xthen (At.xhere (At.zad (W.rg env [4] [] ?_)))))
   refine W.ret ?_
   cases H
   exact At.rz env hval
theorem zeD (p0:(List Mantle)) (p1:Mantle→Option Bool) (p1_g:Nat) (p1_a p1_b:List AV) (p1_h:∀ x0 r,p1 x0=some r→Ctr Tryz.prog p1_g (p1_a++([.agg [.int .i64 (x0.Source),.int .i64 (x0.Lamp),.int .i64 (x0.Batch),.int .i64 (x0.Night),.int .i64 (x0.Known),.int .i64 (x0.Until)]]++p1_b)) (.bool (r))) {r:Bool} (H:zbx p0 p1=some r):Ctr Tryz.prog 79 [roL 6 zao p0,.clo (.func p1_g) p1_a p1_b] (.bool (r)):=by
 unfold zbx at H
 refine Ctr.ob Tryz.func79 Tryz.ntmps79 (fun w0 h0 hval=>?_)
 refine W.rg env [0,1] [] ?_
 refine W.seq ?_
 obtain ⟨y1,hy2,H⟩:=zac H
 refine W.region env [] [⟨.int .i64 (y1),[],0,[]⟩] rfl rfl rfl .nil (.free (ze7 p0 p1 p1_g p1_a p1_b p1_h hy2) .nil) (At.kp [4] [] ?_)
 refine At.zad (W.ret ?_)
 cases H
 exact At.rz env hval
theorem zfn (p0:(List Batch)) (p1:Batch→Option Bool) (p1_g:Nat) (p1_a p1_b:List AV) (p1_h:∀ x0 r,p1 x0=some r→Ctr Tryz.prog p1_g (p1_a++([.agg [.int .i64 (x0.Id),.int .i64 (x0.Life.Lo),.int .i64 (x0.Life.Hi)]]++p1_b)) (.bool (r))) {r:Int} (H:zb9 p0 p1=some r):Ctr Tryz.prog 139 [roL 3 zav p0,.clo (.func p1_g) p1_a p1_b] (.int .i64 (r)):=by
 unfold zb9 at H
 refine Ctr.ob Tryz.func139 Tryz.ntmps139 (fun w0 h0 hval=>?_)
 refine W.rg env [0,1] [] ?_
 refine W.seq (W.rg env [0,1,7,8] [] ?_)
 refine W.block (At.kp [0,1,7,8] [] ?_)
 refine W.len (t:=0) rfl (fun hn1=>?_)
 refine W.zaq H (fun i1 (s1:Unit)=>[(0,roL 3 zav p0),(1,.clo (.func p1_g) p1_a p1_b),(7,.int .i64 (((p0.length:Nat):Int))),(8,.int .i64 ((i1:Int)))]) (fun i1 (s1:Unit)=>[]) (.cons .q (.cons .q (.cons .qi (.cons .qi .nil)))) .nil (fun k1 i1 s1 hle1 H1 H2 K0 hK1=>?_)
 refine W.rg env [0,1,7,8,9] [] ?_
 refine W.seq (W.cond rfl (fun hb2=>?_) (fun hb2=>?_))
 · have hi1:i1<p0.length:=ltD hb2
   have H:=H1 hi1
   refine W.skip (At.zad (W.seq (W.block (W.rg env [0,1,5,7,8] [] ?_))))
   refine W.seq ?_
   obtain ⟨y3,hy4,H⟩:=zac H
   refine W.region env [] [⟨.bool (y3),[],0,[]⟩] rfl rfl rfl (.cons (inD hi1) .nil) (.free (p1_h (p0.getD i1 default) _ hy4) .nil) (At.kp [0,1,5,7,8,16] [] ?_)
   refine At.zad (W.co H rfl (fun hb5 H=>?_) (fun hb5 H=>?_))
   · refine W.rg env [4] [] ?_
     refine W.ret (At.rinb ?_)
     refine At.rthen ?_
     refine At.rthen ?_
     refine At.rinb ?_
     refine At.rthen ?_
     cases H
     exact At.rz env hval
   · refine W.skip (At.inb (At.zad (W.region env [] [] rfl rfl rfl (.cons (incD hi1 hn1) .nil) .nil (At.kp [0,1,7,8] [] ?_))))
     refine At.zaF (At.kp [0,1,7,8] [] ?_)
     exact At.conv (.cons .q (.cons .q (.cons .qi (.cons .qi .nil)))) .nil (hK1 hi1 () H)
 · have H:=H2 (geD hb2)
   refine W.exit (At.xthen (At.xthen (At.xhere (At.zad (W.rg env [4] [] ?_)))))
   refine W.ret ?_
   cases H
   exact At.rz env hval
theorem zhP (p0:Batch) (c0:Int):Ctr Tryz.prog 140 [.agg [.int .i64 (p0.Id),.int .i64 (p0.Life.Lo),.int .i64 (p0.Life.Hi)],.rp [.int .i64 (c0)]] (.bool ((zcb p0 c0))):=by
 obtain ⟨r,H⟩:∃ r,zcb p0 c0=r:=⟨_,rfl⟩
 rw [H]
 unfold zcb at H
 refine Ctr.ob Tryz.func140 Tryz.ntmps140 (fun w0 h0 hval=>?_)
 refine W.rg env [1,2] [2] ?_
 refine W.rg env [3] [] ?_
 refine W.ret ?_
 cases H
 exact At.rz env hval
theorem zdv (p0:Wear) (p1:Int) {r:Int} (H:zb1 p0 p1=some r):Ctr Tryz.prog 76 [.agg (zal p0),.int .i64 (p1)] (.int .i64 (r)):=by
 unfold zb1 at H
 refine Ctr.ob Tryz.func76 Tryz.ntmps76 (fun w0 h0 hval=>?_)
 refine W.rg env [2,3] [2,3] ?_
 refine W.seq ?_
 obtain ⟨y1,hy2,H⟩:=zac H
 refine W.region env [] [⟨.int .i64 (y1),[],0,[]⟩] rfl rfl rfl .nil (.free (zfn p0.Batches (fun x0=>some (zcb x0 p1)) 140 [] ([.rp [.int .i64 (p1)]]) (fun x0 r h=>by cases h;exact zhP x0 p1) hy2) .nil) (At.kp [4] [] ?_)
 refine At.zad (W.ret ?_)
 cases H
 exact At.rz env hval
theorem ziI (p0:Mantle) (c0:Wear) {r:Bool} (H:zcI p0 c0=some r):Ctr Tryz.prog 75 [.agg [.int .i64 (p0.Source),.int .i64 (p0.Lamp),.int .i64 (p0.Batch),.int .i64 (p0.Night),.int .i64 (p0.Known),.int .i64 (p0.Until)],.rp (zal c0)] (.bool (r)):=by
 unfold zcI at H
 refine Ctr.ob Tryz.func75 Tryz.ntmps75 (fun w0 h0 hval=>?_)
 refine W.rg env [1,2] [2] ?_
 refine W.seq ?_
 obtain ⟨y1,hy2,H⟩:=zac H
 refine W.region env [] [⟨.int .i64 (y1),[],0,[]⟩] rfl rfl rfl .nil (.free (zdv c0 p0.Batch hy2) .nil) (At.kp [3] [] ?_)
 refine At.zad (W.ret ?_)
 cases H
 exact At.rz env hval
theorem zd9 (p0:Wear) {r:Int} (H:zce p0=some r):Ctr Tryz.prog 17 [.agg (zal p0)] (.int .i64 (r)):=by
 unfold zce at H
 refine Ctr.ob Tryz.func17 Tryz.ntmps17 (fun w0 h0 hval=>?_)
 refine W.rg env [1] [1] ?_
 refine W.seq ?_
 obtain ⟨y1,hy2,H⟩:=zac H
 refine W.region env [] [⟨.bool (y1),[],0,[]⟩] rfl rfl rfl .nil (.free (zfW p0.Batches 8 (fun x0=>some (zaX x0)) 19 [] [] (fun x0 r h=>by cases h;exact zhm x0) (fun x0=>some (zcL x0)) 70 [] [] (fun x0 r h=>by cases h;exact ziL x0) hy2) .nil) (At.kp [1,3] [1] ?_)
 refine At.zad (W.seq ?_)
 obtain ⟨y3,hy4,H⟩:=zac H
 refine W.region env [] [⟨.bool (y3),[],0,[]⟩] rfl rfl rfl .nil (.free (zfO p0.Mantles 60 (fun x0=>some (za9 x0)) 21 [] [] (fun x0 r h=>by cases h;exact zgU x0) (fun x0=>some (zcK x0)) 72 [] [] (fun x0 r h=>by cases h;exact ziK x0) hy4) .nil) (At.kp [1,3,4] [1] ?_)
 refine At.zad (W.seq ?_)
 obtain ⟨y5,hy6,H⟩:=zac H
 refine W.region env [] [⟨.bool (y5),[],0,[]⟩] rfl rfl rfl .nil (.free (zgs p0.Burns 60 (fun x0=>some (zbu x0)) 23 [] [] (fun x0 r h=>by cases h;exact zhQ x0) (fun x0=>some (zcJ x0)) 74 [] [] (fun x0 r h=>by cases h;exact ziJ x0) hy6) .nil) (At.kp [1,3,4,5] [1] ?_)
 refine At.zad (W.rg env [1,3,4,5,6] [1] ?_)
 refine W.seq (W.seq ?_)
 obtain ⟨y7,hy8,H⟩:=zac H
 obtain ⟨y9,hy10,H⟩:=zac H
 refine W.region env [] [⟨.bool (y7),[],0,[]⟩,⟨.bool (y9),[],0,[]⟩] rfl rfl rfl (.cons id (.cons (fun h=>by rw [h];rfl) (.cons id (.cons (fun h=>by rw [h];rfl) (.cons id (.cons id (.cons id (.cons (fun h=>by rw [h];rfl) (.cons id (.cons id (.cons id (.cons (fun h=>by rw [h];rfl) .nil)))))))))))) (.on (fun hW=>zgr p0.Looks 60 (fun x0=>some (za4 x0)) 25 [] [] (fun x0 r h=>by cases h;exact zeY x0) (fun x0=>some (zdc x0)) 78 [] [] (fun x0 r h=>by cases h;exact zjF x0) (zbJ hy8 hW)) (.on (fun hW=>zeD p0.Mantles (fun x0=>zcI x0 p0) 75 [] ([.rp (zal p0)]) (fun x0 r h=>ziI x0 p0 h) (zbJ hy10 hW)) .nil)) (At.kp [38] [] ?_)
 refine At.zad (W.co H rfl (fun hb11 H=>?_) (fun hb11 H=>?_))
 · refine W.rg env [2] [] ?_
   refine W.ret (At.rthen ?_)
   cases H
   exact At.rz env hval
 · refine W.skip (At.zad (W.rg env [2] [] ?_))
   refine W.ret ?_
   cases H
   exact At.rz env hval
theorem zfU (p0:(List Int)) (p1:Int→Option Bool) (p1_g:Nat) (p1_a p1_b:List AV) (p1_h:∀ x0 r,p1 x0=some r→Ctr Tryz.prog p1_g (p1_a++([.int .i64 (x0)]++p1_b)) (.bool (r))) {r:Int} (H:zdf p0 p1=some r):Ctr Tryz.prog 178 [roL 1 zab p0,.clo (.func p1_g) p1_a p1_b] (.int .i64 (r)):=by
 unfold zdf at H
 refine Ctr.ob Tryz.func178 Tryz.ntmps178 (fun w0 h0 hval=>?_)
 refine W.rg env [0,1] [] ?_
 refine W.seq (W.rg env [0,1,7,8] [] ?_)
 refine W.block (At.kp [0,1,7,8] [] ?_)
 refine W.len (t:=0) rfl (fun hn1=>?_)
 refine W.zaq H (fun i1 (s1:Unit)=>[(0,roL 1 zab p0),(1,.clo (.func p1_g) p1_a p1_b),(7,.int .i64 (((p0.length:Nat):Int))),(8,.int .i64 ((i1:Int)))]) (fun i1 (s1:Unit)=>[]) (.cons .q (.cons .q (.cons .qi (.cons .qi .nil)))) .nil (fun k1 i1 s1 hle1 H1 H2 K0 hK1=>?_)
 refine W.rg env [0,1,7,8,9] [] ?_
 refine W.seq (W.cond rfl (fun hb2=>?_) (fun hb2=>?_))
 · have hi1:i1<p0.length:=ltD hb2
   have H:=H1 hi1
   refine W.skip (At.zad (W.seq (W.block (W.rg env [0,1,5,7,8] [] ?_))))
   refine W.seq ?_
   obtain ⟨y3,hy4,H⟩:=zac H
   refine W.region env [] [⟨.bool (y3),[],0,[]⟩] rfl rfl rfl (.cons (inD hi1) .nil) (.free (p1_h (p0.getD i1 default) _ hy4) .nil) (At.kp [0,1,5,7,8,16] [] ?_)
   refine At.zad (W.co H rfl (fun hb5 H=>?_) (fun hb5 H=>?_))
   · refine W.rg env [4] [] ?_
     refine W.ret (At.rinb ?_)
     refine At.rthen ?_
     refine At.rthen ?_
     refine At.rinb ?_
     refine At.rthen ?_
     cases H
     exact At.rz env hval
   · refine W.skip (At.inb (At.zad (W.region env [] [] rfl rfl rfl (.cons (incD hi1 hn1) .nil) .nil (At.kp [0,1,7,8] [] ?_))))
     refine At.zaF (At.kp [0,1,7,8] [] ?_)
     exact At.conv (.cons .q (.cons .q (.cons .qi (.cons .qi .nil)))) .nil (hK1 hi1 () H)
 · have H:=H2 (geD hb2)
   refine W.exit (At.xthen (At.xthen (At.xhere (At.zad (W.rg env [4] [] ?_)))))
   refine W.ret ?_
   cases H
   exact At.rz env hval
theorem ze8 (p0:(List Int)) (p1:Int→Option Bool) (p1_g:Nat) (p1_a p1_b:List AV) (p1_h:∀ x0 r,p1 x0=some r→Ctr Tryz.prog p1_g (p1_a++([.int .i64 (x0)]++p1_b)) (.bool (r))) {r:Bool} (H:zbk p0 p1=some r):Ctr Tryz.prog 145 [roL 1 zab p0,.clo (.func p1_g) p1_a p1_b] (.bool (r)):=by
 unfold zbk at H
 refine Ctr.ob Tryz.func145 Tryz.ntmps145 (fun w0 h0 hval=>?_)
 refine W.rg env [0,1] [] ?_
 refine W.seq ?_
 obtain ⟨y1,hy2,H⟩:=zac H
 refine W.region env [] [⟨.int .i64 (y1),[],0,[]⟩] rfl rfl rfl .nil (.free (zfU p0 p1 p1_g p1_a p1_b p1_h hy2) .nil) (At.kp [4] [] ?_)
 refine At.zad (W.ret ?_)
 cases H
 exact At.rz env hval
theorem zil (p0:Int):Ctr Tryz.prog 146 [.int .i64 (p0)] (.bool ((zbm p0))):=by
 obtain ⟨r,H⟩:∃ r,zbm p0=r:=⟨_,rfl⟩
 rw [H]
 unfold zbm at H
 refine Ctr.ob Tryz.func146 Tryz.ntmps146 (fun w0 h0 hval=>?_)
 refine W.rg env [0] [] ?_
 refine W.sr env [] [⟨.bool ((zaM p0)),[],0,[]⟩] [2] [] rfl rfl rfl .nil (.free (zcc p0) .nil) ?_
 refine W.ret ?_
 cases H
 exact At.rz env hval
theorem zeN (p0:Wear) (p1:(List Int)) {r:Int} (H:zbZ p0 p1=some r):Ctr Tryz.prog 90 [.agg (zal p0),roL 1 zab p1] (.int .i64 (r)):=by
 unfold zbZ at H
 refine Ctr.ob Tryz.func90 Tryz.ntmps90 (fun w0 h0 hval=>?_)
 refine W.rg env [1,2] [2] ?_
 refine W.seq (W.seq ?_)
 obtain ⟨y1,hy2,H⟩:=zac H
 refine W.region env [] [⟨.int .i64 (y1),[],0,[]⟩] rfl rfl rfl .nil (.free (zd9 p0 hy2) .nil) (At.kp [1,5] [] ?_)
 refine At.zad (W.rg env [1,5,9] [] ?_)
 refine W.co H rfl (fun hb3 H=>?_) (fun hb3 H=>?_)
 · refine W.rg env [4] [] ?_
   refine W.ret (At.rthen ?_)
   cases H
   exact At.rz env hval
 · refine W.skip (At.zad (W.seq (W.seq ?_)))
   obtain ⟨y4,hy5,H⟩:=zac H
   refine W.region env [] [⟨.bool (y4),[],0,[]⟩] rfl rfl rfl .nil (.free (ze8 p1 (fun x0=>some (zbm x0)) 146 [] [] (fun x0 r h=>by cases h;exact zil x0) hy5) .nil) (At.kp [12] [] ?_)
   refine At.zad (W.co H rfl (fun hb6 H=>?_) (fun hb6 H=>?_))
   · refine W.rg env [4] [] ?_
     refine W.ret (At.rthen ?_)
     cases H
     exact At.rz env hval
   · refine W.skip (At.zad (W.rg env [4] [] ?_))
     refine W.ret ?_
     cases H
     exact At.rz env hval
theorem zc8 (p0:Int) (p1:Int) (p2:Int):Ctr Tryz.prog 149 [.int .i64 (p0),.int .i64 (p1),.int .i64 (p2)] (.bool ((zap p0 p1 p2))):=by
 obtain ⟨r,H⟩:∃ r,zap p0 p1 p2=r:=⟨_,rfl⟩
 rw [H]
 unfold zap at H
 refine Ctr.ob Tryz.func149 Tryz.ntmps149 (fun w0 h0 hval=>?_)
 refine W.rg env [0,1,2] [] ?_
 refine W.sr env [] [] [6] [] rfl rfl rfl (.cons id (.cons id (.cons id (.cons id (.cons id (.cons (fun hW h=>by revert hW h;first|(simp +contextual;done)|grind) (.cons id .nil))))))) .nil ?_
 refine W.ret ?_
 cases H
 exact At.rz env hval
theorem zc7 (p0:Wear) (p1:Int) (p2:Int) (p3:Int) {r:Int} (H:zb0 p0 p1 p2 p3=some r):Ctr Tryz.prog 148 [.agg (zal p0),.int .i64 (p1),.int .i64 (p2),.int .i64 (p3)] (.int .i64 (r)):=by
 unfold zb0 at H
 refine Ctr.ob Tryz.func148 Tryz.ntmps148 (fun w0 h0 hval=>?_)
 refine W.rg env [1,2,3,4] [4] ?_
 refine W.rg env [1,2,3,4,9] [4] ?_
 refine W.seq (W.rg env [1,2,3,4,9,13,14,15] [4] ?_)
 refine W.block (At.kp [1,2,3,4,9,13,14,15] [4] ?_)
 refine W.len (t:=13) rfl (fun hn1=>?_)
 refine W.zaq H (fun i1 (s1:Int)=>[(1,.int .i64 (p1)),(2,.int .i64 (p2)),(3,.int .i64 (p3)),(4,.lp 4 0),(9,.int .i64 (s1)),(13,roL 6 zao p0.Mantles),(14,.int .i64 (((p0.Mantles.length:Nat):Int))),(15,.int .i64 ((i1:Int)))]) (fun i1 (s1:Int)=>[(4,.cells (zal p0))]) (.cons .qi (.cons .qi (.cons .qi (.cons .q (.cons .qi (.cons .q (.cons .qi (.cons .qi .nil)))))))) (.cons .q .nil) (fun k1 i1 s1 hle1 H1 H2 K0 hK1=>?_)
 refine W.rg env [1,2,3,4,9,13,14,15,16] [4] ?_
 refine W.seq (W.cond rfl (fun hb2=>?_) (fun hb2=>?_))
 · have hi1:i1<p0.Mantles.length:=ltD hb2
   have H:=H1 hi1
   refine W.skip (At.zad (W.seq (W.block (W.sr env [] [] [1,2,3,4,9,10,11,13,14,15] [4,11] rfl rfl rfl (.cons (inD hi1) .nil) .nil ?_))))
   obtain ⟨hc3,H⟩:=zaa H
   refine W.sr env [] [⟨.bool ((zap ((p0.Mantles.getD i1 default).Known) ((p0.Mantles.getD i1 default).Until) p3)),[],0,[]⟩] [1,2,3,4,9,10,13,14,15,52] [4] rfl rfl (by kernel_rfl) (.cons id (.cons id (.cons id (.cons id (.cons id (.cons id (.cons id (.cons id (.cons id (.cons id (.cons id (.cons id (.cons id (.cons id (.cons hc3 (.cons id (.cons id (.cons id (.cons id (.cons id (.cons id (.cons id (.cons (fun hW h=>by revert hW h;first|(simp +contextual;done)|grind) (.cons id .nil)))))))))))))))))))))))) (.on (fun hW=>zc8 ((p0.Mantles.getD i1 default).Known) ((p0.Mantles.getD i1 default).Until) p3) .nil) ?_
   refine W.co H rfl (fun hb4 H=>?_) (fun hb4 H=>?_)
   · refine W.region env [] [] rfl rfl rfl .nil .nil (At.kp [1,2,3,4,9,13,14,15] [4] ?_)
     refine At.inb (At.zad (W.region env [] [] rfl rfl rfl (.cons (incD hi1 hn1) .nil) .nil (At.kp [1,2,3,4,9,13,14,15] [4] ?_)))
     refine At.zaF (At.kp [1,2,3,4,9,13,14,15] [4] ?_)
     exact At.conv (.cons .qi (.cons .qi (.cons .qi (.cons .q (.cons .qi (.cons .q (.cons .qi (.cons .qi .nil)))))))) (.cons .q .nil) (hK1 hi1 (i1:Int) H)
   · refine W.skip (At.inb (At.zad (W.region env [] [] rfl rfl rfl (.cons (incD hi1 hn1) .nil) .nil (At.kp [1,2,3,4,9,13,14,15] [4] ?_))))
     refine At.zaF (At.kp [1,2,3,4,9,13,14,15] [4] ?_)
     exact At.conv (.cons .qi (.cons .qi (.cons .qi (.cons .q (.cons .qi (.cons .q (.cons .qi (.cons .qi .nil)))))))) (.cons .q .nil) (hK1 hi1 s1 H)
 · have H:=H2 (geD hb2)
   refine W.exit (At.xthen (At.xthen (At.xhere (At.zad (W.rg env [8] [] ?_)))))
   refine W.ret ?_
   cases H
   exact At.rz env hval
theorem zgo (p0:Wear) (p1:Int) (p2:Int) (p3:Int) {r:(Int×Int)} (H:zdd p0 p1 p2 p3=some r):Ctr Tryz.prog 97 [.agg (zal p0),.int .i64 (p1),.int .i64 (p2),.int .i64 (p3)] (.tup [.int .i64 (r.1),.int .i64 (r.2)]):=by
 unfold zdd at H
 refine Ctr.ob Tryz.func97 Tryz.ntmps97 (fun w0 h0 hval=>?_)
 refine W.rg env [1,2,3,4] [4] ?_
 refine W.seq (W.seq ?_)
 obtain ⟨y1,hy2,H⟩:=zac H
 refine W.region env [] [⟨.int .i64 (y1),[],0,[]⟩] rfl rfl rfl .nil (.free (zd9 p0 hy2) .nil) (At.kp [1,2,3,4,10] [4] ?_)
 refine At.zad (W.rg env [1,2,3,4,10,16] [4] ?_)
 refine W.co H rfl (fun hb3 H=>?_) (fun hb3 H=>?_)
 · refine W.rg env [8,9] [] ?_
   refine W.ret (At.rthen ?_)
   cases H
   exact At.rz env hval
 · refine W.skip (At.zad (W.seq (W.sr env [] [⟨.bool ((zaI p1)),[],0,[]⟩] [1,2,3,4,20] [4] rfl rfl rfl .nil (.free (zc6 p1) .nil) ?_)))
   refine W.co H rfl (fun hb4 H=>?_) (fun hb4 H=>?_)
   · refine W.rg env [8,9] [] ?_
     refine W.ret (At.rthen ?_)
     cases H
     exact At.rz env hval
   · refine W.skip (At.zad (W.seq (W.seq ?_)))
     obtain ⟨y5,hy6,H⟩:=zac H
     refine W.region env [] [⟨.int .i64 (y5),[],0,[]⟩] rfl rfl rfl .nil (.free (Ctr.sim (.cons (.refl _) (.cons (Sim.lit (f:=zab) ([p2,p3]:List Int) rfl rfl (fun _=>rfl)) .nil)) (zeN p0 ([p2,p3]:List Int) hy6)) .nil) (At.kp [1,2,3,4,11] [4] ?_)
     refine At.zad (W.rg env [1,2,3,4,11,27] [4] ?_)
     refine W.co H rfl (fun hb7 H=>?_) (fun hb7 H=>?_)
     · refine W.rg env [8,9] [] ?_
       refine W.ret (At.rthen ?_)
       cases H
       exact At.rz env hval
     · refine W.skip (At.zad (W.seq ?_))
       obtain ⟨y8,hy9,H⟩:=zac H
       refine W.region env [] [⟨.int .i64 (y8),[],0,[]⟩] rfl rfl rfl .nil (.free (zc7 p0 p1 p2 p3 hy9) .nil) (At.kp [12] [] ?_)
       refine At.zad (W.seq (W.rg env [12,35] [] ?_))
       refine W.co H rfl (fun hb10 H=>?_) (fun hb10 H=>?_)
       · refine W.rg env [8,9] [] ?_
         refine W.ret (At.rthen ?_)
         cases H
         exact At.rz env hval
       · refine W.skip (At.zad (W.rg env [8,9] [] ?_))
         refine W.ret ?_
         cases H
         exact At.rz env hval
theorem zfL (p0:(List Burn)) (p1:Burn→Option Bool) (p1_g:Nat) (p1_a p1_b:List AV) (p1_h:∀ x0 r,p1 x0=some r→Ctr Tryz.prog p1_g (p1_a++([.agg [.int .i64 (x0.Source),.int .i64 (x0.Lamp),.int .i64 (x0.Night),.int .i64 (x0.Minutes.Lo),.int .i64 (x0.Minutes.Hi),.int .i64 (x0.Known),.int .i64 (x0.Until)]]++p1_b)) (.bool (r))) {r:Int} (H:zcY p0 p1=some r):Ctr Tryz.prog 159 [roL 7 zaA p0,.clo (.func p1_g) p1_a p1_b] (.int .i64 (r)):=by
 unfold zcY at H
 refine Ctr.ob Tryz.func159 Tryz.ntmps159 (fun w0 h0 hval=>?_)
 refine W.rg env [0,1] [] ?_
 refine W.seq (W.rg env [0,1,7,8] [] ?_)
 refine W.block (At.kp [0,1,7,8] [] ?_)
 refine W.len (t:=0) rfl (fun hn1=>?_)
 refine W.zaq H (fun i1 (s1:Unit)=>[(0,roL 7 zaA p0),(1,.clo (.func p1_g) p1_a p1_b),(7,.int .i64 (((p0.length:Nat):Int))),(8,.int .i64 ((i1:Int)))]) (fun i1 (s1:Unit)=>[]) (.cons .q (.cons .q (.cons .qi (.cons .qi .nil)))) .nil (fun k1 i1 s1 hle1 H1 H2 K0 hK1=>?_)
 refine W.rg env [0,1,7,8,9] [] ?_
 refine W.seq (W.cond rfl (fun hb2=>?_) (fun hb2=>?_))
 · have hi1:i1<p0.length:=ltD hb2
   have H:=H1 hi1
   refine W.skip (At.zad (W.seq (W.block (W.rg env [0,1,5,7,8] [] ?_))))
   refine W.seq ?_
   obtain ⟨y3,hy4,H⟩:=zac H
   refine W.region env [] [⟨.bool (y3),[],0,[]⟩] rfl rfl rfl (.cons (inD hi1) .nil) (.free (p1_h (p0.getD i1 default) _ hy4) .nil) (At.kp [0,1,5,7,8,16] [] ?_)
   refine At.zad (W.co H rfl (fun hb5 H=>?_) (fun hb5 H=>?_))
   · refine W.rg env [4] [] ?_
     refine W.ret (At.rinb ?_)
     refine At.rthen ?_
     refine At.rthen ?_
     refine At.rinb ?_
     refine At.rthen ?_
     cases H
     exact At.rz env hval
   · refine W.skip (At.inb (At.zad (W.region env [] [] rfl rfl rfl (.cons (incD hi1 hn1) .nil) .nil (At.kp [0,1,7,8] [] ?_))))
     refine At.zaF (At.kp [0,1,7,8] [] ?_)
     exact At.conv (.cons .q (.cons .q (.cons .qi (.cons .qi .nil)))) .nil (hK1 hi1 () H)
 · have H:=H2 (geD hb2)
   refine W.exit (At.xthen (At.xthen (At.xhere (At.zad (W.rg env [4] [] ?_)))))
   refine W.ret ?_
   cases H
   exact At.rz env hval
theorem zeQ (p0:(List Burn)) (p1:Burn→Option Bool) (p1_g:Nat) (p1_a p1_b:List AV) (p1_h:∀ x0 r,p1 x0=some r→Ctr Tryz.prog p1_g (p1_a++([.agg [.int .i64 (x0.Source),.int .i64 (x0.Lamp),.int .i64 (x0.Night),.int .i64 (x0.Minutes.Lo),.int .i64 (x0.Minutes.Hi),.int .i64 (x0.Known),.int .i64 (x0.Until)]]++p1_b)) (.bool (r))) {r:Bool} (H:zcp p0 p1=some r):Ctr Tryz.prog 180 [roL 7 zaA p0,.clo (.func p1_g) p1_a p1_b] (.bool (r)):=by
 unfold zcp at H
 refine Ctr.ob Tryz.func180 Tryz.ntmps180 (fun w0 h0 hval=>?_)
 refine W.rg env [0,1] [] ?_
 refine W.seq ?_
 obtain ⟨y1,hy2,H⟩:=zac H
 refine W.region env [] [⟨.int .i64 (y1),[],0,[]⟩] rfl rfl rfl .nil (.free (zfL p0 p1 p1_g p1_a p1_b p1_h hy2) .nil) (At.kp [4] [] ?_)
 refine At.zad (W.ret ?_)
 cases H
 exact At.rz env hval
theorem ziH (p0:Burn) (c0:Burn) (c1:Int):Ctr Tryz.prog 179 [.agg [.int .i64 (p0.Source),.int .i64 (p0.Lamp),.int .i64 (p0.Night),.int .i64 (p0.Minutes.Lo),.int .i64 (p0.Minutes.Hi),.int .i64 (p0.Known),.int .i64 (p0.Until)],.rp [.int .i64 (c0.Source),.int .i64 (c0.Lamp),.int .i64 (c0.Night),.int .i64 (c0.Minutes.Lo),.int .i64 (c0.Minutes.Hi),.int .i64 (c0.Known),.int .i64 (c0.Until)],.rp [.int .i64 (c1)]] (.bool ((zbi p0 c0 c1))):=by
 obtain ⟨r,H⟩:∃ r,zbi p0 c0 c1=r:=⟨_,rfl⟩
 rw [H]
 unfold zbi at H
 refine Ctr.ob Tryz.func179 Tryz.ntmps179 (fun w0 h0 hval=>?_)
 refine W.rg env [1,2,3] [3] ?_
 refine W.sr env [] [⟨.bool ((zap p0.Known p0.Until c1)),[],0,[]⟩] [4] [] rfl rfl rfl (.cons id (.cons id (.cons id (.cons id (.cons id (.cons id (.cons id (.cons id (.cons id (.cons id (.cons id .nil))))))))))) (.on (fun hW=>zc8 p0.Known p0.Until c1) .nil) ?_
 refine W.ret ?_
 cases H
 exact At.rz env hval
theorem zb2 (fuel:Nat) (p0:(List Int)) (p1:Int) (p2:Int) (p3:Int→Int→Option Int) (p3_g:Nat) (p3_a p3_b:List AV) (p3_h:∀ x0 x1 r,p3 x0 x1=some r→Ctr Tryz.prog p3_g (p3_a++([.int .i64 (x0),.int .i64 (x1)]++p3_b)) (.int .i64 (r))) {r:(List Int)} (H:zaN fuel p0 p1 p2 p3=some r):CtrO Tryz.prog 205 [.buf 90000 (p0).length,.int .i64 (p1),.int .i64 (p2),.clo (.func p3_g) p3_a p3_b] [(90000,bufL 3 1 zab p0)] (.tup []) [(90000,bufL 3 1 zab r)]:=by
 unfold zaN at H
 refine CtrL.zb5 (N:=53) Tryz.func205 (by kernel_rfl) (c:=_) rfl Tryz.ntmps205 rfl rfl (fun w0 h0 ρb hval hdom hent=>?_)
 obtain ⟨hc1,H⟩:=zaa H
 refine W.sr env [] [] [0,1,2,3,8] [90000] rfl rfl rfl (.cons hc1 .nil) .nil ?_
 refine W.block (At.kp [0,1,2,3,8] [90000] ?_)
 refine W.loopGo H (fun (s2:Int×(List Int))=>[(0,.buf 90000 (s2.2).length),(1,.int .i64 (p1)),(2,.int .i64 (p2)),(3,.clo (.func p3_g) p3_a p3_b),(8,.int .i64 (s2.1))]) (fun (s2:Int×(List Int))=>[(90000,bufL 3 1 zab s2.2)]) (.cons .qb (.cons .qi (.cons .qi (.cons .q (.cons .qi .nil))))) (.cons .q .nil) (fun k2 s2 H K0 hK2=>?_)
 refine W.seq (W.rg env [0,1,2,3,8,14] [90000] ?_)
 refine W.co H rfl (fun hb3 H=>?_) (fun hb3 H=>?_)
 · refine W.skip (At.zad (W.seq (W.block (W.rg env [0,1,2,3,8,9] [90000] ?_))))
   refine W.block (At.kp [0,1,2,3,8,9] [90000] ?_)
   refine W.loopGo H (fun (s4:Int×(List Int))=>[(0,.buf 90000 (s4.2).length),(1,.int .i64 (p1)),(2,.int .i64 (p2)),(3,.clo (.func p3_g) p3_a p3_b),(8,.int .i64 (s2.1)),(9,.int .i64 (s4.1))]) (fun (s4:Int×(List Int))=>[(90000,bufL 3 1 zab s4.2)]) (.cons .qb (.cons .qi (.cons .qi (.cons .q (.cons .qi (.cons .qi .nil)))))) (.cons .q .nil) (fun k4 s4 H K0 hK4=>?_)
   refine W.seq (W.seq ?_)
   obtain ⟨hc5,H⟩:=zaa H
   obtain ⟨hc6,H⟩:=zaa H
   obtain ⟨hc7,H⟩:=zaa H
   obtain ⟨y8,hy9,H⟩:=zac H
   refine W.region env [] [⟨.int .i64 (y8),[],0,[]⟩] rfl rfl (by kernel_rfl) (.cons (fun hW=>⟨by first|rfl|(simp;done)|omega|(simp;omega),hc5 hW⟩) (.cons id (.cons id (.cons (fun hW=>(⟨by first|rfl|(simp;done)|omega|(simp;omega),(by have:=hc5 hW;first|omega|(simp only [List.length_set];omega)|(simp only [Int.toNat_natCast] at *;omega)|(simp at this ⊢;omega))⟩)) (.cons id (.cons hc6 (.cons id (.cons (fun hW=>⟨by first|rfl|(simp;done)|omega|(simp;omega),hc7 hW⟩) (.cons id (.cons id (.cons (fun hW=>(⟨by first|rfl|(simp;done)|omega|(simp;omega),(by have:=hc7 hW;first|omega|(simp only [List.length_set];omega)|(simp only [Int.toNat_natCast] at *;omega)|(simp at this ⊢;omega))⟩)) (.cons id (.cons id (.cons id (.cons id (.cons id (.cons id .nil))))))))))))))))) (.on (fun hW=>p3_h (s4.2.getD (s4.1).toNat default) (s4.2.getD ((s4.1 - 1)).toNat default) _ (zbJ hy9 hW)) .nil) (At.kp [0,1,2,3,8,9,34] [90000] ?_)
   refine At.zad (W.co H rfl (fun hb10 H=>?_) (fun hb10 H=>?_))
   · refine W.skip (At.zad (W.seq (W.block ?_)))
     obtain ⟨hc11,H⟩:=zaa H
     obtain ⟨hc12,H⟩:=zaa H
     obtain ⟨hc13,H⟩:=zaa H
     obtain ⟨hc14,H⟩:=zaa H
     obtain ⟨hc15,H⟩:=zaa H
     obtain ⟨hc16,H⟩:=zaa H
     refine W.region env [] [] rfl rfl (by first|rfl|kernel_rfl) (.cons hc11 (.cons hc12 (.cons (⟨by first|rfl|(simp;done)|omega|(simp;omega),hc13⟩) (.cons (⟨by first|rfl|(simp;done)|omega|(simp;omega),(by have:=hc13;first|omega|(simp only [List.length_set];omega)|(simp only [Int.toNat_natCast] at *;omega)|(simp at this ⊢;omega))⟩) (.cons (⟨by first|rfl|(simp;done)|omega|(simp;omega),hc14⟩) (.cons (⟨by first|rfl|(simp;done)|omega|(simp;omega),(by have:=hc14;first|omega|(simp only [List.length_set];omega)|(simp only [Int.toNat_natCast] at *;omega)|(simp at this ⊢;omega))⟩) (.cons (⟨by first|rfl|(simp;done)|omega|(simp;omega),hc15⟩) (.cons (⟨by first|rfl|(simp;done)|omega|(simp;omega),(by have:=hc15;first|omega|(simp only [List.length_set];omega)|(simp only [Int.toNat_natCast] at *;omega)|(simp at this ⊢;omega))⟩) (.cons (⟨by first|rfl|(simp;done)|omega|(simp;omega),(by simpa using hc16)⟩) (.cons (⟨by first|rfl|(simp;done)|omega|(simp;omega),(by have:=hc16;simp at this ⊢;omega)⟩) .nil)))))))))) .nil (At.kp [0,1,2,3,8,9] [90000] ?_)
     refine At.zbb (.cons (y:=bufL 3 1 zab ((s4.2.set (s4.1).toNat (s4.2.getD ((s4.1 - 1)).toNat default)).set ((s4.1 - 1)).toNat (s4.2.getD (s4.1).toNat default))) (BSim.seg (Seg.set (Seg.set (Seg.refl zab _) (s4.2.getD ((s4.1 - 1)).toNat default) rfl) (s4.2.getD (s4.1).toNat default) rfl)) .nil) ?_
     refine At.inb (At.zad ?_)
     obtain ⟨hc17,H⟩:=zaa H
     refine W.r1 env hc17 [0,1,2,3,8,9] [90000] ?_
     refine At.zaF (At.kp [0,1,2,3,8,9] [90000] ?_)
     exact At.conv (.cons .qb (.cons .qi (.cons .qi (.cons .q (.cons .qi (.cons .qi .nil)))))) (.cons .q .nil) (hK4 ((s4.1 - 1),((s4.2.set (s4.1).toNat (s4.2.getD ((s4.1 - 1)).toNat default)).set ((s4.1 - 1)).toNat (s4.2.getD (s4.1).toNat default))) H)
   · refine W.exit (At.xthen (At.xthen (At.xhere (At.inb (At.zad ?_)))))
     obtain ⟨hc18,H⟩:=zaa H
     refine W.r1 env hc18 [0,1,2,3,8] [90000] ?_
     refine At.zaF (At.kp [0,1,2,3,8] [90000] ?_)
     exact At.conv (.cons .qb (.cons .qi (.cons .qi (.cons .q (.cons .qi .nil))))) (.cons .q .nil) (hK2 ((s2.1+1),s4.2) H)
 · refine W.exit (At.xthen (At.xthen (At.xhere (At.zdN ?_))))
   cases H
   exact At.retL env.ty [90000] rfl rfl rfl rfl (.cons (.refl _) .nil) (.refl _) hval hdom hent rfl rfl
theorem zbv (fuel:Nat) (p0:(List Int)) (p1:Int) (p2:Int) (p3:Int) (p4:Int→Int→Option Int) (p4_g:Nat) (p4_a p4_b:List AV) (p4_h:∀ x0 x1 r,p4 x0 x1=some r→Ctr Tryz.prog p4_g (p4_a++([.int .i64 (x0),.int .i64 (x1)]++p4_b)) (.int .i64 (r))) {r:(List Int)} (H:zaO fuel p0 p1 p2 p3 p4=some r):CtrO Tryz.prog 209 [.buf 90000 (p0).length,.int .i64 (p1),.int .i64 (p2),.int .i64 (p3),.clo (.func p4_g) p4_a p4_b] [(90000,bufL 3 1 zab p0)] (.tup []) [(90000,bufL 3 1 zab r)]:=by
 unfold zaO at H
 refine CtrL.zb5 (N:=38) Tryz.func209 (by kernel_rfl) (c:=_) rfl Tryz.ntmps209 rfl rfl (fun w0 h0 ρb hval hdom hent=>?_)
 refine W.rg env [0,1,2,3,10] [90000] ?_
 refine W.block (At.kp [0,1,2,3,10] [90000] ?_)
 refine W.loopGo H (fun (s1:Int×(List Int))=>[(0,.buf 90000 (s1.2).length),(1,.int .i64 (p1)),(2,.int .i64 (p2)),(3,.int .i64 (p3)),(10,.int .i64 (s1.1))]) (fun (s1:Int×(List Int))=>[(90000,bufL 3 1 zab s1.2)]) (.cons .qb (.cons .qi (.cons .qi (.cons .qi (.cons .qi .nil))))) (.cons .q .nil) (fun k1 s1 H K0 hK1=>?_)
 refine W.seq (W.rg env [0,1,2,3,10,13] [90000] ?_)
 refine W.co H rfl (fun hb2 H=>?_) (fun hb2 H=>?_)
 · refine W.skip (At.zad (W.seq (W.block ?_)))
   obtain ⟨hc3,H⟩:=zaa H
   obtain ⟨hc4,H⟩:=zaa H
   obtain ⟨hc5,H⟩:=zaa H
   obtain ⟨hc6,H⟩:=zaa H
   obtain ⟨hc7,H⟩:=zaa H
   obtain ⟨hc8,H⟩:=zaa H
   obtain ⟨hc9,H⟩:=zaa H
   obtain ⟨hc10,H⟩:=zaa H
   refine W.region env [] [] rfl rfl (by first|rfl|kernel_rfl) (.cons hc3 (.cons hc4 (.cons hc5 (.cons (⟨by first|rfl|(simp;done)|omega|(simp;omega),hc6⟩) (.cons (⟨by first|rfl|(simp;done)|omega|(simp;omega),(by have:=hc6;first|omega|(simp only [List.length_set];omega)|(simp only [Int.toNat_natCast] at *;omega)|(simp at this ⊢;omega))⟩) (.cons hc7 (.cons (⟨by first|rfl|(simp;done)|omega|(simp;omega),hc8⟩) (.cons (⟨by first|rfl|(simp;done)|omega|(simp;omega),(by have:=hc8;first|omega|(simp only [List.length_set];omega)|(simp only [Int.toNat_natCast] at *;omega)|(simp at this ⊢;omega))⟩) (.cons (⟨by first|rfl|(simp;done)|omega|(simp;omega),hc9⟩) (.cons (⟨by first|rfl|(simp;done)|omega|(simp;omega),(by have:=hc9;first|omega|(simp only [List.length_set];omega)|(simp only [Int.toNat_natCast] at *;omega)|(simp at this ⊢;omega))⟩) (.cons (⟨by first|rfl|(simp;done)|omega|(simp;omega),(by simpa using hc10)⟩) (.cons (⟨by first|rfl|(simp;done)|omega|(simp;omega),(by have:=hc10;simp at this ⊢;omega)⟩) .nil)))))))))))) .nil (At.kp [0,1,2,3,10] [90000] ?_)
   refine At.zbb (.cons (y:=bufL 3 1 zab ((s1.2.set ((p1+s1.1)).toNat (s1.2.getD ((p2+s1.1)).toNat default)).set ((p2+s1.1)).toNat (s1.2.getD ((p1+s1.1)).toNat default))) (BSim.seg (Seg.set (Seg.set (Seg.refl zab _) (s1.2.getD ((p2+s1.1)).toNat default) rfl) (s1.2.getD ((p1+s1.1)).toNat default) rfl)) .nil) ?_
   refine At.inb (At.zad ?_)
   obtain ⟨hc11,H⟩:=zaa H
   refine W.r1 env hc11 [0,1,2,3,10] [90000] ?_
   refine At.zaF (At.kp [0,1,2,3,10] [90000] ?_)
   exact At.conv (.cons .qb (.cons .qi (.cons .qi (.cons .qi (.cons .qi .nil))))) (.cons .q .nil) (hK1 ((s1.1+1),((s1.2.set ((p1+s1.1)).toNat (s1.2.getD ((p2+s1.1)).toNat default)).set ((p2+s1.1)).toNat (s1.2.getD ((p1+s1.1)).toNat default))) H)
 · refine W.exit (At.xthen (At.xthen (At.xhere (At.zdN ?_))))
   cases H
   exact At.retL env.ty [90000] rfl rfl rfl rfl (.cons (.refl _) .nil) (.refl _) hval hdom hent rfl rfl
theorem zes (fuel:Nat) (p0:(List Int)) (p1:Int) (p2:Int) (p3:Int) (p4:Int→Int→Option Int) (p4_g:Nat) (p4_a p4_b:List AV) (p4_h:∀ x0 x1 r,p4 x0 x1=some r→Ctr Tryz.prog p4_g (p4_a++([.int .i64 (x0),.int .i64 (x1)]++p4_b)) (.int .i64 (r))) {r:(List Int)} (H:za6 fuel p0 p1 p2 p3 p4=some r):CtrO Tryz.prog 208 [.buf 90000 (p0).length,.int .i64 (p1),.int .i64 (p2),.int .i64 (p3),.clo (.func p4_g) p4_a p4_b] [(90000,bufL 3 1 zab p0)] (.tup []) [(90000,bufL 3 1 zab r)]:=by
 unfold za6 at H
 refine CtrL.zb5 (N:=58) Tryz.func208 (by kernel_rfl) (c:=_) rfl Tryz.ntmps208 rfl rfl (fun w0 h0 ρb hval hdom hent=>?_)
 obtain ⟨hc1,H⟩:=zaa H
 refine W.sr env [] [] [0,2,3,4,10] [90000] rfl rfl rfl (.cons hc1 .nil) .nil ?_
 obtain ⟨hc2,H⟩:=zaa H
 refine W.sr env [] [] [0,2,4,10,11] [90000] rfl rfl rfl (.cons hc2 .nil) .nil ?_
 refine W.seq (W.block (At.kp [0,2,4,10,11] [90000] ?_))
 refine W.loopGo H (fun (s3:Int×Int×(List Int))=>[(0,.buf 90000 (s3.2.2).length),(2,.int .i64 (p2)),(4,.clo (.func p4_g) p4_a p4_b),(10,.int .i64 (s3.1)),(11,.int .i64 (s3.2.1))]) (fun (s3:Int×Int×(List Int))=>[(90000,bufL 3 1 zab s3.2.2)]) (.cons .qb (.cons .qi (.cons .q (.cons .qi (.cons .qi .nil))))) (.cons .q .nil) (fun k3 s3 H K0 hK3=>?_)
 refine W.seq (W.rg env [0,2,4,10,11,20] [90000] ?_)
 refine W.co H rfl (fun hb4 H=>?_) (fun hb4 H=>?_)
 · refine W.skip (At.zad (W.block (W.rg env [0,2,4,10,11,23] [90000] ?_)))
   refine W.co H rfl (fun hb5 H=>?_) (fun hb5 H=>?_)
   · refine W.seq ?_
     obtain ⟨hc6,H⟩:=zaa H
     obtain ⟨y7,hy8,H⟩:=zac H
     obtain ⟨hc9,H⟩:=zaa H
     refine W.region env [] [⟨.tup [],[(90000,bufL 3 1 zab y7)],0,[90000]⟩] rfl rfl (by kernel_rfl) (.cons hc6 .nil) (.free (CtrO.sim (CtrO.ren (zbv fuel s3.2.2 (p2 - s3.1) p2 s3.2.1 p4 p4_g p4_a p4_b p4_h hy8) [(90000,90000)]) (.cons .qc (.cons (.refl _) (.cons (.refl _) (.cons (.refl _) (.cons (.refl _) .nil))))) (.cons (.refl _) .nil)) .nil) (At.kp [0,2,4,10,11] [90000] ?_)
     refine At.zad ?_
     obtain ⟨hc10,H⟩:=zaa H
     refine W.r1 env hc10 [0,2,4,10,11] [90000] ?_
     refine At.inb (At.zaF (At.kp [0,2,4,10,11] [90000] ?_))
     exact At.conv (.cons .qb (.cons .qi (.cons .q (.cons .qi (.cons .qi .nil))))) (.cons .q .nil) (hK3 ((s3.1 - s3.2.1),s3.2.1,y7) H)
   · refine W.seq ?_
     obtain ⟨hc11,H⟩:=zaa H
     obtain ⟨hc12,H⟩:=zaa H
     obtain ⟨hc13,H⟩:=zaa H
     obtain ⟨y14,hy15,H⟩:=zac H
     obtain ⟨hc16,H⟩:=zaa H
     refine W.region env [] [⟨.tup [],[(90000,bufL 3 1 zab y14)],0,[90000]⟩] rfl rfl (by kernel_rfl) (.cons hc11 (.cons hc12 (.cons hc13 .nil))) (.free (CtrO.sim (CtrO.ren (zbv fuel s3.2.2 (p2 - s3.1) ((p2+s3.2.1) - s3.1) s3.1 p4 p4_g p4_a p4_b p4_h hy15) [(90000,90000)]) (.cons .qc (.cons (.refl _) (.cons (.refl _) (.cons (.refl _) (.cons (.refl _) .nil))))) (.cons (.refl _) .nil)) .nil) (At.kp [0,2,4,10,11] [90000] ?_)
     refine At.zad ?_
     obtain ⟨hc17,H⟩:=zaa H
     refine W.r1 env hc17 [0,2,4,10,11] [90000] ?_
     refine At.inb (At.zaF (At.kp [0,2,4,10,11] [90000] ?_))
     exact At.conv (.cons .qb (.cons .qi (.cons .q (.cons .qi (.cons .qi .nil))))) (.cons .q .nil) (hK3 (s3.1,(s3.2.1 - s3.1),y14) H)
 · refine W.exit (At.xthen (At.xthen (At.xhere (At.zad ?_))))
   obtain ⟨hc18,H⟩:=zaa H
   obtain ⟨y19,hy20,H⟩:=zac H
   refine W.region env [] [⟨.tup [],[(90000,bufL 3 1 zab y19)],0,[90000]⟩] rfl rfl (by kernel_rfl) (.cons hc18 .nil) (.free (CtrO.sim (CtrO.ren (zbv fuel s3.2.2 (p2 - s3.1) p2 s3.1 p4 p4_g p4_a p4_b p4_h hy20) [(90000,90000)]) (.cons .qc (.cons (.refl _) (.cons (.refl _) (.cons (.refl _) (.cons (.refl _) .nil))))) (.cons (.refl _) .nil)) .nil) (At.kp [] [90000] ?_)
   refine At.zdN ?_
   cases H
   exact At.retL env.ty [90000] rfl rfl rfl rfl (.cons (.refl _) .nil) (.refl _) hval hdom hent rfl rfl
theorem zcv (fuel:Nat):∀ (n:Nat) (p0:(List Int)) (p1:Int) (p2:Int) (p3:Int) (p4:Int→Int→Option Int) (p4_g:Nat) (p4_a p4_b:List AV) (p4_h:∀ x0 x1 r,p4 x0 x1=some r→Ctr Tryz.prog p4_g (p4_a++([.int .i64 (x0),.int .i64 (x1)]++p4_b)) (.int .i64 (r))) {r:(List Int)} (H:zaQ fuel n p0 p1 p2 p3 p4=some r),CtrO Tryz.prog 206 [.buf 90000 (p0).length,.int .i64 (p1),.int .i64 (p2),.int .i64 (p3),.clo (.func p4_g) p4_a p4_b] [(90000,bufL 3 1 zab p0)] (.tup []) [(90000,bufL 3 1 zab r)]:=by
 intro n;induction n with
 | zero=>intro p0 p1 p2 p3 p4 p4_g p4_a p4_b p4_h r H;cases H
 | succ n ih=>
  intro p0 p1 p2 p3 p4 p4_g p4_a p4_b p4_h r H
  have H:zaY fuel (zaQ fuel n) p0 p1 p2 p3 p4=some r:=H
  unfold zaY at H
  refine CtrL.zb5 (N:=220) Tryz.func206 (by kernel_rfl) (c:=_) rfl Tryz.ntmps206 rfl rfl (fun w0 h0 ρb hval hdom hent=>?_)
  refine W.seq ?_
  obtain ⟨hc1,H⟩:=zaa H
  refine W.sr env [] [] [0,1,2,3,4,28] [90000] rfl rfl rfl (.cons hc1 .nil) .nil ?_
  refine W.co H rfl (fun hb2 H=>?_) (fun hb2 H=>?_)
  · refine W.rg env [0,1,3,4,10] [90000] ?_
    refine W.rg env [0,1,4,10,11] [90000] ?_
    refine W.seq (W.block (At.kp [0,1,4,10,11] [90000] ?_))
    refine W.loopGo H (fun (s3:Int×Int)=>[(0,.buf 90000 (p0).length),(1,.int .i64 (p1)),(4,.clo (.func p4_g) p4_a p4_b),(10,.int .i64 (s3.1)),(11,.int .i64 (s3.2))]) (fun (s3:Int×Int)=>[(90000,bufL 3 1 zab p0)]) (.cons .qb (.cons .qi (.cons .q (.cons .qi (.cons .qi .nil))))) (.cons .q .nil) (fun k3 s3 H K0 hK3=>?_)
    refine W.seq (W.rg env [0,1,4,10,11,33] [90000] ?_)
    refine W.co H rfl (fun hb4 H=>?_) (fun hb4 H=>?_)
    · refine W.skip (At.zad (W.block ?_))
      obtain ⟨hc5,H⟩:=zaa H
      obtain ⟨hc6,H⟩:=zaa H
      obtain ⟨hc7,H⟩:=zaa H
      refine W.sr env [] [] [0,1,4,10,11,12] [90000] rfl rfl rfl (.cons hc5 (.cons hc6 (.cons (by decide) (.cons hc7 .nil)))) .nil ?_
      refine W.seq ?_
      obtain ⟨hc8,H⟩:=zaa H
      obtain ⟨hc9,H⟩:=zaa H
      obtain ⟨y10,hy11,H⟩:=zac H
      refine W.region env [] [⟨.int .i64 (y10),[],0,[]⟩] rfl rfl (by kernel_rfl) (.cons (⟨by first|rfl|(simp;done)|omega|(simp;omega),hc8⟩) (.cons (⟨by first|rfl|(simp;done)|omega|(simp;omega),(by have:=hc8;first|omega|(simp only [List.length_set];omega)|(simp only [Int.toNat_natCast] at *;omega)|(simp at this ⊢;omega))⟩) (.cons (⟨by first|rfl|(simp;done)|omega|(simp;omega),hc9⟩) (.cons (⟨by first|rfl|(simp;done)|omega|(simp;omega),(by have:=hc9;first|omega|(simp only [List.length_set];omega)|(simp only [Int.toNat_natCast] at *;omega)|(simp at this ⊢;omega))⟩) .nil)))) (.free (p4_h (p0.getD ((Int.fdiv (s3.1+s3.2) (2 ^ (1:Int).toNat))).toNat default) (p0.getD (p1).toNat default) _ hy11) .nil) (At.kp [0,1,4,10,11,12,50] [90000] ?_)
      refine At.zad (W.co H rfl (fun hb12 H=>?_) (fun hb12 H=>?_))
      · obtain ⟨hc13,H⟩:=zaa H
        refine W.r1 env hc13 [0,1,4,10,11] [90000] ?_
        refine At.inb (At.zaF (At.kp [0,1,4,10,11] [90000] ?_))
        exact At.conv (.cons .qb (.cons .qi (.cons .q (.cons .qi (.cons .qi .nil))))) (.cons .q .nil) (hK3 (((Int.fdiv (s3.1+s3.2) (2 ^ (1:Int).toNat))+1),s3.2) H)
      · refine W.region env [] [] rfl rfl rfl .nil .nil (At.kp [0,1,4,10,11] [90000] ?_)
        refine At.inb (At.zaF (At.kp [0,1,4,10,11] [90000] ?_))
        exact At.conv (.cons .qb (.cons .qi (.cons .q (.cons .qi (.cons .qi .nil))))) (.cons .q .nil) (hK3 (s3.1,(Int.fdiv (s3.1+s3.2) (2 ^ (1:Int).toNat))) H)
    · refine W.exit (At.xthen (At.xthen (At.xhere (At.zad (W.seq (W.rg env [0,10,13] [90000] ?_))))))
      refine W.block (At.kp [0,10,13] [90000] ?_)
      refine W.loopGo H (fun (s14:Int×(List Int))=>[(0,.buf 90000 (s14.2).length),(10,.int .i64 (s3.1)),(13,.int .i64 (s14.1))]) (fun (s14:Int×(List Int))=>[(90000,bufL 3 1 zab s14.2)]) (.cons .qb (.cons .qi (.cons .qi .nil))) (.cons .q .nil) (fun k14 s14 H K0 hK14=>?_)
      refine W.seq ?_
      obtain ⟨hc15,H⟩:=zaa H
      refine W.sr env [] [] [0,10,13,58] [90000] rfl rfl rfl (.cons hc15 .nil) .nil ?_
      refine W.co H rfl (fun hb16 H=>?_) (fun hb16 H=>?_)
      · refine W.skip (At.zad (W.seq (W.block ?_)))
        obtain ⟨hc17,H⟩:=zaa H
        obtain ⟨hc18,H⟩:=zaa H
        obtain ⟨hc19,H⟩:=zaa H
        obtain ⟨hc20,H⟩:=zaa H
        obtain ⟨hc21,H⟩:=zaa H
        obtain ⟨hc22,H⟩:=zaa H
        refine W.region env [] [] rfl rfl (by first|rfl|kernel_rfl) (.cons hc17 (.cons hc18 (.cons (⟨by first|rfl|(simp;done)|omega|(simp;omega),hc19⟩) (.cons (⟨by first|rfl|(simp;done)|omega|(simp;omega),(by have:=hc19;first|omega|(simp only [List.length_set];omega)|(simp only [Int.toNat_natCast] at *;omega)|(simp at this ⊢;omega))⟩) (.cons (⟨by first|rfl|(simp;done)|omega|(simp;omega),hc20⟩) (.cons (⟨by first|rfl|(simp;done)|omega|(simp;omega),(by have:=hc20;first|omega|(simp only [List.length_set];omega)|(simp only [Int.toNat_natCast] at *;omega)|(simp at this ⊢;omega))⟩) (.cons (⟨by first|rfl|(simp;done)|omega|(simp;omega),hc21⟩) (.cons (⟨by first|rfl|(simp;done)|omega|(simp;omega),(by have:=hc21;first|omega|(simp only [List.length_set];omega)|(simp only [Int.toNat_natCast] at *;omega)|(simp at this ⊢;omega))⟩) (.cons (⟨by first|rfl|(simp;done)|omega|(simp;omega),(by simpa using hc22)⟩) (.cons (⟨by first|rfl|(simp;done)|omega|(simp;omega),(by have:=hc22;simp at this ⊢;omega)⟩) .nil)))))))))) .nil (At.kp [0,10,13] [90000] ?_)
        refine At.zbb (.cons (y:=bufL 3 1 zab ((s14.2.set (s14.1).toNat (s14.2.getD ((s14.1+1)).toNat default)).set ((s14.1+1)).toNat (s14.2.getD (s14.1).toNat default))) (BSim.seg (Seg.set (Seg.set (Seg.refl zab _) (s14.2.getD ((s14.1+1)).toNat default) rfl) (s14.2.getD (s14.1).toNat default) rfl)) .nil) ?_
        refine At.inb (At.zad ?_)
        obtain ⟨hc23,H⟩:=zaa H
        refine W.r1 env hc23 [0,10,13] [90000] ?_
        refine At.zaF (At.kp [0,10,13] [90000] ?_)
        exact At.conv (.cons .qb (.cons .qi (.cons .qi .nil))) (.cons .q .nil) (hK14 ((s14.1+1),((s14.2.set (s14.1).toNat (s14.2.getD ((s14.1+1)).toNat default)).set ((s14.1+1)).toNat (s14.2.getD (s14.1).toNat default))) H)
      · refine W.exit (At.xthen (At.xthen (At.xhere (At.zad (W.ret (At.rthen ?_))))))
        cases H
        exact At.retL env.ty [90000] rfl rfl rfl rfl (.cons (.refl _) .nil) (.refl _) hval hdom hent rfl rfl
  · refine W.skip (At.zad (W.seq ?_))
    obtain ⟨hc24,H⟩:=zaa H
    refine W.sr env [] [] [0,1,2,3,4,80] [90000] rfl rfl rfl (.cons hc24 .nil) .nil ?_
    refine W.co H rfl (fun hb25 H=>?_) (fun hb25 H=>?_)
    · refine W.rg env [0,2,4,14] [90000] ?_
      refine W.rg env [0,2,4,14,15] [90000] ?_
      refine W.seq (W.block (At.kp [0,2,4,14,15] [90000] ?_))
      refine W.loopGo H (fun (s26:Int×Int)=>[(0,.buf 90000 (p0).length),(2,.int .i64 (p2)),(4,.clo (.func p4_g) p4_a p4_b),(14,.int .i64 (s26.1)),(15,.int .i64 (s26.2))]) (fun (s26:Int×Int)=>[(90000,bufL 3 1 zab p0)]) (.cons .qb (.cons .qi (.cons .q (.cons .qi (.cons .qi .nil))))) (.cons .q .nil) (fun k26 s26 H K0 hK26=>?_)
      refine W.seq (W.rg env [0,2,4,14,15,85] [90000] ?_)
      refine W.co H rfl (fun hb27 H=>?_) (fun hb27 H=>?_)
      · refine W.skip (At.zad (W.block ?_))
        obtain ⟨hc28,H⟩:=zaa H
        obtain ⟨hc29,H⟩:=zaa H
        obtain ⟨hc30,H⟩:=zaa H
        refine W.sr env [] [] [0,2,4,14,15,16] [90000] rfl rfl rfl (.cons hc28 (.cons hc29 (.cons (by decide) (.cons hc30 .nil)))) .nil ?_
        refine W.seq ?_
        obtain ⟨hc31,H⟩:=zaa H
        obtain ⟨hc32,H⟩:=zaa H
        obtain ⟨y33,hy34,H⟩:=zac H
        refine W.region env [] [⟨.int .i64 (y33),[],0,[]⟩] rfl rfl (by kernel_rfl) (.cons (⟨by first|rfl|(simp;done)|omega|(simp;omega),hc31⟩) (.cons (⟨by first|rfl|(simp;done)|omega|(simp;omega),(by have:=hc31;first|omega|(simp only [List.length_set];omega)|(simp only [Int.toNat_natCast] at *;omega)|(simp at this ⊢;omega))⟩) (.cons (⟨by first|rfl|(simp;done)|omega|(simp;omega),hc32⟩) (.cons (⟨by first|rfl|(simp;done)|omega|(simp;omega),(by have:=hc32;first|omega|(simp only [List.length_set];omega)|(simp only [Int.toNat_natCast] at *;omega)|(simp at this ⊢;omega))⟩) .nil)))) (.free (p4_h (p0.getD (p2).toNat default) (p0.getD ((Int.fdiv (s26.1+s26.2) (2 ^ (1:Int).toNat))).toNat default) _ hy34) .nil) (At.kp [0,2,4,14,15,16,103] [90000] ?_)
        refine At.zad (W.co H rfl (fun hb35 H=>?_) (fun hb35 H=>?_))
        · obtain ⟨hc36,H⟩:=zaa H
          refine W.r1 env hc36 [0,2,4,14,15] [90000] ?_
          refine At.inb (At.zaF (At.kp [0,2,4,14,15] [90000] ?_))
          exact At.conv (.cons .qb (.cons .qi (.cons .q (.cons .qi (.cons .qi .nil))))) (.cons .q .nil) (hK26 (((Int.fdiv (s26.1+s26.2) (2 ^ (1:Int).toNat))+1),s26.2) H)
        · refine W.region env [] [] rfl rfl rfl .nil .nil (At.kp [0,2,4,14,15] [90000] ?_)
          refine At.inb (At.zaF (At.kp [0,2,4,14,15] [90000] ?_))
          exact At.conv (.cons .qb (.cons .qi (.cons .q (.cons .qi (.cons .qi .nil))))) (.cons .q .nil) (hK26 (s26.1,(Int.fdiv (s26.1+s26.2) (2 ^ (1:Int).toNat))) H)
      · refine W.exit (At.xthen (At.xthen (At.xhere (At.zad (W.seq (W.rg env [0,14,17] [90000] ?_))))))
        refine W.block (At.kp [0,14,17] [90000] ?_)
        refine W.loopGo H (fun (s37:Int×(List Int))=>[(0,.buf 90000 (s37.2).length),(14,.int .i64 (s26.1)),(17,.int .i64 (s37.1))]) (fun (s37:Int×(List Int))=>[(90000,bufL 3 1 zab s37.2)]) (.cons .qb (.cons .qi (.cons .qi .nil))) (.cons .q .nil) (fun k37 s37 H K0 hK37=>?_)
        refine W.seq (W.rg env [0,14,17,110] [90000] ?_)
        refine W.co H rfl (fun hb38 H=>?_) (fun hb38 H=>?_)
        · refine W.skip (At.zad (W.seq (W.block ?_)))
          obtain ⟨hc39,H⟩:=zaa H
          obtain ⟨hc40,H⟩:=zaa H
          obtain ⟨hc41,H⟩:=zaa H
          obtain ⟨hc42,H⟩:=zaa H
          obtain ⟨hc43,H⟩:=zaa H
          obtain ⟨hc44,H⟩:=zaa H
          refine W.region env [] [] rfl rfl (by first|rfl|kernel_rfl) (.cons hc39 (.cons hc40 (.cons (⟨by first|rfl|(simp;done)|omega|(simp;omega),hc41⟩) (.cons (⟨by first|rfl|(simp;done)|omega|(simp;omega),(by have:=hc41;first|omega|(simp only [List.length_set];omega)|(simp only [Int.toNat_natCast] at *;omega)|(simp at this ⊢;omega))⟩) (.cons (⟨by first|rfl|(simp;done)|omega|(simp;omega),hc42⟩) (.cons (⟨by first|rfl|(simp;done)|omega|(simp;omega),(by have:=hc42;first|omega|(simp only [List.length_set];omega)|(simp only [Int.toNat_natCast] at *;omega)|(simp at this ⊢;omega))⟩) (.cons (⟨by first|rfl|(simp;done)|omega|(simp;omega),hc43⟩) (.cons (⟨by first|rfl|(simp;done)|omega|(simp;omega),(by have:=hc43;first|omega|(simp only [List.length_set];omega)|(simp only [Int.toNat_natCast] at *;omega)|(simp at this ⊢;omega))⟩) (.cons (⟨by first|rfl|(simp;done)|omega|(simp;omega),(by simpa using hc44)⟩) (.cons (⟨by first|rfl|(simp;done)|omega|(simp;omega),(by have:=hc44;simp at this ⊢;omega)⟩) .nil)))))))))) .nil (At.kp [0,14,17] [90000] ?_)
          refine At.zbb (.cons (y:=bufL 3 1 zab ((s37.2.set (s37.1).toNat (s37.2.getD ((s37.1 - 1)).toNat default)).set ((s37.1 - 1)).toNat (s37.2.getD (s37.1).toNat default))) (BSim.seg (Seg.set (Seg.set (Seg.refl zab _) (s37.2.getD ((s37.1 - 1)).toNat default) rfl) (s37.2.getD (s37.1).toNat default) rfl)) .nil) ?_
          refine At.inb (At.zad ?_)
          obtain ⟨hc45,H⟩:=zaa H
          refine W.r1 env hc45 [0,14,17] [90000] ?_
          refine At.zaF (At.kp [0,14,17] [90000] ?_)
          exact At.conv (.cons .qb (.cons .qi (.cons .qi .nil))) (.cons .q .nil) (hK37 ((s37.1 - 1),((s37.2.set (s37.1).toNat (s37.2.getD ((s37.1 - 1)).toNat default)).set ((s37.1 - 1)).toNat (s37.2.getD (s37.1).toNat default))) H)
        · refine W.exit (At.xthen (At.xthen (At.xhere (At.zad (W.ret (At.rthen ?_))))))
          cases H
          exact At.retL env.ty [90000] rfl rfl rfl rfl (.cons (.refl _) .nil) (.refl _) hval hdom hent rfl rfl
    · refine W.skip (At.zad ?_)
      obtain ⟨hc46,H⟩:=zaa H
      obtain ⟨hc47,H⟩:=zaa H
      obtain ⟨hc48,H⟩:=zaa H
      refine W.sr env [] [] [0,1,2,3,4,18] [90000] rfl rfl rfl (.cons hc46 (.cons hc47 (.cons (by decide) (.cons hc48 .nil)))) .nil ?_
      obtain ⟨hc49,H⟩:=zaa H
      refine W.sr env [] [] [0,1,2,3,4,18,19] [90000] rfl rfl rfl (.cons hc49 .nil) .nil ?_
      refine W.rg env [0,1,2,3,4,18,19] [90000] ?_
      refine W.seq (W.rg env [0,1,2,3,4,18,19,140] [90000] ?_)
      refine W.zjO H (fun (s50:Int×Int)=>[(0,.buf 90000 (p0).length),(1,.int .i64 (p1)),(2,.int .i64 (p2)),(3,.int .i64 (p3)),(4,.clo (.func p4_g) p4_a p4_b),(18,.int .i64 ((Int.fdiv (p1+p3) (2 ^ (1:Int).toNat)))),(19,.int .i64 (((Int.fdiv (p1+p3) (2 ^ (1:Int).toNat))+p2))),(20,.int .i64 (s50.1)),(21,.int .i64 (s50.2))]) (fun (s50:Int×Int)=>[(90000,bufL 3 1 zab p0)]) (fun s50 H=>?_) (fun k50 H hK50=>?_)
      · obtain ⟨hc51,H⟩:=zaa H
        refine W.sr env [] [] [0,1,2,3,4,18,19,20,21,22] [90000] rfl rfl rfl (.cons hc51 .nil) .nil ?_
        refine W.seq (W.block (At.kp [0,1,2,3,4,18,19,20,21,22] [90000] ?_))
        refine W.loopGo H (fun (s52:Int×Int)=>[(0,.buf 90000 (p0).length),(1,.int .i64 (p1)),(2,.int .i64 (p2)),(3,.int .i64 (p3)),(4,.clo (.func p4_g) p4_a p4_b),(18,.int .i64 ((Int.fdiv (p1+p3) (2 ^ (1:Int).toNat)))),(19,.int .i64 (((Int.fdiv (p1+p3) (2 ^ (1:Int).toNat))+p2))),(20,.int .i64 (s52.1)),(21,.int .i64 (s52.2)),(22,.int .i64 ((((Int.fdiv (p1+p3) (2 ^ (1:Int).toNat))+p2) - 1)))]) (fun (s52:Int×Int)=>[(90000,bufL 3 1 zab p0)]) (.cons .qb (.cons .qi (.cons .qi (.cons .qi (.cons .q (.cons .qi (.cons .qi (.cons .qi (.cons .qi (.cons .qi .nil)))))))))) (.cons .q .nil) (fun k52 s52 H K0 hK52=>?_)
        refine W.seq (W.rg env [0,1,2,3,4,18,19,20,21,22,151] [90000] ?_)
        refine W.co H rfl (fun hb53 H=>?_) (fun hb53 H=>?_)
        · refine W.skip (At.zad (W.block ?_))
          obtain ⟨hc54,H⟩:=zaa H
          obtain ⟨hc55,H⟩:=zaa H
          obtain ⟨hc56,H⟩:=zaa H
          refine W.sr env [] [] [0,1,2,3,4,18,19,20,21,22,23] [90000] rfl rfl rfl (.cons hc54 (.cons hc55 (.cons (by decide) (.cons hc56 .nil)))) .nil ?_
          refine W.seq ?_
          obtain ⟨hc57,H⟩:=zaa H
          obtain ⟨hc58,H⟩:=zaa H
          obtain ⟨hc59,H⟩:=zaa H
          obtain ⟨y60,hy61,H⟩:=zac H
          refine W.region env [] [⟨.int .i64 (y60),[],0,[]⟩] rfl rfl (by kernel_rfl) (.cons hc57 (.cons (⟨by first|rfl|(simp;done)|omega|(simp;omega),hc58⟩) (.cons (⟨by first|rfl|(simp;done)|omega|(simp;omega),(by have:=hc58;first|omega|(simp only [List.length_set];omega)|(simp only [Int.toNat_natCast] at *;omega)|(simp at this ⊢;omega))⟩) (.cons (⟨by first|rfl|(simp;done)|omega|(simp;omega),hc59⟩) (.cons (⟨by first|rfl|(simp;done)|omega|(simp;omega),(by have:=hc59;first|omega|(simp only [List.length_set];omega)|(simp only [Int.toNat_natCast] at *;omega)|(simp at this ⊢;omega))⟩) .nil))))) (.free (p4_h (p0.getD (((((Int.fdiv (p1+p3) (2 ^ (1:Int).toNat))+p2) - 1) - (Int.fdiv (s52.1+s52.2) (2 ^ (1:Int).toNat)))).toNat default) (p0.getD ((Int.fdiv (s52.1+s52.2) (2 ^ (1:Int).toNat))).toNat default) _ hy61) .nil) (At.kp [0,1,2,3,4,18,19,20,21,22,23,171] [90000] ?_)
          refine At.zad (W.co H rfl (fun hb62 H=>?_) (fun hb62 H=>?_))
          · obtain ⟨hc63,H⟩:=zaa H
            refine W.r1 env hc63 [0,1,2,3,4,18,19,20,21,22] [90000] ?_
            refine At.inb (At.zaF (At.kp [0,1,2,3,4,18,19,20,21,22] [90000] ?_))
            exact At.conv (.cons .qb (.cons .qi (.cons .qi (.cons .qi (.cons .q (.cons .qi (.cons .qi (.cons .qi (.cons .qi (.cons .qi .nil)))))))))) (.cons .q .nil) (hK52 (((Int.fdiv (s52.1+s52.2) (2 ^ (1:Int).toNat))+1),s52.2) H)
          · refine W.region env [] [] rfl rfl rfl .nil .nil (At.kp [0,1,2,3,4,18,19,20,21,22] [90000] ?_)
            refine At.inb (At.zaF (At.kp [0,1,2,3,4,18,19,20,21,22] [90000] ?_))
            exact At.conv (.cons .qb (.cons .qi (.cons .qi (.cons .qi (.cons .q (.cons .qi (.cons .qi (.cons .qi (.cons .qi (.cons .qi .nil)))))))))) (.cons .q .nil) (hK52 (s52.1,(Int.fdiv (s52.1+s52.2) (2 ^ (1:Int).toNat))) H)
        · refine W.exit (At.xthen (At.xthen (At.xhere (At.zad ?_))))
          obtain ⟨hc64,H⟩:=zaa H
          refine W.sr env [] [] [0,1,2,3,4,18,20,24] [90000] rfl rfl rfl (.cons hc64 .nil) .nil ?_
          refine W.seq (W.sr env [] [] [0,1,2,3,4,18,20,24,185] [90000] rfl rfl rfl (.cons id (.cons id (.cons id .nil))) .nil ?_)
          refine W.zjO H (fun (s65:(List Int))=>[(0,.buf 90000 (s65).length),(1,.int .i64 (p1)),(3,.int .i64 (p3)),(4,.clo (.func p4_g) p4_a p4_b),(18,.int .i64 ((Int.fdiv (p1+p3) (2 ^ (1:Int).toNat)))),(20,.int .i64 (s52.1)),(24,.int .i64 ((((Int.fdiv (p1+p3) (2 ^ (1:Int).toNat))+p2) - s52.1)))]) (fun (s65:(List Int))=>[(90000,bufL 3 1 zab s65)]) (fun s65 H=>?_) (fun k65 H hK65=>?_)
          · refine W.seq (W.sr env [] [] [0,1,3,4,18,20,24,199] [90000] rfl rfl rfl (.cons id (.cons id (.cons id .nil))) .nil ?_)
            refine W.zjO H (fun (s66:(List Int))=>[(0,.buf 90000 (s66).length),(3,.int .i64 (p3)),(4,.clo (.func p4_g) p4_a p4_b),(18,.int .i64 ((Int.fdiv (p1+p3) (2 ^ (1:Int).toNat)))),(24,.int .i64 ((((Int.fdiv (p1+p3) (2 ^ (1:Int).toNat))+p2) - s52.1)))]) (fun (s66:(List Int))=>[(90000,bufL 3 1 zab s66)]) (fun s66 H=>?_) (fun k66 H hK66=>?_)
            · refine W.sr env [] [] [0,3,4,18,24,213] [90000] rfl rfl rfl (.cons id (.cons id (.cons id .nil))) .nil ?_
              refine W.co H rfl (fun hb67 H=>?_) (fun hb67 H=>?_)
              · obtain ⟨y68,hy69,H⟩:=zac H
                refine W.region env [] [⟨.tup [],[(90000,bufL 3 1 zab y68)],0,[90000]⟩] rfl rfl (by kernel_rfl) .nil (.free (CtrO.sim (CtrO.ren (ih s66 (Int.fdiv (p1+p3) (2 ^ (1:Int).toNat)) (((Int.fdiv (p1+p3) (2 ^ (1:Int).toNat))+p2) - s52.1) p3 p4 p4_g p4_a p4_b p4_h hy69) [(90000,90000)]) (.cons .qc (.cons (.refl _) (.cons (.refl _) (.cons (.refl _) (.cons (.refl _) .nil))))) (.cons (.refl _) .nil)) .nil) (At.kp [] [90000] ?_)
                refine At.zdN ?_
                cases H
                exact At.retL env.ty [90000] rfl rfl rfl rfl (.cons (.refl _) .nil) (.refl _) hval hdom hent rfl rfl
              · refine W.skip (At.zdN ?_)
                cases H
                exact At.retL env.ty [90000] rfl rfl rfl rfl (.cons (.refl _) .nil) (.refl _) hval hdom hent rfl rfl
            · refine W.co H rfl (fun hb70 H=>?_) (fun hb70 H=>?_)
              · obtain ⟨y71,hy72,H⟩:=zac H
                obtain ⟨hc73,H⟩:=zaa H
                refine W.region env [] [⟨.tup [],[(90000,bufL 3 1 zab y71)],0,[90000]⟩] rfl rfl (by kernel_rfl) .nil (.free (CtrO.sim (CtrO.ren (ih s65 p1 s52.1 (Int.fdiv (p1+p3) (2 ^ (1:Int).toNat)) p4 p4_g p4_a p4_b p4_h hy72) [(90000,90000)]) (.cons .qc (.cons (.refl _) (.cons (.refl _) (.cons (.refl _) (.cons (.refl _) .nil))))) (.cons (.refl _) .nil)) .nil) (At.kp [0,3,4,18,24] [90000] ?_)
                refine At.zaF (At.kp [0,3,4,18,24] [90000] ?_)
                exact At.conv (.cons .qb (.cons .qi (.cons .q (.cons .qi (.cons .qi .nil))))) (.cons .q .nil) (hK66 y71 H)
              · refine W.skip (At.zaF (At.kp [0,3,4,18,24] [90000] ?_))
                exact At.conv (.cons .qb (.cons .qi (.cons .q (.cons .qi (.cons .qi .nil))))) (.cons .q .nil) (hK66 s65 H)
          · refine W.co H rfl (fun hb74 H=>?_) (fun hb74 H=>?_)
            · obtain ⟨y75,hy76,H⟩:=zac H
              obtain ⟨hc77,H⟩:=zaa H
              refine W.region env [] [⟨.tup [],[(90000,bufL 3 1 zab y75)],0,[90000]⟩] rfl rfl (by kernel_rfl) .nil (.free (CtrO.sim (CtrO.ren (zes fuel p0 s52.1 p2 (((Int.fdiv (p1+p3) (2 ^ (1:Int).toNat))+p2) - s52.1) p4 p4_g p4_a p4_b p4_h hy76) [(90000,90000)]) (.cons .qc (.cons (.refl _) (.cons (.refl _) (.cons (.refl _) (.cons (.refl _) .nil))))) (.cons (.refl _) .nil)) .nil) (At.kp [0,1,3,4,18,20,24] [90000] ?_)
              refine At.zaF (At.kp [0,1,3,4,18,20,24] [90000] ?_)
              exact At.conv (.cons .qb (.cons .qi (.cons .qi (.cons .q (.cons .qi (.cons .qi (.cons .qi .nil))))))) (.cons .q .nil) (hK65 y75 H)
            · refine W.skip (At.zaF (At.kp [0,1,3,4,18,20,24] [90000] ?_))
              exact At.conv (.cons .qb (.cons .qi (.cons .qi (.cons .q (.cons .qi (.cons .qi (.cons .qi .nil))))))) (.cons .q .nil) (hK65 p0 H)
      · refine W.co H rfl (fun hb78 H=>?_) (fun hb78 H=>?_)
        · obtain ⟨hc79,H⟩:=zaa H
          refine W.sr env [] [] [0,1,2,3,4,18,19,20] [90000] rfl rfl rfl (.cons hc79 .nil) .nil ?_
          refine W.region env [] [] rfl rfl rfl .nil .nil (At.kp [0,1,2,3,4,18,19,20,21] [90000] ?_)
          refine At.zaF (At.kp [0,1,2,3,4,18,19,20,21] [90000] ?_)
          exact At.conv (.cons .qb (.cons .qi (.cons .qi (.cons .qi (.cons .q (.cons .qi (.cons .qi (.cons .qi (.cons .qi .nil))))))))) (.cons .q .nil) (hK50 ((((Int.fdiv (p1+p3) (2 ^ (1:Int).toNat))+p2) - p3),(Int.fdiv (p1+p3) (2 ^ (1:Int).toNat))) H)
        · refine W.rg env [0,1,2,3,4,18,19,20] [90000] ?_
          refine W.region env [] [] rfl rfl rfl .nil .nil (At.kp [0,1,2,3,4,18,19,20,21] [90000] ?_)
          refine At.zaF (At.kp [0,1,2,3,4,18,19,20,21] [90000] ?_)
          exact At.conv (.cons .qb (.cons .qi (.cons .qi (.cons .qi (.cons .q (.cons .qi (.cons .qi (.cons .qi (.cons .qi .nil))))))))) (.cons .q .nil) (hK50 (p1,p2) H)
theorem zer (fuel:Nat) (p0:(List Int)) (p1:Int) (p2:Int→Int→Option Int) (p2_g:Nat) (p2_a p2_b:List AV) (p2_h:∀ x0 x1 r,p2 x0 x1=some r→Ctr Tryz.prog p2_g (p2_a++([.int .i64 (x0),.int .i64 (x1)]++p2_b)) (.int .i64 (r))) {r:(List Int)} (H:zbw fuel p0 p1 p2=some r):CtrO Tryz.prog 199 [.buf 90000 (p0).length,.int .i64 (p1),.clo (.func p2_g) p2_a p2_b] [(90000,bufL 3 1 zab p0)] (.tup []) [(90000,bufL 3 1 zab r)]:=by
 unfold zbw at H
 refine CtrL.zb5 (N:=63) Tryz.func199 (by kernel_rfl) (c:=_) rfl Tryz.ntmps199 rfl rfl (fun w0 h0 ρb hval hdom hent=>?_)
 refine W.rg env [0,1,2,6] [90000] ?_
 refine W.rg env [0,1,2,6,7,8] [90000] ?_
 refine W.seq (W.block (At.kp [0,1,2,6,7,8] [90000] ?_))
 refine W.loopGo H (fun (s1:Int×Int×(List Int))=>[(0,.buf 90000 (s1.2.2).length),(1,.int .i64 (p1)),(2,.clo (.func p2_g) p2_a p2_b),(6,.int .i64 (20)),(7,.int .i64 (s1.1)),(8,.int .i64 (s1.2.1))]) (fun (s1:Int×Int×(List Int))=>[(90000,bufL 3 1 zab s1.2.2)]) (.cons .qb (.cons .qi (.cons .q (.cons .qi (.cons .qi (.cons .qi .nil)))))) (.cons .q .nil) (fun k1 s1 H K0 hK1=>?_)
 refine W.seq (W.rg env [0,1,2,6,7,8,13] [90000] ?_)
 refine W.co H rfl (fun hb2 H=>?_) (fun hb2 H=>?_)
 · refine W.skip (At.zad (W.block (W.seq ?_)))
   obtain ⟨y3,hy4,H⟩:=zac H
   obtain ⟨hc5,H⟩:=zaa H
   refine W.region env [] [⟨.tup [],[(90000,bufL 3 1 zab y3)],0,[90000]⟩] rfl rfl (by kernel_rfl) .nil (.free (CtrO.sim (CtrO.ren (zb2 fuel s1.2.2 s1.1 s1.2.1 p2 p2_g p2_a p2_b p2_h hy4) [(90000,90000)]) (.cons .qc (.cons (.refl _) (.cons (.refl _) (.cons (.refl _) .nil)))) (.cons (.refl _) .nil)) .nil) (At.kp [0,1,2,6,8] [90000] ?_)
   refine At.zad (W.rg env [0,1,2,6,7,8] [90000] ?_)
   obtain ⟨hc6,H⟩:=zaa H
   refine W.r1 env hc6 [0,1,2,6,7,8] [90000] ?_
   refine At.inb (At.zaF (At.kp [0,1,2,6,7,8] [90000] ?_))
   exact At.conv (.cons .qb (.cons .qi (.cons .q (.cons .qi (.cons .qi (.cons .qi .nil)))))) (.cons .q .nil) (hK1 (s1.2.1,(s1.2.1+20),y3) H)
 · refine W.exit (At.xthen (At.xthen (At.xhere (At.zad (W.seq ?_)))))
   obtain ⟨y7,hy8,H⟩:=zac H
   obtain ⟨hc9,H⟩:=zaa H
   refine W.region env [] [⟨.tup [],[(90000,bufL 3 1 zab y7)],0,[90000]⟩] rfl rfl (by kernel_rfl) .nil (.free (CtrO.sim (CtrO.ren (zb2 fuel s1.2.2 s1.1 p1 p2 p2_g p2_a p2_b p2_h hy8) [(90000,90000)]) (.cons .qc (.cons (.refl _) (.cons (.refl _) (.cons (.refl _) .nil)))) (.cons (.refl _) .nil)) .nil) (At.kp [0,1,2,6] [90000] ?_)
   refine At.zad (W.block (At.kp [0,1,2,6] [90000] ?_))
   refine W.loopGo H (fun (s10:Int×(List Int))=>[(0,.buf 90000 (s10.2).length),(1,.int .i64 (p1)),(2,.clo (.func p2_g) p2_a p2_b),(6,.int .i64 (s10.1))]) (fun (s10:Int×(List Int))=>[(90000,bufL 3 1 zab s10.2)]) (.cons .qb (.cons .qi (.cons .q (.cons .qi .nil)))) (.cons .q .nil) (fun k10 s10 H K0 hK10=>?_)
   refine W.seq (W.rg env [0,1,2,6,30] [90000] ?_)
   refine W.co H rfl (fun hb11 H=>?_) (fun hb11 H=>?_)
   · refine W.skip (At.zad (W.block ?_))
     obtain ⟨hc12,H⟩:=zaa H
     refine W.sr env [] [] [0,1,2,6,7,8] [90000] rfl rfl rfl (.cons hc12 .nil) .nil ?_
     refine W.seq (W.block (At.kp [0,1,2,6,7,8] [90000] ?_))
     refine W.loopGo H (fun (s13:Int×Int×(List Int))=>[(0,.buf 90000 (s13.2.2).length),(1,.int .i64 (p1)),(2,.clo (.func p2_g) p2_a p2_b),(6,.int .i64 (s10.1)),(7,.int .i64 (s13.1)),(8,.int .i64 (s13.2.1))]) (fun (s13:Int×Int×(List Int))=>[(90000,bufL 3 1 zab s13.2.2)]) (.cons .qb (.cons .qi (.cons .q (.cons .qi (.cons .qi (.cons .qi .nil)))))) (.cons .q .nil) (fun k13 s13 H K0 hK13=>?_)
     refine W.seq (W.rg env [0,1,2,6,7,8,35] [90000] ?_)
     refine W.co H rfl (fun hb14 H=>?_) (fun hb14 H=>?_)
     · refine W.skip (At.zad (W.block (W.seq ?_)))
       obtain ⟨hc15,H⟩:=zaa H
       obtain ⟨y16,hy17,H⟩:=zac H
       obtain ⟨hc18,H⟩:=zaa H
       refine W.region env [] [⟨.tup [],[(90000,bufL 3 1 zab y16)],0,[90000]⟩] rfl rfl (by kernel_rfl) (.cons hc15 .nil) (.free (CtrO.sim (CtrO.ren (zcv fuel fuel s13.2.2 s13.1 (s13.1+s10.1) s13.2.1 p2 p2_g p2_a p2_b p2_h hy17) [(90000,90000)]) (.cons .qc (.cons (.refl _) (.cons (.refl _) (.cons (.refl _) (.cons (.refl _) .nil))))) (.cons (.refl _) .nil)) .nil) (At.kp [0,1,2,6,8] [90000] ?_)
       refine At.zad (W.rg env [0,1,2,6,7,8] [90000] ?_)
       obtain ⟨hc19,H⟩:=zaa H
       obtain ⟨hc20,H⟩:=zaa H
       refine W.region env [] [] rfl rfl rfl (.cons hc19 (.cons hc20 .nil)) .nil (At.kp [0,1,2,6,7,8] [90000] ?_)
       refine At.inb (At.zaF (At.kp [0,1,2,6,7,8] [90000] ?_))
       exact At.conv (.cons .qb (.cons .qi (.cons .q (.cons .qi (.cons .qi (.cons .qi .nil)))))) (.cons .q .nil) (hK13 (s13.2.1,(s13.2.1+(2 * s10.1)),y16) H)
     · refine W.exit (At.xthen (At.xthen (At.xhere (At.zad (W.seq ?_)))))
       obtain ⟨hc21,H⟩:=zaa H
       refine W.sr env [] [] [0,1,2,6,7,9] [90000] rfl rfl rfl (.cons hc21 .nil) .nil ?_
       refine W.rg env [0,1,2,6,7,9,54] [90000] ?_
       refine W.zjO H (fun (s22:(List Int))=>[(0,.buf 90000 (s22).length),(1,.int .i64 (p1)),(2,.clo (.func p2_g) p2_a p2_b),(6,.int .i64 (s10.1))]) (fun (s22:(List Int))=>[(90000,bufL 3 1 zab s22)]) (fun s22 H=>?_) (fun k22 H hK22=>?_)
       · obtain ⟨hc23,H⟩:=zaa H
         refine W.r1 env hc23 [0,1,2,6] [90000] ?_
         refine At.inb (At.zaF (At.kp [0,1,2,6] [90000] ?_))
         exact At.conv (.cons .qb (.cons .qi (.cons .q (.cons .qi .nil)))) (.cons .q .nil) (hK10 ((s10.1 * 2),s22) H)
       · refine W.co H rfl (fun hb24 H=>?_) (fun hb24 H=>?_)
         · obtain ⟨y25,hy26,H⟩:=zac H
           obtain ⟨hc27,H⟩:=zaa H
           refine W.region env [] [⟨.tup [],[(90000,bufL 3 1 zab y25)],0,[90000]⟩] rfl rfl (by kernel_rfl) .nil (.free (CtrO.sim (CtrO.ren (zcv fuel fuel s13.2.2 s13.1 (s13.1+s10.1) p1 p2 p2_g p2_a p2_b p2_h hy26) [(90000,90000)]) (.cons .qc (.cons (.refl _) (.cons (.refl _) (.cons (.refl _) (.cons (.refl _) .nil))))) (.cons (.refl _) .nil)) .nil) (At.kp [0,1,2,6] [90000] ?_)
           refine At.zaF (At.kp [0,1,2,6] [90000] ?_)
           exact At.conv (.cons .qb (.cons .qi (.cons .q (.cons .qi .nil)))) (.cons .q .nil) (hK22 y25 H)
         · refine W.skip (At.zaF (At.kp [0,1,2,6] [90000] ?_))
           exact At.conv (.cons .qb (.cons .qi (.cons .q (.cons .qi .nil)))) (.cons .q .nil) (hK22 s13.2.2 H)
   · refine W.exit (At.xthen (At.xthen (At.xhere (At.zdN ?_))))
     cases H
     exact At.retL env.ty [90000] rfl rfl rfl rfl (.cons (.refl _) .nil) (.refl _) hval hdom hent rfl rfl
theorem zel (fuel:Nat) (p0:(List Int)) (p1:Int→Int→Option Int) (p1_g:Nat) (p1_a p1_b:List AV) (p1_h:∀ x0 x1 r,p1 x0 x1=some r→Ctr Tryz.prog p1_g (p1_a++([.int .i64 (x0),.int .i64 (x1)]++p1_b)) (.int .i64 (r))) {r:(List Int)} (H:zaD fuel p0 p1=some r):CtrO Tryz.prog 181 [.buf 90000 (p0).length,.clo (.func p1_g) p1_a p1_b] [(90000,bufL 3 1 zab p0)] (.tup []) [(90000,bufL 3 1 zab r)]:=by
 unfold zaD at H
 refine CtrL.zb5 (N:=9) Tryz.func181 (by kernel_rfl) (c:=_) rfl Tryz.ntmps181 rfl rfl (fun w0 h0 ρb hval hdom hent=>?_)
 obtain ⟨y1,hy2,H⟩:=zac H
 refine W.region env [] [⟨.tup [],[(90000,bufL 3 1 zab y1)],0,[90000]⟩] rfl rfl (by kernel_rfl) (.cons (by first|rfl|(simp;done)|omega|(simp;omega)) .nil) (.free (CtrO.sim (CtrO.ren (zer fuel p0 ((p0.length:Nat):Int) p1 p1_g p1_a p1_b p1_h hy2) [(90000,90000)]) (.cons .qc (.cons (.refl _) (.cons (.refl _) .nil))) (.cons (.refl _) .nil)) .nil) (At.kp [] [90000] ?_)
 refine At.zdN ?_
 cases H
 exact At.retL env.ty [90000] rfl rfl rfl rfl (.cons (.refl _) .nil) (.refl _) hval hdom hent rfl rfl
theorem zdT (p0:Int):Ctr Tryz.prog 136 [.int .i64 (p0)] (.bool ((cmp_isNaN_int p0))):=by
 obtain ⟨r,H⟩:∃ r,cmp_isNaN_int p0=r:=⟨_,rfl⟩
 rw [H]
 unfold cmp_isNaN_int at H
 refine Ctr.ob Tryz.func136 Tryz.ntmps136 (fun w0 h0 hval=>?_)
 refine W.rg env [0] [] ?_
 refine W.rg env [2] [] ?_
 refine W.ret ?_
 cases H
 exact At.rz env hval
theorem zfp (p0:Int) (p1:Int):Ctr Tryz.prog 62 [.int .i64 (p0),.int .i64 (p1)] (.int .i64 ((zbs p0 p1))):=by
 obtain ⟨r,H⟩:∃ r,zbs p0 p1=r:=⟨_,rfl⟩
 rw [H]
 unfold zbs at H
 refine Ctr.ob Tryz.func62 Tryz.ntmps62 (fun w0 h0 hval=>?_)
 refine W.rg env [0,1] [] ?_
 refine W.sr env [] [⟨.bool ((cmp_isNaN_int p0)),[],0,[]⟩] [0,1,5] [] rfl rfl rfl .nil (.free (zdT p0) .nil) ?_
 refine W.sr env [] [⟨.bool ((cmp_isNaN_int p1)),[],0,[]⟩] [0,1,5,6] [] rfl rfl rfl .nil (.free (zdT p1) .nil) ?_
 refine W.seq (W.rg env [0,1,6,11] [] ?_)
 refine W.co H rfl (fun hb1 H=>?_) (fun hb1 H=>?_)
 · refine W.seq (W.rg env [12] [] ?_)
   refine W.co H rfl (fun hb2 H=>?_) (fun hb2 H=>?_)
   · refine W.rg env [4] [] ?_
     refine W.ret (At.rthen ?_)
     refine At.rthen ?_
     cases H
     exact At.rz env hval
   · refine W.skip (At.zad (W.rg env [4] [] ?_))
     refine W.ret (At.rthen ?_)
     cases H
     exact At.rz env hval
 · refine W.skip (At.zad (W.seq (W.rg env [0,1,13] [] ?_)))
   refine W.co H rfl (fun hb3 H=>?_) (fun hb3 H=>?_)
   · refine W.rg env [4] [] ?_
     refine W.ret (At.rthen ?_)
     cases H
     exact At.rz env hval
   · refine W.skip (At.zad (W.seq (W.rg env [0,1,16] [] ?_)))
     refine W.co H rfl (fun hb4 H=>?_) (fun hb4 H=>?_)
     · refine W.rg env [4] [] ?_
       refine W.ret (At.rthen ?_)
       cases H
       exact At.rz env hval
     · refine W.skip (At.zad (W.seq (W.rg env [19] [] ?_)))
       refine W.co H rfl (fun hb5 H=>?_) (fun hb5 H=>?_)
       · refine W.rg env [4] [] ?_
         refine W.ret (At.rthen ?_)
         cases H
         exact At.rz env hval
       · refine W.skip (At.zad (W.rg env [4] [] ?_))
         refine W.ret ?_
         cases H
         exact At.rz env hval
theorem ziG (p0:Int) (p1:Int) (c0:Wear) {r:Int} (H:zbI p0 p1 c0=some r):Ctr Tryz.prog 182 [.int .i64 (p0),.int .i64 (p1),.rp (zal c0)] (.int .i64 (r)):=by
 unfold zbI at H
 refine Ctr.ob Tryz.func182 Tryz.ntmps182 (fun w0 h0 hval=>?_)
 refine W.rg env [0,1,2] [] ?_
 obtain ⟨hc1,H⟩:=zaa H
 obtain ⟨hc2,H⟩:=zaa H
 refine W.sr env [] [⟨.int .i64 ((zbs ((c0.Burns.getD (p0).toNat default).Night) ((c0.Burns.getD (p1).toNat default).Night))),[],0,[]⟩] [5] [] rfl rfl (by kernel_rfl) (.cons hc1 (.cons hc2 .nil)) (.free (zfp ((c0.Burns.getD (p0).toNat default).Night) ((c0.Burns.getD (p1).toNat default).Night)) .nil) ?_
 refine W.ret ?_
 cases H
 exact At.rz env hval
theorem zjS (fuel:Nat) (p0:Wear) (p1:Int) {r:(Mp (List Int))} (H:zeh fuel p0 p1=some r):Ctr Tryz.prog 147 [.agg (zal p0),.int .i64 (p1)] (romL (.slice none 0 0) (fun (x:(List Int))=>roL 1 zab x) r):=by
 unfold zeh at H
 refine Ctr.ob Tryz.func147 Tryz.ntmps147 (fun w0 h0 hval=>?_)
 refine W.rg env [2,3] [2,3] ?_
 refine W.seq (W.region env [12] [] rfl rfl rfl .nil .nil (At.kp [2,3,5] [2,3,12] ?_))
 refine At.zbb (.cons (.refl _) (.cons (.refl _) (.cons (y:=zmF 3 1 zab (Mp.empty:Mp (List Int)) none) (BSim.zo6) .nil))) ?_
 refine At.zad (W.seq (W.rg env [2,3,5,14,15,16] [2,3,12] ?_))
 refine W.block (At.kp [2,3,5,14,15,16] [2,3,12] ?_)
 refine W.len (t:=14) rfl (fun hn1=>?_)
 refine W.zaq H (fun i1 (s1:(Mp (List Int)))=>[(2,.lp 2 0),(3,.lp 3 0),(5,.mp 12),(14,roL 7 zaA p0.Burns),(15,.int .i64 (((p0.Burns.length:Nat):Int))),(16,.int .i64 ((i1:Int)))]) (fun i1 (s1:(Mp (List Int)))=>[(2,.cells (zal p0)),(3,.cells [.int .i64 (p1)]),(12,zmF 3 1 zab s1 none)]) (.cons .q (.cons .q (.cons .q (.cons .q (.cons .qi (.cons .qi .nil)))))) (.cons .q (.cons .q (.cons .q .nil))) (fun k1 i1 s1 hle1 H1 H2 K0 hK1=>?_)
 refine W.rg env [2,3,5,14,15,16,17] [2,3,12] ?_
 refine W.seq (W.cond rfl (fun hb2=>?_) (fun hb2=>?_))
 · have hi1:i1<p0.Burns.length:=ltD hb2
   have H:=H1 hi1
   refine W.skip (At.zad (W.seq (W.block (W.sr env [] [] [2,3,5,6,7,14,15,16] [2,3,7,12] rfl rfl rfl (.cons (inD hi1) .nil) .nil ?_))))
   refine W.rg env [2,3,5,6,7,8,14,15,16] [2,3,7,12] ?_
   refine W.seq ?_
   obtain ⟨y3,hy4,H⟩:=zac H
   refine W.region env [] [⟨.int .i64 (y3),[],0,[]⟩] rfl rfl rfl .nil (.free (zc7 p0 ((p0.Burns.getD i1 default).Lamp) ((p0.Burns.getD i1 default).Night) p1 hy4) .nil) (At.kp [2,3,5,6,7,8,9,14,15,16] [2,3,7,12] ?_)
   refine At.zad (W.seq ?_)
   obtain ⟨hc5,H⟩:=zaa H
   obtain ⟨y6,hy7,H⟩:=zac H
   refine W.region env [] [⟨.bool ((zap ((p0.Burns.getD i1 default).Known) ((p0.Burns.getD i1 default).Until) p1)),[],0,[]⟩,⟨.bool (y6),[],0,[]⟩] rfl rfl rfl (.cons id (.cons id (.cons id (.cons id (.cons id (.cons id (.cons id (.cons (fun _=>(incD hi1 hn1)) (.cons id (.cons hc5 (.cons id (.cons id (.cons id (.cons id (.cons id (.cons id .nil)))))))))))))))) (.on (fun hW=>zc8 ((p0.Burns.getD i1 default).Known) ((p0.Burns.getD i1 default).Until) p1) (.on (fun hW=>Ctr.sim (.cons (Sim.seg (Seg.drop zaA p0.Burns ((((i1:Int)+1)).toNat))) (.cons (.refl _) .nil)) (zeQ (p0.Burns.drop (((i1:Int)+1)).toNat) (fun x0=>some (zbi x0 (p0.Burns.getD i1 default) p1)) 179 [] ([.rp [.int .i64 ((p0.Burns.getD i1 default).Source),.int .i64 ((p0.Burns.getD i1 default).Lamp),.int .i64 ((p0.Burns.getD i1 default).Night),.int .i64 ((p0.Burns.getD i1 default).Minutes.Lo),.int .i64 ((p0.Burns.getD i1 default).Minutes.Hi),.int .i64 ((p0.Burns.getD i1 default).Known),.int .i64 ((p0.Burns.getD i1 default).Until)],.rp [.int .i64 (p1)]]) (fun x0 r h=>by cases h;exact ziH x0 (p0.Burns.getD i1 default) p1) (zbJ hy7 hW))) .nil)) (At.kp [2,3,5,6,9,14,15,16,48] [2,3,12] ?_)
   refine At.zad (W.co H rfl (fun hb8 H=>?_) (fun hb8 H=>?_))
   · refine At.zo4 12 3053 y3 rfl rfl ?_
     obtain ⟨hc9,H⟩:=zaa H
     refine W.region env [] [] rfl rfl rfl (.cons (⟨rfl,rfl⟩) (.cons (rmI hc9) (.cons rfl .nil))) .nil (At.kp [2,3,5,14,15,16] [2,3,12,3053] ?_)
     refine At.zbb (.cons (.refl _) (.cons (.refl _) (.cons (.refl _) (.cons (y:=bufL 3 1 zab (((s1.get y3).getD [])++([(i1:Int)]:List Int))) (BSim.seg (Seg.push (Seg.refl zab _) (Seg.lit (f:=zab) (sz:=1) ([(i1:Int)]:List Int) rfl rfl (fun _=>rfl)))) .nil)))) ?_
     refine At.zqd 12 3053 y3 rfl rfl (by first|rfl|(simp;done)|omega|(simp;omega)) ?_
     refine At.kp [2,3,5,14,15,16] [2,3,12] ?_
     refine At.inb (At.zad (W.region env [] [] rfl rfl rfl (.cons (incD hi1 hn1) .nil) .nil (At.kp [2,3,5,14,15,16] [2,3,12] ?_)))
     refine At.zaF (At.kp [2,3,5,14,15,16] [2,3,12] ?_)
     exact At.conv (.cons .q (.cons .q (.cons .q (.cons .q (.cons .qi (.cons .qi .nil)))))) (.cons .q (.cons .q (.cons .q .nil))) (hK1 hi1 (s1.set y3 (((s1.get y3).getD [])++([(i1:Int)]:List Int))) H)
   · refine W.skip (At.inb (At.zad (W.region env [] [] rfl rfl rfl (.cons (incD hi1 hn1) .nil) .nil (At.kp [2,3,5,14,15,16] [2,3,12] ?_))))
     refine At.zaF (At.kp [2,3,5,14,15,16] [2,3,12] ?_)
     exact At.conv (.cons .q (.cons .q (.cons .q (.cons .q (.cons .qi (.cons .qi .nil)))))) (.cons .q (.cons .q (.cons .q .nil))) (hK1 hi1 s1 H)
 · have H:=H2 (geD hb2)
   refine W.exit (At.xthen (At.xthen (At.xhere (At.zad (W.seq (W.seq (At.zo5 12 (K:=[2]) (ts:=[2,5]) rfl rfl (fun _=>rfl) rfl (fun _ h=>h) (fun hd10=>?_))))))))
   refine W.region env [] [] rfl rfl rfl .nil .nil (At.kp [2,5,59] [2,12,59] ?_)
   refine At.zad (W.block (At.zmH 2 (K:=[12,59]) (ts:=[2,5,59]) rfl rfl rfl rfl rfl (fun _ h=>h) ?_))
   obtain ⟨hok11,H⟩:=zaa H
   obtain ⟨y11,hy11,H⟩:=zac H
   refine At.kp [2,5,59] [59,12] ?_
   refine At.zkO 59 rfl (fun left hleft=>?_)
   refine At.kp [2,5,59] [59,12] ?_
   have hsp11:=Mp.zmz hy11 hok11 hleft
   refine W.zkP (S:=List Int) 59 (fun k=>.raw (hd10 k)) (fun left (s11:List Int)=>left=s11∧left.Nodup∧∀ k,k∈left→(s1.get k).isSome=true) (fun _=>[(2,.rp (zal p0)),(5,romR hd10 s1),(59,.lp 59 0)]) (fun s11=>[(12,zg6 3 1 zab hd10 (s1.mix y11 s11) none)]) (s0:=left) ⟨rfl,hleft.1,fun k hk=>(hleft.2.2 k).2 hk⟩ (.cons (.refl _) (.cons (.refl _) (.cons (.refl _) .nil))) (.cons (.refl _) (.cons (BSim.zoq hleft.2.2 hsp11.2.2.1) .nil)) (fun left11 s11 HJ11 K hK11=>?_)
   obtain ⟨hs11,hnd11,hkd11⟩:=HJ11
   subst hs11
   refine W.seq (W.next rfl rfl rfl rfl rfl rfl rfl rfl rfl rfl rfl (fun hz=>?_) (fun q11 left2 hp11=>?_))
   · subst hz
     refine At.kp [2,5,61] [12] ?_
     refine At.zbb (.cons BSim.zqS .nil) ?_
     refine At.zms 12 5 (m:=s1) (K:=[]) (ts:=[2,61]) rfl rfl rfl hsp11.1 (Mp.dom_of hsp11.2.2.1 (fun k l h=>by obtain ⟨r,_,hr⟩:=hsp11.2.2.2 k l h;exact ⟨r,hr⟩)) rfl rfl (fun _ h=>h) ?_
     refine At.zad (W.seq (W.cond rfl (fun hb15=>by cases hb15) (fun hb15=>?_)))
     refine W.exit (At.xthen (At.xthen (At.xhere (At.zad (W.rg env [4] [] ?_)))))
     refine W.ret ?_
     cases H
     exact At.rz env hval
   · obtain ⟨l11,hl11⟩:=Option.isSome_iff_exists.1 (hkd11 q11 (hp11.mem_iff.2 (List.mem_cons_self ..)))
     obtain ⟨rr11,H,hyk11⟩:=hsp11.2.2.2 q11 l11 hl11
     refine At.zad (W.seq (W.cond rfl (fun hb12=>?_) (fun hb12=>by cases hb12)))
     refine W.skip (At.zad (W.block (W.rg env [2,5,11,59] [12,59] ?_)))
     refine At.zop 12 4059 11 q11 rfl rfl rfl ((Mp.zoH (hp11.mem_iff.2 (List.mem_cons_self ..))).trans hl11) ?_
     obtain ⟨y13,hy14,H⟩:=zac H
     refine W.region env [] [⟨.tup [],[(4059,bufL 3 1 zab y13)],0,[4059]⟩] rfl rfl (by kernel_rfl) .nil (.free (CtrO.sim (CtrO.ren (zel fuel l11 (fun x0 x1=>zbI x0 x1 p0) 182 [] ([.rp (zal p0)]) (fun x0 x1 r h=>ziG x0 x1 p0 h) hy14) [(90000,4059)]) (.cons .qc (.cons (Sim.fnClo rfl) .nil)) (.cons (.refl _) .nil)) .nil) (At.kp [2,5,59] [12,59,4059] ?_)
     refine At.inb ?_
     obtain ⟨hlen11,H⟩:=zaa H
     cases H
     refine At.zaF (At.kp [2,5,59] [59,12,4059] ?_)
     refine At.zpS 12 4059 q11 (y:=y11) rfl rfl hp11 hnd11 hl11 (by first|rfl|(simp;done)|omega|(simp;omega)) hyk11 hlen11 ?_
     refine At.kp [2,5,59] [59,12] ?_
     exact At.conv (.cons (.refl _) (.cons (.refl _) (.cons (.refl _) .nil))) (.cons (.refl _) (.cons (.refl _) .nil)) (hK11 _ left2 left2 hp11 ⟨rfl,(List.nodup_cons.1 (hp11.nodup_iff.1 hnd11)).2,fun k hk=>hkd11 k (hp11.mem_iff.2 (List.mem_cons_of_mem _ hk))⟩)
theorem zmg (p0:(List mantle_sight)) {r:(List mantle_sight)} (H:zbO p0=some r):Ctr Tryz.prog 175 [roL 2 zaH p0] (roL 2 zaH r):=by
 unfold zbO at H
 refine Ctr.ob Tryz.func175 Tryz.ntmps175 (fun w0 h0 hval=>?_)
 refine W.rg env [0] [] ?_
 refine W.seq (W.rg env [0,4] [] ?_)
 refine W.zhL rfl (fun hz=>?_) ?_
 · obtain rfl:p0=[]:=List.length_eq_zero_iff.1 hz
   obtain ⟨hc1,H⟩:=zaa H
   refine W.rg env [2] [] ?_
   refine W.ret (At.rthen ?_)
   cases H
   exact At.ret env.ty rfl rfl nofun (Sim.nil _ _) hval
 · refine W.skip (At.zad (W.seq ?_))
   obtain ⟨hc1,H⟩:=zaa H
   refine W.region env [5] [] rfl rfl rfl (.cons (rmI hc1) .nil) .nil (At.kp [2] [5] ?_)
   refine At.zbb (.cons (y:=bufL 189 2 zaH (([]:List mantle_sight)++p0)) (BSim.seg (Seg.push (Seg.lit (f:=zaH) (sz:=2) ([]:List mantle_sight) rfl rfl (fun _=>rfl)) (Seg.refl zaH p0))) .nil) ?_
   refine At.zad (W.ret ?_)
   cases H
   exact At.ret env.ty rfl rfl (fun q hq=>by cases hq;exact (by first|rfl|(simp;done)|omega|(simp;omega))) (.refl _) hval
theorem zgi (p0:(List mantle_sight)) {r:(List mantle_sight)} (H:zbO p0=some r):CtrO Tryz.prog 175 [roL 2 zaH p0] [] (.buf 900 r.length) [(900,bufL 189 2 zaH r)]:=by
 unfold zbO at H
 refine CtrO.zb5 (N:=8) Tryz.func175 (by kernel_rfl) (c:=_) rfl Tryz.ntmps175 rfl (fun w0 h0 ρb hval hdom=>?_)
 refine W.rg env [0] [] ?_
 refine W.seq (W.rg env [0,4] [] ?_)
 refine W.zhL rfl (fun hz=>?_) ?_
 · obtain rfl:p0=[]:=List.length_eq_zero_iff.1 hz
   obtain ⟨hc1,H⟩:=zaa H
   refine W.rg env [2] [] ?_
   refine W.ret (At.rthen ?_)
   cases H
   refine At.zfh 2 800 189 2 (e:=fun i=>zaH (([]:List mantle_sight).getD i default)) rfl rfl ?_
   exact At.retK env.ty [800] 100 rfl rfl rfl rfl (.cons (.refl _) .nil) (.of_eq (by refine zhT ?_;first|(simp [zbA];done)|omega|(simp [zbA];omega)|rfl)) hval hdom rfl
 · refine W.skip (At.zad (W.seq ?_))
   obtain ⟨hc1,H⟩:=zaa H
   refine W.region env [5] [] rfl rfl rfl (.cons (rmI hc1) .nil) .nil (At.kp [2] [5] ?_)
   refine At.zbb (.cons (y:=bufL 189 2 zaH (([]:List mantle_sight)++p0)) (BSim.seg (Seg.push (Seg.lit (f:=zaH) (sz:=2) ([]:List mantle_sight) rfl rfl (fun _=>rfl)) (Seg.refl zaH p0))) .nil) ?_
   refine At.zad (W.ret ?_)
   cases H
   exact At.retK env.ty [5] 895 rfl rfl rfl rfl (.cons (.refl _) .nil) (.of_eq (by refine zhT ?_;first|(simp [zbA];done)|omega|(simp [zbA];omega)|rfl)) hval hdom rfl
theorem zdB (p0:mantle_coat) (p1:mantle_sight) {r:mantle_coat} (H:zbF p0 p1=some r):Ctr Tryz.prog 133 [.agg (zay p0),.agg [.int .i64 (p1.night),.bool (p1.bad)]] (.agg (zay r)):=by
 unfold zbF at H
 refine Ctr.ob Tryz.func133 Tryz.ntmps133 (fun w0 h0 hval=>?_)
 refine W.rg env [2,3,4] [2,3,4] ?_
 refine W.seq ?_
 obtain ⟨y1,hy2,H⟩:=zac H
 obtain ⟨hc3,H⟩:=zaa H
 refine W.region env [] [⟨.buf 900 y1.length,[(900,bufL 189 2 zaH y1)],8000,[]⟩] rfl rfl (by kernel_rfl) (.cons (rmI hc3) .nil) (.free ((Ctr.ofO (zgi p0.sights hy2))) .nil) (At.kp [2,4] [2,4,8900] ?_)
 refine At.zbb (.cons (.refl _) (.cons (.refl _) (.cons (y:=bufL 189 2 zaH (y1++([p1]:List mantle_sight))) (BSim.seg (Seg.push (Seg.refl zaH _) (Seg.lit (f:=zaH) (sz:=2) ([p1]:List mantle_sight) rfl rfl (fun _=>rfl)))) .nil))) ?_
 refine At.zad (W.rg env [4] [4,8900] ?_)
 refine W.ret ?_
 cases H
 exact At.ret env.ty rfl rfl (fun q hq=>by cases hq;exact (by first|rfl|(simp;done)|omega|(simp;omega))) (.refl _) hval
theorem zgq (p0:mantle_closet):Ctr Tryz.prog 131 [.agg [roL 3 zav p0.w.Batches,roL 6 zao p0.w.Mantles,roL 7 zaA p0.w.Burns,roL 6 zaj p0.w.Looks,.int .i64 (p0.known),romL zz6 zah p0.coats,.one]] (.clo (.func 174) [] [.rp [roL 3 zav p0.w.Batches,roL 6 zao p0.w.Mantles,roL 7 zaA p0.w.Burns,roL 6 zaj p0.w.Looks,.int .i64 (p0.known),romL zz6 zah p0.coats,.one]]):=by
 refine Ctr.ob Tryz.func131 Tryz.ntmps131 (fun w0 h0 hval=>?_)
 refine W.rg env [1] [1] ?_
 refine W.rg env [2] [1] ?_
 exact W.ret (At.ret env.ty rfl rfl nofun (.refl _) hval)
theorem zfM (c0:mantle_closet) {r:List (Int×mantle_coat)} (H:zbL c0=some r):Iter Tryz.prog 174 [.rp [roL 3 zav c0.w.Batches,roL 6 zao c0.w.Mantles,roL 7 zaA c0.w.Burns,roL 6 zaj c0.w.Looks,.int .i64 (c0.known),romL zz6 zah c0.coats,.one]] (r.map (fun (x:Int×mantle_coat)=>[.int .i64 (x.1),.agg (zay x.2)])):=by
 unfold zbL at H
 have hYl:=Yl.start r
 skip
 refine Iter.zp2 (N:=20) Tryz.func174 (by kernel_rfl) (c:=_) rfl Tryz.ntmps174 rfl (fun w0 h0 lp J hJ hval hY=>?_)
 refine W.rg env [0,1,7,8] [] ?_
 refine W.block (At.kp [0,1,7,8] [] ?_)
 obtain ⟨hn1,H⟩:=zaa H
 refine W.zpX H hYl (fun i1 (s1:Unit)=>[(0,.fn (.yield lp) [] []),(1,.pin h0 (.rp [roL 3 zav c0.w.Batches,roL 6 zao c0.w.Mantles,roL 7 zaA c0.w.Burns,roL 6 zaj c0.w.Looks,.int .i64 (c0.known),romL zz6 zah c0.coats,.one])),(7,.int .i64 (((c0.w.Mantles.length:Nat):Int))),(8,.int .i64 ((i1:Int)))]) (fun i1 (s1:Unit)=>[]) (.cons .q (.cons .q (.cons .qi (.cons .qi .nil)))) .nil (fun k1 i1 s1 g r hle1 hYl H1 H2 K0 hK1=>?_)
 refine W.rg env [0,1,7,8,9] [] ?_
 refine W.seq (W.cond rfl (fun hb2=>?_) (fun hb2=>?_))
 · have hi1:i1<c0.w.Mantles.length:=ltD hb2
   have H:=H1 hi1
   refine W.skip (At.zad (W.seq (W.block (W.rg env [0,1,3,7,8] [] ?_))))
   refine W.seq (W.zpW env hY [] 6 [] [] rfl rfl rfl rfl rfl rfl rfl (.cons (.gr rfl) (.cons .pin .nil)) (fun b=>rfl) rfl (.cons rfl .nil) .nil .nil (fun b=>.nil) (fun b=>.nil) (Yl.item (fun (x:Int×mantle_coat)=>[.int .i64 (x.1),.agg (zay x.2)]) H hYl rfl) (fun b g1 hg2=>?_))
   refine At.kp [0,1,7,8,18] [] ?_
   refine At.zad ?_
   cases b
   · obtain rfl:g1=0:=hg2
     refine W.cond rfl (fun hb=>?_) (fun hb=>?_)
     · refine W.ret (At.rinb ?_)
       refine At.rthen ?_
       refine At.rthen ?_
       refine At.rinb ?_
       exact At.iret rfl (.inl rfl) hval
     · exact absurd hb (by simp)
   · refine W.cond rfl (fun hb=>?_) (fun hb=>?_)
     · exact absurd hb (by simp)
     · obtain ⟨r,H,hYl⟩:=Yl.next H hYl (fun h=>by cases h) (fun _=>hg2)
       refine W.skip (At.inb (At.zad (W.region env [] [] rfl rfl rfl (.cons (incD hi1 hn1) .nil) .nil (At.kp [0,1,7,8] [] ?_))))
       refine At.zaF (At.kp [0,1,7,8] [] ?_)
       exact At.conv (.cons .q (.cons .q (.cons .qi (.cons .qi .nil)))) .nil (hK1 hi1 () _ _ hYl H)
 · have H:=H2 (geD hb2)
   refine W.exit (At.xthen (At.xthen (At.xhere (At.zoZ ?_))))
   exact At.iret rfl (.inr (Yl.fin (fun (x:Int×mantle_coat)=>[.int .i64 (x.1),.agg (zay x.2)]) H hYl)) hval
theorem zhl (p0:mantle_coat) {r:(Int×Int)} (H:zcs p0=some r):Ctr Tryz.prog 176 [.agg (zay p0)] (.tup [.int .i64 (r.1),.int .i64 (r.2)]):=by
 unfold zcs at H
 refine Ctr.ob Tryz.func176 Tryz.ntmps176 (fun w0 h0 hval=>?_)
 refine W.rg env [1] [1] ?_
 refine W.rg env [1,2,3] [1] ?_
 refine W.seq (W.rg env [2,3,7,8,9] [] ?_)
 refine W.block (At.kp [2,3,7,8,9] [] ?_)
 refine W.len (t:=7) rfl (fun hn1=>?_)
 refine W.zaq H (fun i1 (s1:Int×Int)=>[(2,.int .i64 (s1.1)),(3,.int .i64 (s1.2)),(7,roL 2 zaH p0.sights),(8,.int .i64 (((p0.sights.length:Nat):Int))),(9,.int .i64 ((i1:Int)))]) (fun i1 (s1:Int×Int)=>[]) (.cons .qi (.cons .qi (.cons .q (.cons .qi (.cons .qi .nil))))) .nil (fun k1 i1 s1 hle1 H1 H2 K0 hK1=>?_)
 refine W.rg env [2,3,7,8,9,10] [] ?_
 refine W.seq (W.cond rfl (fun hb2=>?_) (fun hb2=>?_))
 · have hi1:i1<p0.sights.length:=ltD hb2
   have H:=H1 hi1
   refine W.skip (At.zad (W.seq (W.block (W.sr env [] [] [2,3,5,7,8,9] [5] rfl rfl rfl (.cons (inD hi1) .nil) .nil ?_))))
   refine W.block (W.rg env [2,3,5,7,8,9,13] [5] ?_)
   refine W.co H rfl (fun hb3 H=>?_) (fun hb3 H=>?_)
   · refine W.region env [] [] rfl rfl rfl .nil .nil (At.kp [2,3,7,8,9] [] ?_)
     refine At.inb (At.inb (At.zad (W.region env [] [] rfl rfl rfl (.cons (incD hi1 hn1) .nil) .nil (At.kp [2,3,7,8,9] [] ?_))))
     refine At.zaF (At.kp [2,3,7,8,9] [] ?_)
     exact At.conv (.cons .qi (.cons .qi (.cons .q (.cons .qi (.cons .qi .nil))))) .nil (hK1 hi1 ((max s1.1 ((p0.sights.getD i1 default).night)),s1.2) H)
   · refine W.sr env [] [] [2,3,5,7,8,9,21] [5] rfl rfl rfl (.cons id (.cons id (.cons id (.cons (fun h=>by rw [h];rfl) .nil)))) .nil ?_
     refine W.co H rfl (fun hb4 H=>?_) (fun hb4 H=>?_)
     · refine W.region env [] [] rfl rfl rfl .nil .nil (At.kp [2,3,7,8,9] [] ?_)
       refine At.inb (At.inb (At.zad (W.region env [] [] rfl rfl rfl (.cons (incD hi1 hn1) .nil) .nil (At.kp [2,3,7,8,9] [] ?_))))
       refine At.zaF (At.kp [2,3,7,8,9] [] ?_)
       exact At.conv (.cons .qi (.cons .qi (.cons .q (.cons .qi (.cons .qi .nil))))) .nil (hK1 hi1 (s1.1,(p0.sights.getD i1 default).night) H)
     · refine W.skip (At.inb (At.inb (At.zad (W.region env [] [] rfl rfl rfl (.cons (incD hi1 hn1) .nil) .nil (At.kp [2,3,7,8,9] [] ?_)))))
       refine At.zaF (At.kp [2,3,7,8,9] [] ?_)
       exact At.conv (.cons .qi (.cons .qi (.cons .q (.cons .qi (.cons .qi .nil))))) .nil (hK1 hi1 (s1.1,s1.2) H)
 · have H:=H2 (geD hb2)
   refine W.exit (At.xthen (At.xthen (At.xhere (At.zad (W.rg env [2,3] [] ?_)))))
   refine W.ret ?_
   cases H
   exact At.rz env hval
theorem zcE (p0:mantle_coat) (p1:Int) (p2:Int) {r:Range} (H:zbd p0 p1 p2=some r):Ctr Tryz.prog 100 [.agg (zay p0),.int .i64 (p1),.int .i64 (p2)] (.agg [.int .i64 (r.Lo),.int .i64 (r.Hi)]):=by
 unfold zbd at H
 refine Ctr.ob Tryz.func100 Tryz.ntmps100 (fun w0 h0 hval=>?_)
 refine W.rg env [1,2,3,6] [3,6] ?_
 refine W.rg env [1,2,3,6,7] [3,6,7] ?_
 refine W.seq (W.rg env [1,2,3,6,7,12,13,14] [3,6,7] ?_)
 refine W.block (At.kp [1,2,3,6,7,12,13,14] [3,6,7] ?_)
 refine W.len (t:=12) rfl (fun hn1=>?_)
 refine W.zaq H (fun i1 (s1:Range)=>[(1,.int .i64 (p1)),(2,.int .i64 (p2)),(3,.lp 3 0),(6,.lp 6 0),(7,.lp 7 0),(12,roL 1 zab p0.burns),(13,.int .i64 (((p0.burns.length:Nat):Int))),(14,.int .i64 ((i1:Int)))]) (fun i1 (s1:Range)=>[(3,.cells (zay p0)),(6,.cells [.int .i64 (0),.int .i64 (0)]),(7,.cells [.int .i64 (s1.Lo),.int .i64 (s1.Hi)])]) (.cons .qi (.cons .qi (.cons .q (.cons .q (.cons .q (.cons .q (.cons .qi (.cons .qi .nil)))))))) (.cons .q (.cons .q (.cons .q .nil))) (fun k1 i1 s1 hle1 H1 H2 K0 hK1=>?_)
 refine W.rg env [1,2,3,6,7,12,13,14,15] [3,6,7] ?_
 refine W.seq (W.cond rfl (fun hb2=>?_) (fun hb2=>?_))
 · have hi1:i1<p0.burns.length:=ltD hb2
   have H:=H1 hi1
   refine W.skip (At.zad (W.seq (W.block (W.sr env [] [] [1,2,3,6,7,9,12,13,14] [3,6,7] rfl rfl rfl (.cons (inD hi1) .nil) .nil ?_))))
   obtain ⟨hc3,H⟩:=zaa H
   refine W.sr env [] [] [1,2,3,6,7,10,12,13,14] [3,6,7,10] rfl rfl rfl (.cons hc3 .nil) .nil ?_
   refine W.sr env [] [] [1,2,3,6,7,10,12,13,14,33] [3,6,7,10] rfl rfl rfl (.cons id (.cons id (.cons id (.cons id .nil)))) .nil ?_
   refine W.co H rfl (fun hb4 H=>?_) (fun hb4 H=>?_)
   · obtain ⟨hc5,H⟩:=zaa H
     refine W.sr env [] [] [1,2,3,6,7,10,12,13,14] [3,6,7,10] rfl rfl rfl (.cons hc5 .nil) .nil ?_
     obtain ⟨hc6,H⟩:=zaa H
     refine W.r1 env hc6 [1,2,3,6,7,12,13,14] [3,6,7] ?_
     refine At.inb (At.zad (W.region env [] [] rfl rfl rfl (.cons (incD hi1 hn1) .nil) .nil (At.kp [1,2,3,6,7,12,13,14] [3,6,7] ?_)))
     refine At.zaF (At.kp [1,2,3,6,7,12,13,14] [3,6,7] ?_)
     exact At.conv (.cons .qi (.cons .qi (.cons .q (.cons .q (.cons .q (.cons .q (.cons .qi (.cons .qi .nil)))))))) (.cons .q (.cons .q (.cons .q .nil))) (hK1 hi1 (⟨(s1.Lo+(p0.w.Burns.getD ((p0.burns.getD i1 default)).toNat default).Minutes.Lo),(s1.Hi+(p0.w.Burns.getD ((p0.burns.getD i1 default)).toNat default).Minutes.Hi)⟩:Range) H)
   · refine W.skip (At.inb (At.zad (W.region env [] [] rfl rfl rfl (.cons (incD hi1 hn1) .nil) .nil (At.kp [1,2,3,6,7,12,13,14] [3,6,7] ?_))))
     refine At.zaF (At.kp [1,2,3,6,7,12,13,14] [3,6,7] ?_)
     exact At.conv (.cons .qi (.cons .qi (.cons .q (.cons .q (.cons .q (.cons .q (.cons .qi (.cons .qi .nil)))))))) (.cons .q (.cons .q (.cons .q .nil))) (hK1 hi1 s1 H)
 · have H:=H2 (geD hb2)
   refine W.exit (At.xthen (At.xthen (At.xhere (At.zad (W.rg env [6] [6] ?_)))))
   refine W.ret ?_
   cases H
   exact At.rz env hval
theorem zdl (p0:mantle_coat) {r:Range} (H:zbo p0=some r):Ctr Tryz.prog 134 [.agg (zay p0)] (.agg [.int .i64 (r.Lo),.int .i64 (r.Hi)]):=by
 unfold zbo at H
 refine Ctr.ob Tryz.func134 Tryz.ntmps134 (fun w0 h0 hval=>?_)
 refine W.rg env [1,2] [1,2] ?_
 refine W.rg env [1,2,3] [1,2,3] ?_
 refine W.seq ?_
 obtain ⟨y1,hy2,H⟩:=zac H
 refine W.region env [] [⟨.tup [.int .i64 (y1.1),.int .i64 (y1.2)],[],0,[]⟩] rfl rfl rfl .nil (.free (zhl p0 hy2) .nil) (At.kp [1,2,3,4,5] [1,2,3] ?_)
 refine At.zad (W.seq (W.rg env [1,2,3,4,5,13] [1,2,3] ?_))
 refine W.zjO H (fun (s3:Int)=>[(1,.lp 1 0),(2,.lp 2 0),(3,.lp 3 0),(4,.int .i64 (y1.1)),(5,.int .i64 (y1.2))]) (fun (s3:Int)=>[(1,.cells (zay p0)),(2,.cells [.int .i64 (0),.int .i64 (0)]),(3,.cells [.int .i64 (s3),.int .i64 (1000000)])]) (fun s3 H=>?_) (fun k3 H hK3=>?_)
 · refine W.seq (W.rg env [1,2,3,4,5,20] [1,2,3] ?_)
   refine W.zjO H (fun (s4:Int)=>[(1,.lp 1 0),(2,.lp 2 0),(3,.lp 3 0),(4,.int .i64 (y1.1)),(5,.int .i64 (y1.2))]) (fun (s4:Int)=>[(1,.cells (zay p0)),(2,.cells [.int .i64 (0),.int .i64 (0)]),(3,.cells [.int .i64 (s3),.int .i64 (s4)])]) (fun s4 H=>?_) (fun k4 H hK4=>?_)
   · refine W.seq (W.seq ?_)
     obtain ⟨y5,hy6,H⟩:=zac H
     refine W.region env [] [⟨.agg [.int .i64 (y5.Lo),.int .i64 (y5.Hi)],[],0,[]⟩] rfl rfl rfl (.cons id (.cons id (.cons id (.cons id (.cons id (.cons id (.cons id (.cons id (.cons id (.cons id (.cons id (.cons (fun hW h=>by revert hW h;first|(simp +contextual;done)|grind) (.cons id .nil))))))))))))) (.on (fun hW=>zcE p0 y1.1 y1.2 (zbJ hy6 hW)) .nil) (At.kp [2,3,48] [2,3] ?_)
     refine At.zad (W.co H rfl (fun hb7 H=>?_) (fun hb7 H=>?_))
     · refine W.rg env [2] [2] ?_
       refine W.ret (At.rthen ?_)
       cases H
       exact At.rz env hval
     · refine W.skip (At.zad (W.rg env [2] [2] ?_))
       refine W.ret ?_
       cases H
       exact At.rz env hval
   · refine W.co H rfl (fun hb8 H=>?_) (fun hb8 H=>?_)
     · obtain ⟨y9,hy10,H⟩:=zac H
       obtain ⟨hc11,H⟩:=zaa H
       refine W.region env [] [⟨.agg [.int .i64 (y9.Lo),.int .i64 (y9.Hi)],[],0,[]⟩] rfl rfl (by kernel_rfl) (.cons hc11 .nil) (.free (zcE p0 (-1) y1.2 hy10) .nil) (At.kp [1,2,3,4,5] [1,2,3] ?_)
       refine At.zaF (At.kp [1,2,3,4,5] [1,2,3] ?_)
       exact At.conv (.cons .q (.cons .q (.cons .q (.cons .qi (.cons .qi .nil))))) (.cons .q (.cons .q (.cons .q .nil))) (hK4 (min 1000000 (y9.Hi - 1)) H)
     · refine W.skip (At.zaF (At.kp [1,2,3,4,5] [1,2,3] ?_))
       exact At.conv (.cons .q (.cons .q (.cons .q (.cons .qi (.cons .qi .nil))))) (.cons .q (.cons .q (.cons .q .nil))) (hK4 1000000 H)
 · refine W.co H rfl (fun hb12 H=>?_) (fun hb12 H=>?_)
   · obtain ⟨y13,hy14,H⟩:=zac H
     refine W.region env [] [⟨.agg [.int .i64 (y13.Lo),.int .i64 (y13.Hi)],[],0,[]⟩] rfl rfl rfl .nil (.free (zcE p0 (-1) y1.1 hy14) .nil) (At.kp [1,2,3,4,5] [1,2,3] ?_)
     refine At.zaF (At.kp [1,2,3,4,5] [1,2,3] ?_)
     exact At.conv (.cons .q (.cons .q (.cons .q (.cons .qi (.cons .qi .nil))))) (.cons .q (.cons .q (.cons .q .nil))) (hK3 y13.Lo H)
   · refine W.skip (At.zaF (At.kp [1,2,3,4,5] [1,2,3] ?_))
     exact At.conv (.cons .q (.cons .q (.cons .q (.cons .qi (.cons .qi .nil))))) (.cons .q (.cons .q (.cons .q .nil))) (hK3 0 H)
theorem zfN (p0:Range) (p1:Range):Ctr Tryz.prog 183 [.agg [.int .i64 (p0.Lo),.int .i64 (p0.Hi)],.agg [.int .i64 (p1.Lo),.int .i64 (p1.Hi)]] (.agg [.int .i64 ((zaT p0 p1).Lo),.int .i64 ((zaT p0 p1).Hi)]):=by
 obtain ⟨r,H⟩:∃ r,zaT p0 p1=r:=⟨_,rfl⟩
 rw [H]
 unfold zaT at H
 refine Ctr.ob Tryz.func183 Tryz.ntmps183 (fun w0 h0 hval=>?_)
 refine W.rg env [2,3,4] [2,3,4] ?_
 refine W.rg env [4] [4] ?_
 refine W.ret ?_
 cases H
 exact At.rz env hval
theorem zeP (p0:mantle_closet) (p1:Int) (p2:Range) {r:mantle_closet} (H:zbp p0 p1 p2=some r):CtrO Tryz.prog 150 [.agg [roL 3 zav p0.w.Batches,roL 6 zao p0.w.Mantles,roL 7 zaA p0.w.Burns,roL 6 zaj p0.w.Looks,.int .i64 (p0.known),romL zz6 zah p0.coats,.buf 90000 (p0.lives).length],.int .i64 (p1),.agg [.int .i64 (p2.Lo),.int .i64 (p2.Hi)]] [(90000,bufL 29 2 zaJ p0.lives)] (.tup []) [(90000,bufL 29 2 zaJ r.lives)]:=by
 unfold zbp at H
 refine CtrL.zb5 (N:=17) Tryz.func150 (by kernel_rfl) (c:=_) rfl Tryz.ntmps150 rfl rfl (fun w0 h0 ρb hval hdom hent=>?_)
 refine W.rg env [1,3,5] [3,5,90000] ?_
 obtain ⟨hc1,H⟩:=zaa H
 obtain ⟨hc2,H⟩:=zaa H
 refine W.region env [] [⟨.agg [.int .i64 ((zaT (p0.lives.getD (p1).toNat default) p2).Lo),.int .i64 ((zaT (p0.lives.getD (p1).toNat default) p2).Hi)],[],0,[]⟩] rfl rfl (by kernel_rfl) (.cons (⟨by first|rfl|(simp;done)|omega|(simp;omega),hc1⟩) (.cons (⟨by first|rfl|(simp;done)|omega|(simp;omega),(by have:=hc1;first|omega|(simp only [List.length_set];omega)|(simp only [Int.toNat_natCast] at *;omega)|(simp at this ⊢;omega))⟩) (.cons (⟨by first|rfl|(simp;done)|omega|(simp;omega),hc2⟩) (.cons (⟨by first|rfl|(simp;done)|omega|(simp;omega),(by have:=hc2;first|omega|(simp only [List.length_set];omega)|(simp only [Int.toNat_natCast] at *;omega)|(simp at this ⊢;omega))⟩) .nil)))) (.free (zfN (p0.lives.getD (p1).toNat default) p2) .nil) (At.kp [] [90000] ?_)
 refine At.zbb (.cons (y:=bufL 29 2 zaJ (p0.lives.set (p1).toNat (zaT (p0.lives.getD (p1).toNat default) p2))) (BSim.seg (Seg.set (Seg.refl zaJ _) (zaT (p0.lives.getD (p1).toNat default) p2) rfl)) .nil) ?_
 refine At.zdN ?_
 cases H
 exact At.retL env.ty [90000] rfl rfl rfl rfl (.cons (.refl _) .nil) (.refl _) hval hdom hent rfl rfl
theorem zdR (fuel:Nat) (p0:Wear) (p1:(List Look)) (p2:Int) {r:mantle_closet} (H:zcy fuel p0 p1 p2=some r):Ctr Tryz.prog 91 [.agg (zal p0),roL 6 zaj p1,.int .i64 (p2)] (.agg (zaK r)):=by
 unfold zcy at H
 refine Ctr.ob Tryz.func91 Tryz.ntmps91 (fun w0 h0 hval=>?_)
 refine W.rg env [1,2,3,6] [3,6] ?_
 refine W.seq (W.region env [] [] rfl rfl rfl .nil .nil (At.kp [1,2,3,6,7] [3,6,7,19] ?_))
 refine At.zbb (.cons (.refl _) (.cons (.refl _) (.cons (.refl _) (.cons (y:=mapL zz6 zah (Mp.empty:Mp mantle_coat)) (BSim.zoE (f:=zah) (zhn.empty (f:=zah) (Sim.aggL (.cons (Sim.nil _ _) (.cons (Sim.nil _ _) (.cons (Sim.nil _ _) (.cons (Sim.nil _ _) (.cons (Sim.nil _ _) (.cons (Sim.nil _ _) .nil))))))))) .nil)))) ?_
 refine At.zad (W.seq ?_)
 obtain ⟨y1,hy2,H⟩:=zac H
 refine W.region env [] [⟨romL (.slice none 0 0) (fun (x:(List Int))=>roL 1 zab x) y1,[],0,[]⟩] rfl rfl rfl .nil (.free (zjS fuel p0 p2 hy2) .nil) (At.kp [1,2,3,6,7,8] [3,6,7,19] ?_)
 refine At.zad (W.seq (W.rg env [1,2,3,6,7,8,26,27] [3,6,7,19] ?_))
 refine W.block (At.kp [1,2,3,6,7,8,26,27] [3,6,7,19] ?_)
 obtain ⟨hn3,H⟩:=zaa H
 refine W.zaq H (fun i3 (s3:(Mp mantle_coat))=>[(1,roL 6 zaj p1),(2,.int .i64 (p2)),(3,.lp 3 0),(6,.lp 6 0),(7,.lp 7 0),(8,romL (.slice none 0 0) (fun (x:(List Int))=>roL 1 zab x) y1),(26,.int .i64 (((p0.Mantles.length:Nat):Int))),(27,.int .i64 ((i3:Int)))]) (fun i3 (s3:(Mp mantle_coat))=>[(3,.cells (zal p0)),(6,.cells [.nilS,.nilS,.nilS,.nilS,.int .i64 (0),.nilMap,.nilS]),(7,.cells [roL 3 zav p0.Batches,roL 6 zao p0.Mantles,roL 7 zaA p0.Burns,roL 6 zaj p0.Looks,.int .i64 (p2),.mp 19,.nilS]),(19,mapL zz6 zah s3)]) (.cons .q (.cons .qi (.cons .q (.cons .q (.cons .q (.cons .q (.cons .qi (.cons .qi .nil)))))))) (.cons .q (.cons (BSim.cells (.cons Sim.o (.cons Sim.o (.cons Sim.o (.cons Sim.o (.cons .q (.cons .q (.cons Sim.o .nil)))))))) (.cons (BSim.cells (.cons .q (.cons .q (.cons .q (.cons .q (.cons .q (.cons .q (.cons Sim.o .nil)))))))) (.cons .q .nil)))) (fun k3 i3 s3 hle3 H1 H2 K0 hK3=>?_)
 refine W.rg env [1,2,3,6,7,8,26,27,28] [3,6,7,19] ?_
 refine W.seq (W.cond rfl (fun hb4=>?_) (fun hb4=>?_))
 · have hi3:i3<p0.Mantles.length:=ltD hb4
   have H:=H1 hi3
   refine W.skip (At.zad (W.seq (W.block (W.rg env [1,2,3,6,7,8,9,26,27] [3,6,7,19] ?_))))
   refine W.region env [] [] rfl rfl rfl (.cons rfl .nil) .nil (At.kp [1,2,3,6,7,8,26,27] [3,6,7,19] ?_)
   refine At.zbb (.cons (.refl _) (.cons (.refl _) (.cons (.refl _) (.cons (y:=mapL zz6 zah (s3.set (i3:Int) (⟨p0,((y1.get (i3:Int)).getD default),[]⟩:mantle_coat))) (BSim.zoE (f:=zah) (zhn.set (zhn.refl zah _) (⟨p0,((y1.get (i3:Int)).getD default),[]⟩:mantle_coat) (Sim.aggL (.cons (.refl _) (.cons (.refl _) (.cons (.refl _) (.cons (.refl _) (.cons (.refl _) (.cons (Sim.nil _ _) .nil))))))))) .nil)))) ?_
   refine At.inb (At.zad (W.region env [] [] rfl rfl rfl (.cons (incD hi3 hn3) .nil) .nil (At.kp [1,2,3,6,7,8,26,27] [3,6,7,19] ?_)))
   refine At.zaF (At.kp [1,2,3,6,7,8,26,27] [3,6,7,19] ?_)
   exact At.conv (.cons .q (.cons .qi (.cons .q (.cons .q (.cons .q (.cons .q (.cons .qi (.cons .qi .nil)))))))) (.cons .q (.cons (BSim.cells (.cons Sim.o (.cons Sim.o (.cons Sim.o (.cons Sim.o (.cons .q (.cons .q (.cons Sim.o .nil)))))))) (.cons (BSim.cells (.cons .q (.cons .q (.cons .q (.cons .q (.cons .q (.cons .q (.cons Sim.o .nil)))))))) (.cons .q .nil)))) (hK3 hi3 (s3.set (i3:Int) (⟨p0,((y1.get (i3:Int)).getD default),[]⟩:mantle_coat)) H)
 · have H:=H2 (geD hb4)
   refine W.exit (At.xthen (At.xthen (At.xhere (At.zad (W.seq (W.rg env [2,3,6,7,39,40,41] [3,6,7,19] ?_))))))
   refine W.block (At.kp [2,3,6,7,39,40,41] [3,6,7,19] ?_)
   refine W.len (t:=39) rfl (fun hn5=>?_)
   refine W.zaq H (fun i5 (s5:(Mp mantle_coat))=>[(2,.int .i64 (p2)),(3,.lp 3 0),(6,.lp 6 0),(7,.lp 7 0),(39,roL 6 zaj p1),(40,.int .i64 (((p1.length:Nat):Int))),(41,.int .i64 ((i5:Int)))]) (fun i5 (s5:(Mp mantle_coat))=>[(3,.cells (zal p0)),(6,.cells [.nilS,.nilS,.nilS,.nilS,.int .i64 (0),.nilMap,.nilS]),(7,.cells [roL 3 zav p0.Batches,roL 6 zao p0.Mantles,roL 7 zaA p0.Burns,roL 6 zaj p0.Looks,.int .i64 (p2),.mp 19,.nilS]),(19,mapL zz6 zah s5)]) (.cons .qi (.cons .q (.cons .q (.cons .q (.cons .q (.cons .qi (.cons .qi .nil))))))) (.cons .q (.cons (BSim.cells (.cons Sim.o (.cons Sim.o (.cons Sim.o (.cons Sim.o (.cons .q (.cons .q (.cons Sim.o .nil)))))))) (.cons (BSim.cells (.cons .q (.cons .q (.cons .q (.cons .q (.cons .q (.cons .q (.cons Sim.o .nil)))))))) (.cons .q .nil)))) (fun k5 i5 s5 hle5 H1 H2 K0 hK5=>?_)
   refine W.rg env [2,3,6,7,39,40,41,42] [3,6,7,19] ?_
   refine W.seq (W.cond rfl (fun hb6=>?_) (fun hb6=>?_))
   · have hi5:i5<p1.length:=ltD hb6
     have H:=H1 hi5
     refine W.skip (At.zad (W.seq (W.block (W.sr env [] [] [2,3,6,7,11,39,40,41] [3,6,7,11,19] rfl rfl rfl (.cons (inD hi5) .nil) .nil ?_))))
     refine W.seq ?_
     obtain ⟨y7,hy8,H⟩:=zac H
     refine W.region env [] [⟨.int .i64 (y7),[],0,[]⟩] rfl rfl rfl .nil (.free (zc7 p0 ((p1.getD i5 default).Lamp) ((p1.getD i5 default).Night) p2 hy8) .nil) (At.kp [2,3,6,7,11,12,39,40,41] [3,6,7,11,19] ?_)
     refine At.zad (W.sr env [] [⟨.bool ((zap ((p1.getD i5 default).Known) ((p1.getD i5 default).Until) p2)),[],0,[]⟩] [2,3,6,7,11,12,39,40,41,61] [3,6,7,11,19] rfl rfl rfl (.cons id (.cons id (.cons id (.cons id (.cons id (.cons id .nil)))))) (.on (fun hW=>zc8 ((p1.getD i5 default).Known) ((p1.getD i5 default).Until) p2) .nil) ?_)
     refine W.co H rfl (fun hb9 H=>?_) (fun hb9 H=>?_)
     · obtain ⟨y10,hy11,H⟩:=zac H
       refine W.region env [] [⟨.agg (zay y10),[],0,[]⟩] rfl rfl (by kernel_rfl) (.cons rfl .nil) (.free (zdB ((s5.get y7).getD default) (⟨(p1.getD i5 default).Night,(p1.getD i5 default).Bad⟩:mantle_sight) hy11) .nil) (At.kp [2,3,6,7,39,40,41] [3,6,7,19] ?_)
       refine At.zbb (.cons (.refl _) (.cons (.refl _) (.cons (.refl _) (.cons (y:=mapL zz6 zah (s5.set y7 y10)) (BSim.mseg (f:=zah) (MSeg.set (MSeg.refl zah _) y10 rfl)) .nil)))) ?_
       refine At.inb (At.zad (W.region env [] [] rfl rfl rfl (.cons (incD hi5 hn5) .nil) .nil (At.kp [2,3,6,7,39,40,41] [3,6,7,19] ?_)))
       refine At.zaF (At.kp [2,3,6,7,39,40,41] [3,6,7,19] ?_)
       exact At.conv (.cons .qi (.cons .q (.cons .q (.cons .q (.cons .q (.cons .qi (.cons .qi .nil))))))) (.cons .q (.cons (BSim.cells (.cons Sim.o (.cons Sim.o (.cons Sim.o (.cons Sim.o (.cons .q (.cons .q (.cons Sim.o .nil)))))))) (.cons (BSim.cells (.cons .q (.cons .q (.cons .q (.cons .q (.cons .q (.cons .q (.cons Sim.o .nil)))))))) (.cons .q .nil)))) (hK5 hi5 (s5.set y7 y10) H)
     · refine W.skip (At.inb (At.zad (W.region env [] [] rfl rfl rfl (.cons (incD hi5 hn5) .nil) .nil (At.kp [2,3,6,7,39,40,41] [3,6,7,19] ?_))))
       refine At.zaF (At.kp [2,3,6,7,39,40,41] [3,6,7,19] ?_)
       exact At.conv (.cons .qi (.cons .q (.cons .q (.cons .q (.cons .q (.cons .qi (.cons .qi .nil))))))) (.cons .q (.cons (BSim.cells (.cons Sim.o (.cons Sim.o (.cons Sim.o (.cons Sim.o (.cons .q (.cons .q (.cons Sim.o .nil)))))))) (.cons (BSim.cells (.cons .q (.cons .q (.cons .q (.cons .q (.cons .q (.cons .q (.cons Sim.o .nil)))))))) (.cons .q .nil)))) (hK5 hi5 s5 H)
   · have H:=H2 (geD hb6)
     refine W.exit (At.xthen (At.xthen (At.xhere (At.zad (W.seq (W.rg env [3,6,7,77,78,79] [3,6,7,19] ?_))))))
     refine W.block (At.zdF 7 6 956 29 2 (e:=fun i=>zaJ (([]:List Range).getD i default)) rfl rfl rfl ?_)
     refine At.kp [3,6,7,77,78,79] [3,6,7,19,956] ?_
     refine W.len (t:=77) rfl (fun hn12=>?_)
     refine W.zaq H (fun i12 (s12:(List Range))=>[(3,.lp 3 0),(6,.lp 6 0),(7,.lp 7 0),(77,roL 3 zav p0.Batches),(78,.int .i64 (((p0.Batches.length:Nat):Int))),(79,.int .i64 ((i12:Int)))]) (fun i12 (s12:(List Range))=>[(3,.cells (zal p0)),(6,.cells [.nilS,.nilS,.nilS,.nilS,.int .i64 (0),.nilMap,.nilS]),(7,.cells [roL 3 zav p0.Batches,roL 6 zao p0.Mantles,roL 7 zaA p0.Burns,roL 6 zaj p0.Looks,.int .i64 (p2),.mp 19,.buf 956 (s12).length]),(19,mapL zz6 zah s5),(956,bufL 29 2 zaJ s12)]) (.cons .q (.cons .q (.cons .q (.cons .q (.cons .qi (.cons .qi .nil)))))) (.cons .q (.cons (BSim.cells (.cons Sim.o (.cons Sim.o (.cons Sim.o (.cons Sim.o (.cons .q (.cons .q (.cons Sim.o .nil)))))))) (.cons (BSim.cells (.cons .q (.cons .q (.cons .q (.cons .q (.cons .q (.cons .q (.cons .qc .nil)))))))) (.cons .q (.cons .q .nil))))) (fun k12 i12 s12 hle12 H1 H2 K0 hK12=>?_)
     refine W.rg env [3,6,7,77,78,79,80] [3,6,7,19,956] ?_
     refine W.seq (W.cond rfl (fun hb13=>?_) (fun hb13=>?_))
     · have hi12:i12<p0.Batches.length:=ltD hb13
       have H:=H1 hi12
       refine W.skip (At.zad (W.seq (W.block (W.sr env [] [] [3,6,7,14,77,78,79] [3,6,7,14,19,956] rfl rfl rfl (.cons (inD hi12) .nil) .nil ?_))))
       obtain ⟨hc14,H⟩:=zaa H
       refine W.region env [] [] rfl rfl rfl (.cons (rmI hc14) .nil) .nil (At.kp [3,6,7,77,78,79] [3,6,7,19,956] ?_)
       refine At.zbb (.cons (.refl _) (.cons (.refl _) (.cons (.refl _) (.cons (.refl _) (.cons (y:=bufL 29 2 zaJ (s12++([(p0.Batches.getD i12 default).Life]:List Range))) (BSim.seg (Seg.push (Seg.refl zaJ _) (Seg.lit (f:=zaJ) (sz:=2) ([(p0.Batches.getD i12 default).Life]:List Range) rfl rfl (fun _=>rfl)))) .nil))))) ?_
       refine At.inb (At.zad (W.region env [] [] rfl rfl rfl (.cons (incD hi12 hn12) .nil) .nil (At.kp [3,6,7,77,78,79] [3,6,7,19,956] ?_)))
       refine At.zaF (At.kp [3,6,7,77,78,79] [3,6,7,19,956] ?_)
       exact At.conv (.cons .q (.cons .q (.cons .q (.cons .q (.cons .qi (.cons .qi .nil)))))) (.cons .q (.cons (BSim.cells (.cons Sim.o (.cons Sim.o (.cons Sim.o (.cons Sim.o (.cons .q (.cons .q (.cons Sim.o .nil)))))))) (.cons (BSim.cells (.cons .q (.cons .q (.cons .q (.cons .q (.cons .q (.cons .q (.cons .qc .nil)))))))) (.cons .q (.cons .q .nil))))) (hK12 hi12 (s12++([(p0.Batches.getD i12 default).Life]:List Range)) H)
     · have H:=H2 (geD hb13)
       refine W.exit (At.xthen (At.xthen (At.xhere (At.zad (W.seq (W.seq (At.zmG 19 (K:=[3,6,7,956]) (ts:=[3,6,7]) rfl rfl rfl rfl (fun _ h=>h) ?_)))))))
       refine W.region env [] [⟨.clo (.func 174) [] [.rp [roL 3 zav p0.Batches,roL 6 zao p0.Mantles,roL 7 zaA p0.Burns,roL 6 zaj p0.Looks,.int .i64 (p2),romL zz6 zah s5,.one]],[],0,[100000956]⟩] rfl rfl rfl .nil (.free (zgq (⟨p0,p2,s5,[]⟩:mantle_closet)) .nil) (At.kp [3,6,7,92] [3,6,7,956] ?_)
       refine At.zad (W.block ?_)
       obtain ⟨it15,hit15,H⟩:=zac H
       refine At.kp [3,6,7,92] [3,6,7,956] ?_
       refine W.ziy H (fun (x:Int×mantle_coat)=>[.int .i64 (x.1),.agg (zay x.2)]) (zfM (⟨p0,p2,s5,[]⟩:mantle_closet) hit15) rfl (fun _=>rfl) rfl rfl rfl (fun (s16:(List Range))=>[(3,.cells (zal p0)),(6,.cells [.nilS,.nilS,.nilS,.nilS,.int .i64 (0),.nilMap,.nilS]),(7,.cells [roL 3 zav p0.Batches,roL 6 zao p0.Mantles,roL 7 zaA p0.Burns,roL 6 zaj p0.Looks,.int .i64 (p2),romL zz6 zah s5,.buf 956 (s16).length]),(956,bufL 29 2 zaJ s16)]) (.cons .q (.cons (BSim.cells (.cons Sim.o (.cons Sim.o (.cons Sim.o (.cons Sim.o (.cons .q (.cons .q (.cons Sim.o .nil)))))))) (.cons (BSim.cells (.cons .q (.cons .q (.cons .q (.cons .q (.cons .q (.cons .q (.cons .qc .nil)))))))) (.cons .q .nil)))) (fun (x15:Int×mantle_coat)=>[(3,.lp 3 0),(6,.lp 6 0),(7,.lp 7 0),(15,.int .i64 (x15.1)),(16,.lp 16 0)]) (fun (x15:Int×mantle_coat) (s16:(List Range))=>[(3,.cells (zal p0)),(6,.cells [.nilS,.nilS,.nilS,.nilS,.int .i64 (0),.nilMap,.nilS]),(7,.cells [roL 3 zav p0.Batches,roL 6 zao p0.Mantles,roL 7 zaA p0.Burns,roL 6 zaj p0.Looks,.int .i64 (p2),romL zz6 zah s5,.buf 956 (s16).length]),(16,.cells (zay x15.2)),(956,bufL 29 2 zaJ s16)]) (fun _ (_:Unit)=>False) (fun _ _=>[]) (fun _ _ h=>h.elim) hval (fun h1 vs gh st lp x15 s16 K hK=>?_) (fun k16 h1 vs gh st lp x15 s16 H Qr hQ16 hX16=>?_) (fun s16 H=>?_) (fun _ _ h=>h.elim)
       · refine W.rg env [3,6,7,15,94] [3,6,7,956] ?_
         refine W.region env [] [] rfl rfl rfl .nil .nil (At.kp [3,6,7,15,16] [3,6,7,16,956] ?_)
         refine At.zaF (At.kp [3,6,7,15,16] [3,6,7,16,956] ?_)
         exact hK
       · refine W.block ?_
         obtain ⟨hc17,H⟩:=zaa H
         obtain ⟨y18,hy19,H⟩:=zac H
         obtain ⟨y20,hy21,H⟩:=zac H
         obtain ⟨y22,hy23,H⟩:=zac H
         obtain ⟨hc24,H⟩:=zaa H
         refine W.region env [] [⟨.int .i64 (y18),[],0,[]⟩,⟨.agg [.int .i64 (y20.Lo),.int .i64 (y20.Hi)],[],0,[]⟩,⟨.tup [],[(956,bufL 29 2 zaJ y22.lives)],0,[956]⟩] rfl rfl (by kernel_rfl) (.cons hc17 .nil) (.free (zdv p0 ((p0.Mantles.getD (x15.1).toNat default).Batch) hy19) (.free (zdl x15.2 hy21) (.free (CtrO.sim (CtrO.ren (zeP (⟨p0,p2,s5,s16⟩:mantle_closet) y18 y20 hy23) [(90000,956)]) (.cons (Sim.aggL (.cons (.refl _) (.cons (.refl _) (.cons (.refl _) (.cons (.refl _) (.cons (.refl _) (.cons (.refl _) (.cons .qc .nil)))))))) (.cons (.refl _) (.cons (.refl _) .nil))) (.cons (.refl _) .nil)) .nil))) (At.kp [6] [3,6,7,956] ?_)
         refine At.inb (At.kp [] [3,6,7,956] ?_)
         exact At.conv .nil (.cons .q (.cons (BSim.cells (.cons Sim.o (.cons Sim.o (.cons Sim.o (.cons Sim.o (.cons .q (.cons .q (.cons Sim.o .nil)))))))) (.cons (BSim.cells (.cons .q (.cons .q (.cons .q (.cons .q (.cons .q (.cons .q (.cons .qc .nil)))))))) (.cons .q .nil)))) (hQ16 y22.lives H)
       · refine At.inb (At.zad (W.rg env [6] [6,956] ?_))
         refine W.ret ?_
         cases H
         exact At.ret env.ty rfl rfl (fun q hq=>by cases hq;exact (by first|rfl|(simp;done)|omega|(simp;omega))) (.refl _) hval
theorem zl9 (fuel:Nat) (p0:Wear) (p1:Int) (p2:Int) (p3:Int) {r:(Range×Int)} (H:zh7 fuel p0 p1 p2 p3=some r):Ctr Tryz.prog 37 [.agg (zal p0),.int .i64 (p1),.int .i64 (p2),.int .i64 (p3)] (.tup [.agg [.int .i64 (r.1.Lo),.int .i64 (r.1.Hi)],.int .i64 (r.2)]):=by
 unfold zh7 at H
 refine Ctr.ob Tryz.func37 Tryz.ntmps37 (fun w0 h0 hval=>?_)
 refine W.rg env [1,2,3,4,8] [4,8] ?_
 refine W.seq ?_
 obtain ⟨y1,hy2,H⟩:=zac H
 refine W.region env [] [⟨.tup [.int .i64 (y1.1),.int .i64 (y1.2)],[],0,[]⟩] rfl rfl rfl .nil (.free (zgo p0 p1 p2 p3 hy2) .nil) (At.kp [2,3,4,8,10,11] [4,8] ?_)
 refine At.zad (W.seq (W.rg env [2,3,4,8,10,11,21] [4,8] ?_))
 refine W.co H rfl (fun hb3 H=>?_) (fun hb3 H=>?_)
 · refine W.rg env [8,9] [8] ?_
   refine W.ret (At.rthen ?_)
   cases H
   exact At.rz env hval
 · refine W.skip (At.zad (W.seq ?_))
   obtain ⟨y4,hy5,H⟩:=zac H
   obtain ⟨y6,hy7,H⟩:=zac H
   refine W.region env [] [⟨.agg (zaK y4),[],0,[]⟩,⟨.agg [.int .i64 (y6.Lo),.int .i64 (y6.Hi)],[],0,[]⟩] rfl rfl rfl (.cons rfl .nil) (.free (Ctr.sim (.cons (.refl _) (.cons (Sim.nil _ _) (.cons (.refl _) .nil))) (zdR fuel p0 [] p3 hy5)) (.free (zcE ((y4.coats.get y1.1).getD default) (-1) p2 hy7) .nil)) (At.kp [8,9] [8] ?_)
   refine At.zad (W.ret ?_)
   cases H
   exact At.rz env hval
theorem zfm (p0:(List Range)) (p1:Range→Option Bool) (p1_g:Nat) (p1_a p1_b:List AV) (p1_h:∀ x0 r,p1 x0=some r→Ctr Tryz.prog p1_g (p1_a++([.agg [.int .i64 (x0.Lo),.int .i64 (x0.Hi)]]++p1_b)) (.bool (r))) {r:Int} (H:zcO p0 p1=some r):Ctr Tryz.prog 184 [roL 2 zaJ p0,.clo (.func p1_g) p1_a p1_b] (.int .i64 (r)):=by
 unfold zcO at H
 refine Ctr.ob Tryz.func184 Tryz.ntmps184 (fun w0 h0 hval=>?_)
 refine W.rg env [0,1] [] ?_
 refine W.seq (W.rg env [0,1,7,8] [] ?_)
 refine W.block (At.kp [0,1,7,8] [] ?_)
 refine W.len (t:=0) rfl (fun hn1=>?_)
 refine W.zaq H (fun i1 (s1:Unit)=>[(0,roL 2 zaJ p0),(1,.clo (.func p1_g) p1_a p1_b),(7,.int .i64 (((p0.length:Nat):Int))),(8,.int .i64 ((i1:Int)))]) (fun i1 (s1:Unit)=>[]) (.cons .q (.cons .q (.cons .qi (.cons .qi .nil)))) .nil (fun k1 i1 s1 hle1 H1 H2 K0 hK1=>?_)
 refine W.rg env [0,1,7,8,9] [] ?_
 refine W.seq (W.cond rfl (fun hb2=>?_) (fun hb2=>?_))
 · have hi1:i1<p0.length:=ltD hb2
   have H:=H1 hi1
   refine W.skip (At.zad (W.seq (W.block (W.rg env [0,1,5,7,8] [] ?_))))
   refine W.seq ?_
   obtain ⟨y3,hy4,H⟩:=zac H
   refine W.region env [] [⟨.bool (y3),[],0,[]⟩] rfl rfl rfl (.cons (inD hi1) .nil) (.free (p1_h (p0.getD i1 default) _ hy4) .nil) (At.kp [0,1,5,7,8,16] [] ?_)
   refine At.zad (W.co H rfl (fun hb5 H=>?_) (fun hb5 H=>?_))
   · refine W.rg env [4] [] ?_
     refine W.ret (At.rinb ?_)
     refine At.rthen ?_
     refine At.rthen ?_
     refine At.rinb ?_
     refine At.rthen ?_
     cases H
     exact At.rz env hval
   · refine W.skip (At.inb (At.zad (W.region env [] [] rfl rfl rfl (.cons (incD hi1 hn1) .nil) .nil (At.kp [0,1,7,8] [] ?_))))
     refine At.zaF (At.kp [0,1,7,8] [] ?_)
     exact At.conv (.cons .q (.cons .q (.cons .qi (.cons .qi .nil)))) .nil (hK1 hi1 () H)
 · have H:=H2 (geD hb2)
   refine W.exit (At.xthen (At.xthen (At.xhere (At.zad (W.rg env [4] [] ?_)))))
   refine W.ret ?_
   cases H
   exact At.rz env hval
theorem zeM (p0:(List Range)) (p1:Range→Option Bool) (p1_g:Nat) (p1_a p1_b:List AV) (p1_h:∀ x0 r,p1 x0=some r→Ctr Tryz.prog p1_g (p1_a++([.agg [.int .i64 (x0.Lo),.int .i64 (x0.Hi)]]++p1_b)) (.bool (r))) {r:Bool} (H:zbG p0 p1=some r):Ctr Tryz.prog 151 [roL 2 zaJ p0,.clo (.func p1_g) p1_a p1_b] (.bool (r)):=by
 unfold zbG at H
 refine Ctr.ob Tryz.func151 Tryz.ntmps151 (fun w0 h0 hval=>?_)
 refine W.rg env [0,1] [] ?_
 refine W.seq ?_
 obtain ⟨y1,hy2,H⟩:=zac H
 refine W.region env [] [⟨.int .i64 (y1),[],0,[]⟩] rfl rfl rfl .nil (.free (zfm p0 p1 p1_g p1_a p1_b p1_h hy2) .nil) (At.kp [4] [] ?_)
 refine At.zad (W.ret ?_)
 cases H
 exact At.rz env hval
theorem zeO (p0:Range):Ctr Tryz.prog 152 [.agg [.int .i64 (p0.Lo),.int .i64 (p0.Hi)]] (.bool ((zaV p0))):=by
 obtain ⟨r,H⟩:∃ r,zaV p0=r:=⟨_,rfl⟩
 rw [H]
 unfold zaV at H
 refine Ctr.ob Tryz.func152 Tryz.ntmps152 (fun w0 h0 hval=>?_)
 refine W.rg env [1] [1] ?_
 refine W.rg env [2] [] ?_
 refine W.ret ?_
 cases H
 exact At.rz env hval
theorem zbh (p0:mantle_closet) {r:Bool} (H:zaR p0=some r):Ctr Tryz.prog 92 [.agg (zaK p0)] (.bool (r)):=by
 unfold zaR at H
 refine Ctr.ob Tryz.func92 Tryz.ntmps92 (fun w0 h0 hval=>?_)
 refine W.rg env [1] [1] ?_
 refine W.seq ?_
 obtain ⟨y1,hy2,H⟩:=zac H
 refine W.region env [] [⟨.bool (y1),[],0,[]⟩] rfl rfl rfl .nil (.free (zeM p0.lives (fun x0=>some (zaV x0)) 152 [] [] (fun x0 r h=>by cases h;exact zeO x0) hy2) .nil) (At.kp [2] [] ?_)
 refine At.zad (W.ret ?_)
 cases H
 exact At.rz env hval
theorem zg2 (fuel:Nat) (p0:Wear) (p1:Int) {r:(mantle_closet×Int)} (H:zdH fuel p0 p1=some r):Ctr Tryz.prog 93 [.agg (zal p0),.int .i64 (p1)] (.tup [.agg (zaK r.1),.int .i64 (r.2)]):=by
 unfold zdH at H
 refine Ctr.ob Tryz.func93 Tryz.ntmps93 (fun w0 h0 hval=>?_)
 refine W.rg env [1,2,4] [2,4] ?_
 refine W.seq ?_
 obtain ⟨y1,hy2,H⟩:=zac H
 refine W.region env [] [⟨.agg (zaK y1),[],0,[]⟩] rfl rfl rfl .nil (.free (zdR fuel p0 p0.Looks p1 hy2) .nil) (At.kp [4,6] [4,6] ?_)
 refine At.zad (W.seq (W.seq ?_))
 obtain ⟨y3,hy4,H⟩:=zac H
 refine W.region env [] [⟨.bool (y3),[],0,[]⟩] rfl rfl rfl .nil (.free (zbh y1 hy4) .nil) (At.kp [4,6,14] [4,6] ?_)
 refine At.zad (W.co H rfl (fun hb5 H=>?_) (fun hb5 H=>?_))
 · refine W.rg env [4,5] [4] ?_
   refine W.ret (At.rthen ?_)
   cases H
   exact At.ret env.ty rfl rfl nofun (Sim.tupL (.cons (Sim.aggL (.cons (Sim.nil _ _) (.cons (Sim.nil _ _) (.cons (Sim.nil _ _) (.cons (Sim.nil _ _) (.cons (.refl _) (.cons (Sim.zha (zs:=[.slice none 0 0,.slice none 0 0,.slice none 0 0,.slice none 0 0,.slice none 0 0,.slice none 0 0]) rfl (Sim.aggL (.cons (Sim.nil _ _) (.cons (Sim.nil _ _) (.cons (Sim.nil _ _) (.cons (Sim.nil _ _) (.cons (Sim.nil _ _) (.cons (Sim.nil _ _) .nil)))))))) (.cons (Sim.nil _ _) .nil)))))))) (.cons (.refl _) .nil))) hval
 · refine W.skip (At.zad (W.rg env [4,5] [4] ?_))
   refine W.ret ?_
   cases H
   exact At.rz env hval
theorem zlf (fuel:Nat) (p0:Wear) (p1:Int) (p2:Int) {r:(Range×Int)} (H:zhc fuel p0 p1 p2=some r):Ctr Tryz.prog 31 [.agg (zal p0),.int .i64 (p1),.int .i64 (p2)] (.tup [.agg [.int .i64 (r.1.Lo),.int .i64 (r.1.Hi)],.int .i64 (r.2)]):=by
 unfold zhc at H
 refine Ctr.ob Tryz.func31 Tryz.ntmps31 (fun w0 h0 hval=>?_)
 refine W.rg env [1,2,3,6] [3,6] ?_
 refine W.seq (W.seq ?_)
 obtain ⟨y1,hy2,H⟩:=zac H
 refine W.region env [] [⟨.int .i64 (y1),[],0,[]⟩] rfl rfl rfl .nil (.free (Ctr.sim (.cons (.refl _) (.cons (Sim.lit (f:=zab) ([p2]:List Int) rfl rfl (fun _=>rfl)) .nil)) (zeN p0 ([p2]:List Int) hy2)) .nil) (At.kp [1,2,3,6,8] [3,6] ?_)
 refine At.zad (W.rg env [1,2,3,6,8,17] [3,6] ?_)
 refine W.co H rfl (fun hb3 H=>?_) (fun hb3 H=>?_)
 · refine W.rg env [6,7] [6] ?_
   refine W.ret (At.rthen ?_)
   cases H
   exact At.rz env hval
 · refine W.skip (At.zad (W.seq ?_))
   obtain ⟨y4,hy5,H⟩:=zac H
   refine W.region env [] [⟨.int .i64 (y4),[],0,[]⟩] rfl rfl rfl .nil (.free (zdv p0 p1 hy5) .nil) (At.kp [2,3,6,9] [3,6] ?_)
   refine At.zad (W.seq (W.rg env [2,3,6,9,24] [3,6] ?_))
   refine W.co H rfl (fun hb6 H=>?_) (fun hb6 H=>?_)
   · refine W.rg env [6,7] [6] ?_
     refine W.ret (At.rthen ?_)
     cases H
     exact At.rz env hval
   · refine W.skip (At.zad (W.seq ?_))
     obtain ⟨y7,hy8,H⟩:=zac H
     refine W.region env [] [⟨.tup [.agg (zaK y7.1),.int .i64 (y7.2)],[],0,[]⟩] rfl rfl rfl .nil (.free (zg2 fuel p0 p2 hy8) .nil) (At.kp [6,9,10,11] [6,10] ?_)
     refine At.zad (W.seq (W.rg env [6,9,10,11,33] [6,10] ?_))
     refine W.co H rfl (fun hb9 H=>?_) (fun hb9 H=>?_)
     · refine W.rg env [6,7] [6] ?_
       refine W.ret (At.rthen ?_)
       cases H
       exact At.rz env hval
     · refine W.skip (At.zad ?_)
       obtain ⟨hc10,H⟩:=zaa H
       refine W.sr env [] [] [6,7] [6] rfl rfl rfl (.cons hc10 .nil) .nil ?_
       refine W.ret ?_
       cases H
       exact At.rz env hval
theorem zcR (p0:mantle_closet) (p1:Int) {r:Int} (H:zaW p0 p1=some r):Ctr Tryz.prog 132 [.agg (zaK p0),.int .i64 (p1)] (.int .i64 (r)):=by
 unfold zaW at H
 refine Ctr.ob Tryz.func132 Tryz.ntmps132 (fun w0 h0 hval=>?_)
 refine W.rg env [1,2] [2] ?_
 refine W.seq ?_
 obtain ⟨hc1,H⟩:=zaa H
 obtain ⟨y2,hy3,H⟩:=zac H
 refine W.region env [] [⟨.int .i64 (y2),[],0,[]⟩] rfl rfl (by kernel_rfl) (.cons hc1 .nil) (.free (zdv p0.w ((p0.w.Mantles.getD (p1).toNat default).Batch) hy3) .nil) (At.kp [4] [] ?_)
 refine At.zad (W.ret ?_)
 cases H
 exact At.rz env hval
theorem zex (p0:mantle_closet) (p1:Int) (p2:Int) (p3:Bool) {r:Range} (H:zbQ p0 p1 p2 p3=some r):Ctr Tryz.prog 154 [.agg (zaK p0),.int .i64 (p1),.int .i64 (p2),.bool (p3)] (.agg [.int .i64 (r.Lo),.int .i64 (r.Hi)]):=by
 unfold zbQ at H
 refine Ctr.ob Tryz.func154 Tryz.ntmps154 (fun w0 h0 hval=>?_)
 refine W.rg env [1,2,3,4,8] [4,8] ?_
 refine W.seq ?_
 obtain ⟨y1,hy2,H⟩:=zac H
 obtain ⟨hc3,H⟩:=zaa H
 obtain ⟨y4,hy5,H⟩:=zac H
 obtain ⟨y6,hy7,H⟩:=zac H
 refine W.region env [] [⟨.int .i64 (y1),[],0,[]⟩,⟨.agg (zay y4),[],0,[]⟩,⟨.agg [.int .i64 (y6.Lo),.int .i64 (y6.Hi)],[],0,[]⟩,⟨.agg [.int .i64 ((zaT (p0.lives.getD (y1).toNat default) y6).Lo),.int .i64 ((zaT (p0.lives.getD (y1).toNat default) y6).Hi)],[],0,[]⟩] rfl rfl (by kernel_rfl) (.cons hc3 (.cons rfl .nil)) (.free (zcR p0 p1 hy2) (.free (zdB ((p0.coats.get p1).getD default) (⟨p2,p3⟩:mantle_sight) hy5) (.free (zdl y4 hy7) (.free (zfN (p0.lives.getD (y1).toNat default) y6) .nil)))) (At.kp [8] [8] ?_)
 refine At.zad (W.ret ?_)
 cases H
 exact At.rz env hval
theorem zbB (p0:mantle_closet) (p1:Int) (p2:Int) {r:Int} (H:zaS p0 p1 p2=some r):Ctr Tryz.prog 98 [.agg (zaK p0),.int .i64 (p1),.int .i64 (p2)] (.int .i64 (r)):=by
 unfold zaS at H
 refine Ctr.ob Tryz.func98 Tryz.ntmps98 (fun w0 h0 hval=>?_)
 refine W.rg env [1,2,3] [3] ?_
 refine W.seq (W.block (W.seq ?_))
 obtain ⟨y1,hy2,H⟩:=zac H
 refine W.region env [] [⟨.agg [.int .i64 (y1.Lo),.int .i64 (y1.Hi)],[],0,[]⟩,⟨.bool ((zaV y1)),[],0,[]⟩] rfl rfl rfl .nil (.free (zex p0 p1 p2 true hy2) (.free (zeO y1) .nil)) (At.kp [1,2,3,7] [3] ?_)
 refine At.zad (W.co H rfl (fun hb3 H=>?_) (fun hb3 H=>?_))
 · refine W.rg env [6] [] ?_
   refine W.ret (At.rinb ?_)
   refine At.rthen ?_
   cases H
   exact At.rz env hval
 · refine W.seq ?_
   obtain ⟨y4,hy5,H⟩:=zac H
   refine W.region env [] [⟨.agg [.int .i64 (y4.Lo),.int .i64 (y4.Hi)],[],0,[]⟩,⟨.bool ((zaV y4)),[],0,[]⟩] rfl rfl rfl .nil (.free (zex p0 p1 p2 false hy5) (.free (zeO y4) .nil)) (At.kp [13] [] ?_)
   refine At.zad (W.co H rfl (fun hb6 H=>?_) (fun hb6 H=>?_))
   · refine W.rg env [6] [] ?_
     refine W.ret (At.rinb ?_)
     refine At.rthen ?_
     cases H
     exact At.rz env hval
   · refine W.skip (At.inb (At.zad (W.rg env [6] [] ?_)))
     refine W.ret ?_
     cases H
     exact At.rz env hval
theorem zfb (fuel:Nat) (p0:Wear) (p1:Int) (p2:Int) (p3:Int) {r:(Int×Int)} (H:zc0 fuel p0 p1 p2 p3=some r):Ctr Tryz.prog 34 [.agg (zal p0),.int .i64 (p1),.int .i64 (p2),.int .i64 (p3)] (.tup [.int .i64 (r.1),.int .i64 (r.2)]):=by
 unfold zc0 at H
 refine Ctr.ob Tryz.func34 Tryz.ntmps34 (fun w0 h0 hval=>?_)
 refine W.rg env [1,2,3,4] [4] ?_
 refine W.seq ?_
 obtain ⟨y1,hy2,H⟩:=zac H
 refine W.region env [] [⟨.tup [.int .i64 (y1.1),.int .i64 (y1.2)],[],0,[]⟩] rfl rfl rfl .nil (.free (zgo p0 p1 p2 p3 hy2) .nil) (At.kp [2,3,4,10,11] [4] ?_)
 refine At.zad (W.seq (W.rg env [2,3,4,10,11,22] [4] ?_))
 refine W.co H rfl (fun hb3 H=>?_) (fun hb3 H=>?_)
 · refine W.rg env [8,9] [] ?_
   refine W.ret (At.rthen ?_)
   cases H
   exact At.rz env hval
 · refine W.skip (At.zad (W.seq ?_))
   obtain ⟨y4,hy5,H⟩:=zac H
   refine W.region env [] [⟨.tup [.agg (zaK y4.1),.int .i64 (y4.2)],[],0,[]⟩] rfl rfl rfl .nil (.free (zg2 fuel p0 p3 hy5) .nil) (At.kp [2,10,11,12] [12] ?_)
   refine At.zad (W.seq (W.rg env [2,10,11,12,31] [12] ?_))
   refine W.co H rfl (fun hb6 H=>?_) (fun hb6 H=>?_)
   · refine W.rg env [8,9] [] ?_
     refine W.ret (At.rthen ?_)
     cases H
     exact At.rz env hval
   · refine W.skip (At.zad (W.seq ?_))
     obtain ⟨y7,hy8,H⟩:=zac H
     refine W.region env [] [⟨.int .i64 (y7),[],0,[]⟩] rfl rfl rfl .nil (.free (zbB y4.1 y1.1 p2 hy8) .nil) (At.kp [8,9] [] ?_)
     refine At.zad (W.ret ?_)
     cases H
     exact At.rz env hval
theorem zjR (p0:(List Int)) {r:Bool} (H:zeg p0=some r):Ctr Tryz.prog 172 [roL 1 zab p0] (.bool (r)):=by
 unfold zeg at H
 refine Ctr.ob Tryz.func172 Tryz.ntmps172 (fun w0 h0 hval=>?_)
 refine W.rg env [0] [] ?_
 refine W.seq (W.rg env [0,5,6,7] [] ?_)
 refine W.block (At.kp [0,5,6,7] [] ?_)
 refine W.len (t:=5) rfl (fun hn1=>?_)
 refine W.zaq H (fun i1 (s1:Unit)=>[(0,roL 1 zab p0),(5,roL 1 zab p0),(6,.int .i64 (((p0.length:Nat):Int))),(7,.int .i64 ((i1:Int)))]) (fun i1 (s1:Unit)=>[]) (.cons .q (.cons .q (.cons .qi (.cons .qi .nil)))) .nil (fun k1 i1 s1 hle1 H1 H2 K0 hK1=>?_)
 refine W.rg env [0,5,6,7,8] [] ?_
 refine W.seq (W.cond rfl (fun hb2=>?_) (fun hb2=>?_))
 · have hi1:i1<p0.length:=ltD hb2
   have H:=H1 hi1
   refine W.skip (At.zad (W.seq (W.block (W.sr env [] [] [0,3,4,5,6,7] [] rfl rfl rfl (.cons (inD hi1) .nil) .nil ?_))))
   obtain ⟨hc3,H⟩:=zaa H
   obtain ⟨hc4,H⟩:=zaa H
   refine W.sr env [] [⟨.bool ((zaI (p0.getD i1 default))),[],0,[]⟩] [0,5,6,7,27] [] rfl rfl rfl (.cons id (.cons id (.cons hc3 (.cons id (.cons hc4 (.cons id (.cons id (.cons id (.cons id (.cons id (.cons id (.cons (fun hW h=>by revert hW h;first|(simp +contextual;done)|grind) (.cons (fun h=>by rw [h];rfl) .nil))))))))))))) (.free (zc6 (p0.getD i1 default)) .nil) ?_
   refine W.co H rfl (fun hb5 H=>?_) (fun hb5 H=>?_)
   · refine W.rg env [2] [] ?_
     refine W.ret (At.rinb ?_)
     refine At.rthen ?_
     refine At.rthen ?_
     refine At.rinb ?_
     refine At.rthen ?_
     cases H
     exact At.rz env hval
   · refine W.skip (At.inb (At.zad (W.region env [] [] rfl rfl rfl (.cons (incD hi1 hn1) .nil) .nil (At.kp [0,5,6,7] [] ?_))))
     refine At.zaF (At.kp [0,5,6,7] [] ?_)
     exact At.conv (.cons .q (.cons .q (.cons .qi (.cons .qi .nil)))) .nil (hK1 hi1 () H)
 · have H:=H2 (geD hb2)
   refine W.exit (At.xthen (At.xthen (At.xhere (At.zad (W.sr env [] [⟨.bool ((zaC ((p0.length:Nat):Int) 1 20)),[],0,[]⟩] [2] [] rfl rfl rfl .nil (.free (zb8 ((p0.length:Nat):Int) 1 20) .nil) ?_)))))
   refine W.ret ?_
   cases H
   exact At.rz env hval
theorem zjQ (fuel:Nat) (p0:Wear) (p1:(List Int)) (p2:Int) (p3:Int) (p4:Int) {r:(mantle_lot×Int)} (H:zef fuel p0 p1 p2 p3 p4=some r):Ctr Tryz.prog 129 [.agg (zal p0),roL 1 zab p1,.int .i64 (p2),.int .i64 (p3),.int .i64 (p4)] (.tup [.agg (zak r.1),.int .i64 (r.2)]):=by
 unfold zef at H
 refine Ctr.ob Tryz.func129 Tryz.ntmps129 (fun w0 h0 hval=>?_)
 refine W.rg env [1,2,3,4,5,10] [5,10] ?_
 refine W.seq (W.seq ?_)
 obtain ⟨y1,hy2,H⟩:=zac H
 refine W.region env [] [⟨.int .i64 (y1),[],0,[]⟩] rfl rfl rfl .nil (.free (zd9 p0 hy2) .nil) (At.kp [1,2,3,4,5,10,12] [5,10] ?_)
 refine At.zad (W.rg env [1,2,3,4,5,10,12,20] [5,10] ?_)
 refine W.co H rfl (fun hb3 H=>?_) (fun hb3 H=>?_)
 · refine W.rg env [10,11] [10] ?_
   refine W.ret (At.rthen ?_)
   cases H
   exact At.ret env.ty rfl rfl nofun (Sim.tupL (.cons (Sim.aggL (.cons (Sim.nil _ _) (.cons (Sim.nil _ _) (.cons (Sim.nil _ _) (.cons (Sim.nil _ _) (.cons (.refl _) (.cons (Sim.zha (zs:=[.slice none 0 0,.slice none 0 0,.slice none 0 0,.slice none 0 0,.slice none 0 0,.slice none 0 0]) rfl (Sim.aggL (.cons (Sim.nil _ _) (.cons (Sim.nil _ _) (.cons (Sim.nil _ _) (.cons (Sim.nil _ _) (.cons (Sim.nil _ _) (.cons (Sim.nil _ _) .nil)))))))) (.cons (Sim.nil _ _) (.cons (Sim.nil _ _) (.cons (Sim.nil _ _) (.cons (.refl _) .nil))))))))))) (.cons (.refl _) .nil))) hval
 · refine W.skip (At.zad (W.seq (W.block (W.sr env [] [⟨.bool ((zaC p4 0 20)),[],0,[]⟩] [1,2,3,5,10,23] [5,10] rfl rfl rfl .nil (.free (zb8 p4 0 20) .nil) ?_))))
   refine W.co H rfl (fun hb4 H=>?_) (fun hb4 H=>?_)
   · refine W.rg env [10,11] [10] ?_
     refine W.ret (At.rinb ?_)
     refine At.rthen ?_
     cases H
     exact At.ret env.ty rfl rfl nofun (Sim.tupL (.cons (Sim.aggL (.cons (Sim.nil _ _) (.cons (Sim.nil _ _) (.cons (Sim.nil _ _) (.cons (Sim.nil _ _) (.cons (.refl _) (.cons (Sim.zha (zs:=[.slice none 0 0,.slice none 0 0,.slice none 0 0,.slice none 0 0,.slice none 0 0,.slice none 0 0]) rfl (Sim.aggL (.cons (Sim.nil _ _) (.cons (Sim.nil _ _) (.cons (Sim.nil _ _) (.cons (Sim.nil _ _) (.cons (Sim.nil _ _) (.cons (Sim.nil _ _) .nil)))))))) (.cons (Sim.nil _ _) (.cons (Sim.nil _ _) (.cons (Sim.nil _ _) (.cons (.refl _) .nil))))))))))) (.cons (.refl _) .nil))) hval
   · refine W.seq ?_
     obtain ⟨y5,hy6,H⟩:=zac H
     refine W.region env [] [⟨.bool (y5),[],0,[]⟩] rfl rfl rfl .nil (.free (zjR p1 hy6) .nil) (At.kp [1,2,3,5,10,28] [5,10] ?_)
     refine At.zad (W.co H rfl (fun hb7 H=>?_) (fun hb7 H=>?_))
     · refine W.rg env [10,11] [10] ?_
       refine W.ret (At.rinb ?_)
       refine At.rthen ?_
       cases H
       exact At.ret env.ty rfl rfl nofun (Sim.tupL (.cons (Sim.aggL (.cons (Sim.nil _ _) (.cons (Sim.nil _ _) (.cons (Sim.nil _ _) (.cons (Sim.nil _ _) (.cons (.refl _) (.cons (Sim.zha (zs:=[.slice none 0 0,.slice none 0 0,.slice none 0 0,.slice none 0 0,.slice none 0 0,.slice none 0 0]) rfl (Sim.aggL (.cons (Sim.nil _ _) (.cons (Sim.nil _ _) (.cons (Sim.nil _ _) (.cons (Sim.nil _ _) (.cons (Sim.nil _ _) (.cons (Sim.nil _ _) .nil)))))))) (.cons (Sim.nil _ _) (.cons (Sim.nil _ _) (.cons (Sim.nil _ _) (.cons (.refl _) .nil))))))))))) (.cons (.refl _) .nil))) hval
     · refine W.sr env [] [⟨.bool ((zaM p2)),[],0,[]⟩,⟨.bool ((zaM p3)),[],0,[]⟩] [1,2,3,5,10,33] [5,10] rfl rfl rfl (.cons id (.cons id (.cons (fun h=>by rw [h];rfl) .nil))) (.free (zcc p2) (.on (fun hW=>zcc p3) .nil)) ?_
       refine W.co H rfl (fun hb8 H=>?_) (fun hb8 H=>?_)
       · refine W.rg env [10,11] [10] ?_
         refine W.ret (At.rinb ?_)
         refine At.rthen ?_
         cases H
         exact At.ret env.ty rfl rfl nofun (Sim.tupL (.cons (Sim.aggL (.cons (Sim.nil _ _) (.cons (Sim.nil _ _) (.cons (Sim.nil _ _) (.cons (Sim.nil _ _) (.cons (.refl _) (.cons (Sim.zha (zs:=[.slice none 0 0,.slice none 0 0,.slice none 0 0,.slice none 0 0,.slice none 0 0,.slice none 0 0]) rfl (Sim.aggL (.cons (Sim.nil _ _) (.cons (Sim.nil _ _) (.cons (Sim.nil _ _) (.cons (Sim.nil _ _) (.cons (Sim.nil _ _) (.cons (Sim.nil _ _) .nil)))))))) (.cons (Sim.nil _ _) (.cons (Sim.nil _ _) (.cons (Sim.nil _ _) (.cons (.refl _) .nil))))))))))) (.cons (.refl _) .nil))) hval
       · refine W.skip (At.inb (At.zad (W.seq ?_)))
         obtain ⟨y9,hy10,H⟩:=zac H
         refine W.region env [] [⟨.agg (zaK y9),[],0,[]⟩] rfl rfl rfl .nil (.free (zdR fuel p0 p0.Looks p3 hy10) .nil) (At.kp [1,2,3,5,10,13] [5,10,13] ?_)
         refine At.zad (W.seq (W.rg env [2,3,5,10,13,51,52,53] [5,10,13] ?_))
         refine W.block (At.zdF 13 8 1258 3 1 (e:=fun i=>zab (([]:List Int).getD i default)) rfl rfl rfl ?_)
         refine At.kp [2,3,5,10,13,51,52,53] [5,10,13,1258] ?_
         refine W.len (t:=51) rfl (fun hn11=>?_)
         refine W.zaq H (fun i11 (s11:(List Int))=>[(2,.int .i64 (p2)),(3,.int .i64 (p3)),(5,.lp 5 0),(10,.lp 10 0),(13,.lp 13 0),(51,roL 1 zab p1),(52,.int .i64 (((p1.length:Nat):Int))),(53,.int .i64 ((i11:Int)))]) (fun i11 (s11:(List Int))=>[(5,.cells (zal p0)),(10,.cells [.nilS,.nilS,.nilS,.nilS,.int .i64 (0),.nilMap,.nilS,.nilS,.nilS,.int .i64 (0)]),(13,.cells [roL 3 zav y9.w.Batches,roL 6 zao y9.w.Mantles,roL 7 zaA y9.w.Burns,roL 6 zaj y9.w.Looks,.int .i64 (y9.known),romL zz6 zah y9.coats,roL 2 zaJ y9.lives,roL 1 zab p1,.buf 1258 (s11).length,.int .i64 (p2)]),(1258,bufL 3 1 zab s11)]) (.cons .qi (.cons .qi (.cons .q (.cons .q (.cons .q (.cons .q (.cons .qi (.cons .qi .nil)))))))) (.cons .q (.cons (BSim.cells (.cons Sim.o (.cons Sim.o (.cons Sim.o (.cons Sim.o (.cons .q (.cons .q (.cons Sim.o (.cons Sim.o (.cons Sim.o (.cons .q .nil))))))))))) (.cons (BSim.cells (.cons .q (.cons .q (.cons .q (.cons .q (.cons .q (.cons .q (.cons .q (.cons .q (.cons .qc (.cons .q .nil))))))))))) (.cons .q .nil)))) (fun k11 i11 s11 hle11 H1 H2 K0 hK11=>?_)
         refine W.rg env [2,3,5,10,13,51,52,53,54] [5,10,13,1258] ?_
         refine W.seq (W.cond rfl (fun hb12=>?_) (fun hb12=>?_))
         · have hi11:i11<p1.length:=ltD hb12
           have H:=H1 hi11
           refine W.skip (At.zad (W.seq (W.block (W.sr env [] [] [2,3,5,10,13,15,51,52,53] [5,10,13,1258] rfl rfl rfl (.cons (inD hi11) .nil) .nil ?_))))
           refine W.seq ?_
           obtain ⟨y13,hy14,H⟩:=zac H
           refine W.region env [] [⟨.int .i64 (y13),[],0,[]⟩] rfl rfl rfl .nil (.free (zc7 p0 (p1.getD i11 default) p2 p3 hy14) .nil) (At.kp [2,3,5,10,13,16,51,52,53] [5,10,13,1258] ?_)
           refine At.zad (W.seq (W.rg env [2,3,5,10,13,16,51,52,53,63] [5,10,13,1258] ?_))
           refine W.co H rfl (fun hb15 H=>?_) (fun hb15 H=>?_)
           · refine W.rg env [10,11] [10] ?_
             refine W.ret (At.rthen ?_)
             refine At.rinb ?_
             refine At.rthen ?_
             refine At.rthen ?_
             refine At.rinb ?_
             refine At.rthen ?_
             cases H
             exact At.ret env.ty rfl rfl nofun (Sim.tupL (.cons (Sim.aggL (.cons (Sim.nil _ _) (.cons (Sim.nil _ _) (.cons (Sim.nil _ _) (.cons (Sim.nil _ _) (.cons (.refl _) (.cons (Sim.zha (zs:=[.slice none 0 0,.slice none 0 0,.slice none 0 0,.slice none 0 0,.slice none 0 0,.slice none 0 0]) rfl (Sim.aggL (.cons (Sim.nil _ _) (.cons (Sim.nil _ _) (.cons (Sim.nil _ _) (.cons (Sim.nil _ _) (.cons (Sim.nil _ _) (.cons (Sim.nil _ _) .nil)))))))) (.cons (Sim.nil _ _) (.cons (Sim.nil _ _) (.cons (Sim.nil _ _) (.cons (.refl _) .nil))))))))))) (.cons (.refl _) .nil))) hval
           · refine W.skip (At.zad ?_)
             obtain ⟨hc16,H⟩:=zaa H
             refine W.region env [] [] rfl rfl rfl (.cons (rmI hc16) .nil) .nil (At.kp [2,3,5,10,13,51,52,53] [5,10,13,1258] ?_)
             refine At.zbb (.cons (.refl _) (.cons (.refl _) (.cons (.refl _) (.cons (y:=bufL 3 1 zab (s11++([y13]:List Int))) (BSim.seg (Seg.push (Seg.refl zab _) (Seg.lit (f:=zab) (sz:=1) ([y13]:List Int) rfl rfl (fun _=>rfl)))) .nil)))) ?_
             refine At.inb (At.zad (W.region env [] [] rfl rfl rfl (.cons (incD hi11 hn11) .nil) .nil (At.kp [2,3,5,10,13,51,52,53] [5,10,13,1258] ?_)))
             refine At.zaF (At.kp [2,3,5,10,13,51,52,53] [5,10,13,1258] ?_)
             exact At.conv (.cons .qi (.cons .qi (.cons .q (.cons .q (.cons .q (.cons .q (.cons .qi (.cons .qi .nil)))))))) (.cons .q (.cons (BSim.cells (.cons Sim.o (.cons Sim.o (.cons Sim.o (.cons Sim.o (.cons .q (.cons .q (.cons Sim.o (.cons Sim.o (.cons Sim.o (.cons .q .nil))))))))))) (.cons (BSim.cells (.cons .q (.cons .q (.cons .q (.cons .q (.cons .q (.cons .q (.cons .q (.cons .q (.cons .qc (.cons .q .nil))))))))))) (.cons .q .nil)))) (hK11 hi11 (s11++([y13]:List Int)) H)
         · have H:=H2 (geD hb12)
           refine W.exit (At.xthen (At.xthen (At.xhere (At.zad (W.rg env [10,11] [10,1258] ?_)))))
           refine W.ret ?_
           cases H
           exact At.ret env.ty rfl rfl (fun q hq=>by cases hq;exact (by first|rfl|(simp;done)|omega|(simp;omega))) (.refl _) hval
theorem zde (fuel:Nat) (p0:Wear) (p1:(List Int)) (p2:Int) (p3:Int) (p4:Int) {r:(mantle_lot×Int)} (H:zbK fuel p0 p1 p2 p3 p4=some r):Ctr Tryz.prog 95 [.agg (zal p0),roL 1 zab p1,.int .i64 (p2),.int .i64 (p3),.int .i64 (p4)] (.tup [.agg (zak r.1),.int .i64 (r.2)]):=by
 unfold zbK at H
 refine Ctr.ob Tryz.func95 Tryz.ntmps95 (fun w0 h0 hval=>?_)
 refine W.rg env [1,2,3,4,5,10] [5,10] ?_
 refine W.seq ?_
 obtain ⟨y1,hy2,H⟩:=zac H
 refine W.region env [] [⟨.tup [.agg (zak y1.1),.int .i64 (y1.2)],[],0,[]⟩] rfl rfl rfl .nil (.free (zjQ fuel p0 p1 p2 p3 p4 hy2) .nil) (At.kp [10,12,13] [10,12] ?_)
 refine At.zad (W.seq (W.seq ?_))
 obtain ⟨y3,hy4,H⟩:=zac H
 refine W.region env [] [⟨.bool (y3),[],0,[]⟩] rfl rfl rfl (.cons id (.cons id (.cons id (.cons id .nil)))) (.on (fun hW=>zbh y1.1.closet (zbJ hy4 hW)) .nil) (At.kp [10,12,13,30] [10,12] ?_)
 refine At.zad (W.co H rfl (fun hb5 H=>?_) (fun hb5 H=>?_))
 · refine W.rg env [10,11] [10] ?_
   refine W.ret (At.rthen ?_)
   cases H
   exact At.ret env.ty rfl rfl nofun (Sim.tupL (.cons (Sim.aggL (.cons (Sim.nil _ _) (.cons (Sim.nil _ _) (.cons (Sim.nil _ _) (.cons (Sim.nil _ _) (.cons (.refl _) (.cons (Sim.zha (zs:=[.slice none 0 0,.slice none 0 0,.slice none 0 0,.slice none 0 0,.slice none 0 0,.slice none 0 0]) rfl (Sim.aggL (.cons (Sim.nil _ _) (.cons (Sim.nil _ _) (.cons (Sim.nil _ _) (.cons (Sim.nil _ _) (.cons (Sim.nil _ _) (.cons (Sim.nil _ _) .nil)))))))) (.cons (Sim.nil _ _) (.cons (Sim.nil _ _) (.cons (Sim.nil _ _) (.cons (.refl _) .nil))))))))))) (.cons (.refl _) .nil))) hval
 · refine W.skip (At.zad (W.rg env [10,11] [10] ?_))
   refine W.ret ?_
   cases H
   exact At.rz env hval
theorem zcm (p0:mantle_lot) {r:Range} (H:za8 p0=some r):Ctr Tryz.prog 96 [.agg (zak p0)] (.agg [.int .i64 (r.Lo),.int .i64 (r.Hi)]):=by
 unfold za8 at H
 refine Ctr.ob Tryz.func96 Tryz.ntmps96 (fun w0 h0 hval=>?_)
 refine W.rg env [1,2] [1,2] ?_
 refine W.rg env [1,2,3] [1,2,3] ?_
 refine W.seq (W.rg env [1,2,3,7,8,9] [1,2,3] ?_)
 refine W.block (At.kp [1,2,3,7,8,9] [1,2,3] ?_)
 refine W.len (t:=7) rfl (fun hn1=>?_)
 refine W.zaq H (fun i1 (s1:Range)=>[(1,.lp 1 0),(2,.lp 2 0),(3,.lp 3 0),(7,roL 1 zab p0.mantles),(8,.int .i64 (((p0.mantles.length:Nat):Int))),(9,.int .i64 ((i1:Int)))]) (fun i1 (s1:Range)=>[(1,.cells (zak p0)),(2,.cells [.int .i64 (0),.int .i64 (0)]),(3,.cells [.int .i64 (s1.Lo),.int .i64 (s1.Hi)])]) (.cons .q (.cons .q (.cons .q (.cons .q (.cons .qi (.cons .qi .nil)))))) (.cons .q (.cons .q (.cons .q .nil))) (fun k1 i1 s1 hle1 H1 H2 K0 hK1=>?_)
 refine W.rg env [1,2,3,7,8,9,10] [1,2,3] ?_
 refine W.seq (W.cond rfl (fun hb2=>?_) (fun hb2=>?_))
 · have hi1:i1<p0.mantles.length:=ltD hb2
   have H:=H1 hi1
   refine W.skip (At.zad (W.seq (W.block (W.sr env [] [] [1,2,3,5,7,8,9] [1,2,3] rfl rfl rfl (.cons (inD hi1) .nil) .nil ?_))))
   refine W.seq ?_
   obtain ⟨y3,hy4,H⟩:=zac H
   refine W.region env [] [⟨.int .i64 (y3),[],0,[]⟩] rfl rfl rfl .nil (.free (zbB p0.closet (p0.mantles.getD i1 default) p0.night hy4) .nil) (At.kp [1,2,3,7,8,9,18] [1,2,3] ?_)
   refine At.zad (W.block (W.rg env [1,2,3,7,8,9,18,19] [1,2,3] ?_))
   refine W.co H rfl (fun hb5 H=>?_) (fun hb5 H=>?_)
   · obtain ⟨hc6,H⟩:=zaa H
     refine W.sr env [] [] [1,2,3,7,8,9] [1,2,3] rfl rfl rfl (.cons hc6 .nil) .nil ?_
     obtain ⟨hc7,H⟩:=zaa H
     refine W.r1 env hc7 [1,2,3,7,8,9] [1,2,3] ?_
     refine At.inb (At.inb (At.zad (W.region env [] [] rfl rfl rfl (.cons (incD hi1 hn1) .nil) .nil (At.kp [1,2,3,7,8,9] [1,2,3] ?_))))
     refine At.zaF (At.kp [1,2,3,7,8,9] [1,2,3] ?_)
     exact At.conv (.cons .q (.cons .q (.cons .q (.cons .q (.cons .qi (.cons .qi .nil)))))) (.cons .q (.cons .q (.cons .q .nil))) (hK1 hi1 (⟨(s1.Lo+1),(s1.Hi+1)⟩:Range) H)
   · refine W.rg env [1,2,3,7,8,9,29] [1,2,3] ?_
     refine W.co H rfl (fun hb8 H=>?_) (fun hb8 H=>?_)
     · obtain ⟨hc9,H⟩:=zaa H
       refine W.r1 env hc9 [1,2,3,7,8,9] [1,2,3] ?_
       refine At.inb (At.inb (At.zad (W.region env [] [] rfl rfl rfl (.cons (incD hi1 hn1) .nil) .nil (At.kp [1,2,3,7,8,9] [1,2,3] ?_))))
       refine At.zaF (At.kp [1,2,3,7,8,9] [1,2,3] ?_)
       exact At.conv (.cons .q (.cons .q (.cons .q (.cons .q (.cons .qi (.cons .qi .nil)))))) (.cons .q (.cons .q (.cons .q .nil))) (hK1 hi1 (⟨s1.Lo,(s1.Hi+1)⟩:Range) H)
     · refine W.skip (At.inb (At.inb (At.zad (W.region env [] [] rfl rfl rfl (.cons (incD hi1 hn1) .nil) .nil (At.kp [1,2,3,7,8,9] [1,2,3] ?_)))))
       refine At.zaF (At.kp [1,2,3,7,8,9] [1,2,3] ?_)
       exact At.conv (.cons .q (.cons .q (.cons .q (.cons .q (.cons .qi (.cons .qi .nil)))))) (.cons .q (.cons .q (.cons .q .nil))) (hK1 hi1 s1 H)
 · have H:=H2 (geD hb2)
   refine W.exit (At.xthen (At.xthen (At.xhere (At.zad (W.rg env [2] [2] ?_)))))
   refine W.ret ?_
   cases H
   exact At.rz env hval
theorem ziB (fuel:Nat) (p0:Wear) (p1:(List Int)) (p2:Int) (p3:Int) {r:(Range×Int)} (H:zgC fuel p0 p1 p2 p3=some r):Ctr Tryz.prog 33 [.agg (zal p0),roL 1 zab p1,.int .i64 (p2),.int .i64 (p3)] (.tup [.agg [.int .i64 (r.1.Lo),.int .i64 (r.1.Hi)],.int .i64 (r.2)]):=by
 unfold zgC at H
 refine Ctr.ob Tryz.func33 Tryz.ntmps33 (fun w0 h0 hval=>?_)
 refine W.rg env [1,2,3,4,8] [4,8] ?_
 refine W.seq ?_
 obtain ⟨y1,hy2,H⟩:=zac H
 refine W.region env [] [⟨.tup [.agg (zak y1.1),.int .i64 (y1.2)],[],0,[]⟩] rfl rfl rfl .nil (.free (zde fuel p0 p1 p2 p3 0 hy2) .nil) (At.kp [8,10,11] [8,10] ?_)
 refine At.zad (W.seq (W.rg env [8,10,11,21] [8,10] ?_))
 refine W.co H rfl (fun hb3 H=>?_) (fun hb3 H=>?_)
 · refine W.rg env [8,9] [8] ?_
   refine W.ret (At.rthen ?_)
   cases H
   exact At.rz env hval
 · refine W.skip (At.zad (W.seq ?_))
   obtain ⟨y4,hy5,H⟩:=zac H
   refine W.region env [] [⟨.agg [.int .i64 (y4.Lo),.int .i64 (y4.Hi)],[],0,[]⟩] rfl rfl rfl .nil (.free (zcm y1.1 hy5) .nil) (At.kp [8,9] [8] ?_)
   refine At.zad (W.ret ?_)
   cases H
   exact At.rz env hval
theorem zcQ (p0:mantle_lot) {r:(List Int)} (H:za7 p0=some r):Ctr Tryz.prog 124 [.agg (zak p0)] (roL 1 zab r):=by
 unfold za7 at H
 refine Ctr.ob Tryz.func124 Tryz.ntmps124 (fun w0 h0 hval=>?_)
 refine W.rg env [1] [1] ?_
 refine W.rg env [1,3] [1] ?_
 refine W.seq (W.rg env [1,3,7,8,9] [1] ?_)
 refine W.block (At.zfh 3 503 3 1 (e:=fun i=>zab (([]:List Int).getD i default)) rfl rfl ?_)
 refine At.kp [1,3,7,8,9] [1,503] ?_
 refine W.len (t:=7) rfl (fun hn1=>?_)
 refine W.zaq H (fun i1 (s1:(List Int))=>[(1,.lp 1 0),(3,.buf 503 (s1).length),(7,roL 1 zab p0.mantles),(8,.int .i64 (((p0.mantles.length:Nat):Int))),(9,.int .i64 ((i1:Int)))]) (fun i1 (s1:(List Int))=>[(1,.cells (zak p0)),(503,bufL 3 1 zab s1)]) (.cons .q (.cons .qb (.cons .q (.cons .qi (.cons .qi .nil))))) (.cons .q (.cons .q .nil)) (fun k1 i1 s1 hle1 H1 H2 K0 hK1=>?_)
 refine W.rg env [1,3,7,8,9,10] [1,503] ?_
 refine W.seq (W.cond rfl (fun hb2=>?_) (fun hb2=>?_))
 · have hi1:i1<p0.mantles.length:=ltD hb2
   have H:=H1 hi1
   refine W.skip (At.zad (W.seq (W.block (W.sr env [] [] [1,3,4,5,7,8,9] [1,503] rfl rfl rfl (.cons (inD hi1) .nil) .nil ?_))))
   refine W.seq ?_
   obtain ⟨y3,hy4,H⟩:=zac H
   refine W.region env [] [⟨.int .i64 (y3),[],0,[]⟩] rfl rfl rfl .nil (.free (zbB p0.closet (p0.mantles.getD i1 default) p0.night hy4) .nil) (At.kp [1,3,4,7,8,9,20] [1,503] ?_)
   refine At.zad (W.co H rfl (fun hb5 H=>?_) (fun hb5 H=>?_))
   · obtain ⟨hc6,H⟩:=zaa H
     refine W.region env [] [] rfl rfl rfl (.cons (rmI hc6) .nil) .nil (At.kp [1,3,7,8,9] [1,503] ?_)
     refine At.zbb (.cons (.refl _) (.cons (y:=bufL 3 1 zab (s1++([(i1:Int)]:List Int))) (BSim.seg (Seg.push (Seg.refl zab _) (Seg.lit (f:=zab) (sz:=1) ([(i1:Int)]:List Int) rfl rfl (fun _=>rfl)))) .nil)) ?_
     refine At.inb (At.zad (W.region env [] [] rfl rfl rfl (.cons (incD hi1 hn1) .nil) .nil (At.kp [1,3,7,8,9] [1,503] ?_)))
     refine At.zaF (At.kp [1,3,7,8,9] [1,503] ?_)
     exact At.conv (.cons .q (.cons .qb (.cons .q (.cons .qi (.cons .qi .nil))))) (.cons .q (.cons .q .nil)) (hK1 hi1 (s1++([(i1:Int)]:List Int)) H)
   · refine W.skip (At.inb (At.zad (W.region env [] [] rfl rfl rfl (.cons (incD hi1 hn1) .nil) .nil (At.kp [1,3,7,8,9] [1,503] ?_))))
     refine At.zaF (At.kp [1,3,7,8,9] [1,503] ?_)
     exact At.conv (.cons .q (.cons .qb (.cons .q (.cons .qi (.cons .qi .nil))))) (.cons .q (.cons .q .nil)) (hK1 hi1 s1 H)
 · have H:=H2 (geD hb2)
   refine W.exit (At.xthen (At.xthen (At.xhere (At.zad (W.rg env [2] [503] ?_)))))
   refine W.ret ?_
   cases H
   exact At.ret env.ty rfl rfl (fun q hq=>by cases hq;exact (by first|rfl|(simp;done)|omega|(simp;omega))) (.refl _) hval
theorem zmh (p0:(List Range)) {r:(List Range)} (H:zbP p0=some r):Ctr Tryz.prog 196 [roL 2 zaJ p0] (roL 2 zaJ r):=by
 unfold zbP at H
 refine Ctr.ob Tryz.func196 Tryz.ntmps196 (fun w0 h0 hval=>?_)
 refine W.rg env [0] [] ?_
 refine W.seq (W.rg env [0,4] [] ?_)
 refine W.zhL rfl (fun hz=>?_) ?_
 · obtain rfl:p0=[]:=List.length_eq_zero_iff.1 hz
   obtain ⟨hc1,H⟩:=zaa H
   refine W.rg env [2] [] ?_
   refine W.ret (At.rthen ?_)
   cases H
   exact At.ret env.ty rfl rfl nofun (Sim.nil _ _) hval
 · refine W.skip (At.zad (W.seq ?_))
   obtain ⟨hc1,H⟩:=zaa H
   refine W.region env [5] [] rfl rfl rfl (.cons (rmI hc1) .nil) .nil (At.kp [2] [5] ?_)
   refine At.zbb (.cons (y:=bufL 29 2 zaJ (([]:List Range)++p0)) (BSim.seg (Seg.push (Seg.lit (f:=zaJ) (sz:=2) ([]:List Range) rfl rfl (fun _=>rfl)) (Seg.refl zaJ p0))) .nil) ?_
   refine At.zad (W.ret ?_)
   cases H
   exact At.ret env.ty rfl rfl (fun q hq=>by cases hq;exact (by first|rfl|(simp;done)|omega|(simp;omega))) (.refl _) hval
theorem zgj (p0:(List Range)) {r:(List Range)} (H:zbP p0=some r):CtrO Tryz.prog 196 [roL 2 zaJ p0] [] (.buf 900 r.length) [(900,bufL 29 2 zaJ r)]:=by
 unfold zbP at H
 refine CtrO.zb5 (N:=8) Tryz.func196 (by kernel_rfl) (c:=_) rfl Tryz.ntmps196 rfl (fun w0 h0 ρb hval hdom=>?_)
 refine W.rg env [0] [] ?_
 refine W.seq (W.rg env [0,4] [] ?_)
 refine W.zhL rfl (fun hz=>?_) ?_
 · obtain rfl:p0=[]:=List.length_eq_zero_iff.1 hz
   obtain ⟨hc1,H⟩:=zaa H
   refine W.rg env [2] [] ?_
   refine W.ret (At.rthen ?_)
   cases H
   refine At.zfh 2 800 29 2 (e:=fun i=>zaJ (([]:List Range).getD i default)) rfl rfl ?_
   exact At.retK env.ty [800] 100 rfl rfl rfl rfl (.cons (.refl _) .nil) (.of_eq (by refine zhT ?_;first|(simp [zbA];done)|omega|(simp [zbA];omega)|rfl)) hval hdom rfl
 · refine W.skip (At.zad (W.seq ?_))
   obtain ⟨hc1,H⟩:=zaa H
   refine W.region env [5] [] rfl rfl rfl (.cons (rmI hc1) .nil) .nil (At.kp [2] [5] ?_)
   refine At.zbb (.cons (y:=bufL 29 2 zaJ (([]:List Range)++p0)) (BSim.seg (Seg.push (Seg.lit (f:=zaJ) (sz:=2) ([]:List Range) rfl rfl (fun _=>rfl)) (Seg.refl zaJ p0))) .nil) ?_
   refine At.zad (W.ret ?_)
   cases H
   exact At.retK env.ty [5] 895 rfl rfl rfl rfl (.cons (.refl _) .nil) (.of_eq (by refine zhT ?_;first|(simp [zbA];done)|omega|(simp [zbA];omega)|rfl)) hval hdom rfl
theorem zeK (p0:mantle_closet) (p1:Int) (p2:Range) {r:mantle_closet} (H:zbe p0 p1 p2=some r):CtrO Tryz.prog 150 [.agg [roL 3 zav p0.w.Batches,roL 6 zao p0.w.Mantles,roL 7 zaA p0.w.Burns,roL 6 zaj p0.w.Looks,.int .i64 (p0.known),.mp 90000,.buf 90001 (p0.lives).length],.int .i64 (p1),.agg [.int .i64 (p2.Lo),.int .i64 (p2.Hi)]] [(90000,mapL zz6 zah p0.coats),(90001,bufL 29 2 zaJ p0.lives)] (.tup []) [(90000,mapL zz6 zah r.coats),(90001,bufL 29 2 zaJ r.lives)]:=by
 unfold zbe at H
 refine CtrL.zb5 (N:=17) Tryz.func150 (by kernel_rfl) (c:=_) rfl Tryz.ntmps150 rfl rfl (fun w0 h0 ρb hval hdom hent=>?_)
 refine W.rg env [1,3,5] [3,5,90000,90001] ?_
 obtain ⟨hc1,H⟩:=zaa H
 obtain ⟨hc2,H⟩:=zaa H
 refine W.region env [] [⟨.agg [.int .i64 ((zaT (p0.lives.getD (p1).toNat default) p2).Lo),.int .i64 ((zaT (p0.lives.getD (p1).toNat default) p2).Hi)],[],0,[]⟩] rfl rfl (by kernel_rfl) (.cons (⟨by first|rfl|(simp;done)|omega|(simp;omega),hc1⟩) (.cons (⟨by first|rfl|(simp;done)|omega|(simp;omega),(by have:=hc1;first|omega|(simp only [List.length_set];omega)|(simp only [Int.toNat_natCast] at *;omega)|(simp at this ⊢;omega))⟩) (.cons (⟨by first|rfl|(simp;done)|omega|(simp;omega),hc2⟩) (.cons (⟨by first|rfl|(simp;done)|omega|(simp;omega),(by have:=hc2;first|omega|(simp only [List.length_set];omega)|(simp only [Int.toNat_natCast] at *;omega)|(simp at this ⊢;omega))⟩) .nil)))) (.free (zfN (p0.lives.getD (p1).toNat default) p2) .nil) (At.kp [] [90000,90001] ?_)
 refine At.zbb (.cons (.refl _) (.cons (y:=bufL 29 2 zaJ (p0.lives.set (p1).toNat (zaT (p0.lives.getD (p1).toNat default) p2))) (BSim.seg (Seg.set (Seg.refl zaJ _) (zaT (p0.lives.getD (p1).toNat default) p2) rfl)) .nil)) ?_
 refine At.zdN ?_
 cases H
 exact At.retL env.ty [90000,90001] rfl rfl rfl rfl (.cons (.refl _) (.cons (.refl _) .nil)) (.refl _) hval hdom hent rfl rfl
theorem zdk (p0:mantle_lot) (p1:(List Int)) (p2:Bool) {r:mantle_lot} (H:zbn p0 p1 p2=some r):Ctr Tryz.prog 169 [.agg (zak p0),roL 1 zab p1,.bool (p2)] (.agg (zak r)):=by
 unfold zbn at H
 refine Ctr.ob Tryz.func169 Tryz.ntmps169 (fun w0 h0 hval=>?_)
 refine W.rg env [1,2,3,6] [3,6] ?_
 refine W.rg env [1,2,3,6,7] [3,6,7] ?_
 refine W.seq (W.region env [] [] rfl rfl rfl .nil .nil (At.kp [1,2,3,6,7] [3,6,7,14] ?_))
 refine At.zbb (.cons (.refl _) (.cons (.refl _) (.cons (.refl _) (.cons (y:=mapL zz6 zah (Mp.empty:Mp mantle_coat)) (BSim.zoE (f:=zah) (zhn.empty (f:=zah) (Sim.aggL (.cons (Sim.nil _ _) (.cons (Sim.nil _ _) (.cons (Sim.nil _ _) (.cons (Sim.nil _ _) (.cons (Sim.nil _ _) (.cons (Sim.nil _ _) .nil))))))))) .nil)))) ?_
 refine At.zad (W.seq (W.rg env [1,2,3,6,7,20] [3,6,7,14,20] ?_))
 refine W.block (At.kp [1,2,3,6,7,20] [20,3,6,7,14] ?_)
 refine At.zkO 20 rfl (fun left hleft=>?_)
 refine At.kp [1,2,3,6,7,20] [20,3,6,7,14] ?_
 refine W.zkP (S:=List Int) 20 (fun k=>zah ((p0.closet.coats.get k).getD default)) (fun left (s1:List Int)=>left=s1∧left.Nodup∧(∀ k,k∈left→(p0.closet.coats.get k).isSome=true)∧left.length≤p0.closet.coats.card) (fun _=>[(1,roL 1 zab p1),(2,.bool (p2)),(3,.lp 3 0),(6,.lp 6 0),(7,.lp 7 0),(20,.lp 20 0)]) (fun s1=>[(3,.cells (zak p0)),(6,.cells [.nilS,.nilS,.nilS,.nilS,.int .i64 (0),.nilMap,.nilS,.nilS,.nilS,.int .i64 (0)]),(7,.cells [roL 3 zav p0.closet.w.Batches,roL 6 zao p0.closet.w.Mantles,roL 7 zaA p0.closet.w.Burns,roL 6 zaj p0.closet.w.Looks,.int .i64 (p0.closet.known),.mp 14,roL 2 zaJ p0.closet.lives,roL 1 zab p0.lamps,roL 1 zab p0.mantles,.int .i64 (p0.night)]),(14,ziU zz6 zah p0.closet.coats s1)]) (s0:=left) ⟨rfl,hleft.1,fun k hk=>(hleft.2.2 k).2 hk,Nat.le_of_eq hleft.2.1⟩ (.cons (.refl _) (.cons (.refl _) (.cons (.refl _) (.cons (.refl _) (.cons (.refl _) (.cons (.refl _) .nil)))))) (.cons (.refl _) (.cons (.refl _) (.cons (.refl _) (.cons (.refl _) (.cons (BSim.zpr hleft) .nil))))) (fun left1 s1 HJ1 K hK1=>?_)
 obtain ⟨hs1,hnd1,hkd1,hlen1⟩:=HJ1
 subst hs1
 refine W.seq (W.next rfl rfl rfl rfl rfl rfl rfl rfl rfl rfl rfl (fun hz=>?_) (fun q1 left2 hp1=>?_))
 · subst hz
   refine At.kp [1,2,3,6,7,20,22] [20,3,6,7,14] ?_
   refine At.zbb (.cons (.refl _) (.cons (.refl _) (.cons (.refl _) (.cons (.refl _) (.cons BSim.zrg .nil))))) ?_
   refine At.zad (W.seq (W.cond rfl (fun hb3=>by cases hb3) (fun hb3=>?_)))
   refine W.exit (At.xthen (At.xthen (At.xhere (At.zad (W.seq ?_)))))
   obtain ⟨y4,hy5,H⟩:=zac H
   refine W.region env [] [⟨.buf 900 y4.length,[(900,bufL 29 2 zaJ y4)],35000,[]⟩] rfl rfl (by kernel_rfl) .nil (.free ((Ctr.ofO (zgj p0.closet.lives hy5))) .nil) (At.kp [1,2,3,6,7] [3,6,7,14,35900] ?_)
   refine At.zad (W.seq (W.rg env [2,3,6,7,37,38,39] [3,6,7,14,35900] ?_))
   refine W.block (At.kp [2,3,6,7,37,38,39] [3,6,7,14,35900] ?_)
   refine W.len (t:=37) rfl (fun hn6=>?_)
   refine W.zaq H (fun i6 (s6:(List Range)×(Mp mantle_coat))=>[(2,.bool (p2)),(3,.lp 3 0),(6,.lp 6 0),(7,.lp 7 0),(37,roL 1 zab p1),(38,.int .i64 (((p1.length:Nat):Int))),(39,.int .i64 ((i6:Int)))]) (fun i6 (s6:(List Range)×(Mp mantle_coat))=>[(3,.cells (zak p0)),(6,.cells [.nilS,.nilS,.nilS,.nilS,.int .i64 (0),.nilMap,.nilS,.nilS,.nilS,.int .i64 (0)]),(7,.cells [roL 3 zav p0.closet.w.Batches,roL 6 zao p0.closet.w.Mantles,roL 7 zaA p0.closet.w.Burns,roL 6 zaj p0.closet.w.Looks,.int .i64 (p0.closet.known),.mp 14,.buf 35900 (s6.1).length,roL 1 zab p0.lamps,roL 1 zab p0.mantles,.int .i64 (p0.night)]),(14,mapL zz6 zah s6.2),(35900,bufL 29 2 zaJ s6.1)]) (.cons .q (.cons .q (.cons .q (.cons .q (.cons .q (.cons .qi (.cons .qi .nil))))))) (.cons .q (.cons (BSim.cells (.cons Sim.o (.cons Sim.o (.cons Sim.o (.cons Sim.o (.cons .q (.cons .q (.cons Sim.o (.cons Sim.o (.cons Sim.o (.cons .q .nil))))))))))) (.cons (BSim.cells (.cons .q (.cons .q (.cons .q (.cons .q (.cons .q (.cons .q (.cons .qc (.cons .q (.cons .q (.cons .q .nil))))))))))) (.cons .q (.cons .q .nil))))) (fun k6 i6 s6 hle6 H1 H2 K0 hK6=>?_)
   refine W.rg env [2,3,6,7,37,38,39,40] [3,6,7,14,35900] ?_
   refine W.seq (W.cond rfl (fun hb7=>?_) (fun hb7=>?_))
   · have hi6:i6<p1.length:=ltD hb7
     have H:=H1 hi6
     refine W.skip (At.zad (W.seq (W.block (W.sr env [] [] [2,3,6,7,11,37,38,39] [3,6,7,14,35900] rfl rfl rfl (.cons (inD hi6) .nil) .nil ?_))))
     obtain ⟨hc8,H⟩:=zaa H
     refine W.sr env [] [] [2,3,6,7,12,37,38,39] [3,6,7,14,35900] rfl rfl rfl (.cons hc8 .nil) .nil ?_
     refine W.seq ?_
     obtain ⟨y9,hy10,H⟩:=zac H
     refine W.region env [] [⟨.agg (zay y9),[],0,[]⟩] rfl rfl (by kernel_rfl) (.cons rfl .nil) (.free (zdB ((s6.2.get (p0.mantles.getD ((p1.getD i6 default)).toNat default)).getD default) (⟨p0.night,p2⟩:mantle_sight) hy10) .nil) (At.kp [2,3,6,7,12,37,38,39] [3,6,7,14,35900] ?_)
     refine At.zbb (.cons (.refl _) (.cons (.refl _) (.cons (.refl _) (.cons (y:=mapL zz6 zah (s6.2.set (p0.mantles.getD ((p1.getD i6 default)).toNat default) y9)) (BSim.mseg (f:=zah) (MSeg.set (MSeg.refl zah _) y9 rfl)) (.cons (.refl _) .nil))))) ?_
     refine At.zad ?_
     obtain ⟨y11,hy12,H⟩:=zac H
     obtain ⟨y13,hy14,H⟩:=zac H
     obtain ⟨y15,hy16,H⟩:=zac H
     obtain ⟨hc17,H⟩:=zaa H
     refine W.region env [] [⟨.int .i64 (y11),[],0,[]⟩,⟨.agg [.int .i64 (y13.Lo),.int .i64 (y13.Hi)],[],0,[]⟩,⟨.tup [],[(14,mapL zz6 zah y15.coats),(35900,bufL 29 2 zaJ y15.lives)],0,[14,35900]⟩] rfl rfl (by kernel_rfl) (.cons (by first|rfl|(simp;done)|omega|(simp;omega)) (.cons rfl .nil)) (.free (zcR (⟨p0.closet.w,p0.closet.known,(s6.2.set (p0.mantles.getD ((p1.getD i6 default)).toNat default) y9),s6.1⟩:mantle_closet) (p0.mantles.getD ((p1.getD i6 default)).toNat default) hy12) (.free (zdl (((s6.2.set (p0.mantles.getD ((p1.getD i6 default)).toNat default) y9).get (p0.mantles.getD ((p1.getD i6 default)).toNat default)).getD default) hy14) (.free (CtrO.sim (CtrO.ren (zeK (⟨p0.closet.w,p0.closet.known,(s6.2.set (p0.mantles.getD ((p1.getD i6 default)).toNat default) y9),s6.1⟩:mantle_closet) y11 y13 hy16) [(90000,14),(90001,35900)]) (.cons (Sim.aggL (.cons (.refl _) (.cons (.refl _) (.cons (.refl _) (.cons (.refl _) (.cons (.refl _) (.cons (.refl _) (.cons .qc .nil)))))))) (.cons (.refl _) (.cons (.refl _) .nil))) (.cons (.refl _) (.cons (.refl _) .nil))) .nil))) (At.kp [2,3,6,7,37,38,39] [3,6,7,14,35900] ?_)
     refine At.inb (At.zad (W.region env [] [] rfl rfl rfl (.cons (incD hi6 hn6) .nil) .nil (At.kp [2,3,6,7,37,38,39] [3,6,7,14,35900] ?_)))
     refine At.zaF (At.kp [2,3,6,7,37,38,39] [3,6,7,14,35900] ?_)
     exact At.conv (.cons .q (.cons .q (.cons .q (.cons .q (.cons .q (.cons .qi (.cons .qi .nil))))))) (.cons .q (.cons (BSim.cells (.cons Sim.o (.cons Sim.o (.cons Sim.o (.cons Sim.o (.cons .q (.cons .q (.cons Sim.o (.cons Sim.o (.cons Sim.o (.cons .q .nil))))))))))) (.cons (BSim.cells (.cons .q (.cons .q (.cons .q (.cons .q (.cons .q (.cons .q (.cons .qc (.cons .q (.cons .q (.cons .q .nil))))))))))) (.cons .q (.cons .q .nil))))) (hK6 hi6 (y15.lives,y15.coats) H)
   · have H:=H2 (geD hb7)
     refine W.exit (At.xthen (At.xthen (At.xhere (At.zad (W.rg env [6] [6,14,35900] ?_)))))
     refine W.ret ?_
     cases H
     exact At.ret env.ty rfl rfl (fun q hq=>by cases hq;exact (by first|rfl|(simp;done)|omega|(simp;omega))) (.refl _) hval
 · refine At.zad (W.seq (W.cond rfl (fun hb2=>?_) (fun hb2=>by cases hb2)))
   refine W.skip (At.zad (W.block (W.rg env [1,2,3,6,7,8,9,20] [3,6,7,9,14,20] ?_)))
   refine W.region env [] [] rfl rfl rfl .nil .nil (At.kp [1,2,3,6,7,20] [3,6,7,14,20] ?_)
   refine At.inb (At.zaF (At.kp [1,2,3,6,7,20] [20,3,6,7,14] ?_))
   exact At.conv (.cons (.refl _) (.cons (.refl _) (.cons (.refl _) (.cons (.refl _) (.cons (.refl _) (.cons (.refl _) .nil)))))) (.cons (.refl _) (.cons (.refl _) (.cons (.refl _) (.cons (.refl _) (.cons (BSim.zqs (f:=zah) hp1 hnd1 (hkd1 _ (hp1.mem_iff.2 (List.mem_cons_self ..))) hlen1) .nil))))) (hK1 _ left2 left2 hp1 ⟨rfl,(List.nodup_cons.1 (hp1.nodup_iff.1 hnd1)).2,fun k hk=>hkd1 k (hp1.mem_iff.2 (List.mem_cons_of_mem _ hk)),by have:=hp1.length_eq;simp at this;omega⟩)
theorem zc5 (p0:mantle_lot) (p1:(List Int)) (p2:Bool) {r:Int} (H:za2 p0 p1 p2=some r):Ctr Tryz.prog 165 [.agg (zak p0),roL 1 zab p1,.bool (p2)] (.int .i64 (r)):=by
 unfold za2 at H
 refine Ctr.ob Tryz.func165 Tryz.ntmps165 (fun w0 h0 hval=>?_)
 refine W.rg env [1,2,3] [3] ?_
 refine W.seq ?_
 obtain ⟨y1,hy2,H⟩:=zac H
 refine W.region env [] [⟨.agg (zak y1),[],0,[]⟩] rfl rfl rfl .nil (.free (zdk p0 p1 p2 hy2) .nil) (At.kp [3,7] [3,7] ?_)
 refine At.zad (W.rg env [3,7,8] [3,7] ?_)
 refine W.seq (W.seq ?_)
 obtain ⟨y3,hy4,H⟩:=zac H
 refine W.region env [] [⟨roL 1 zab y3,[],0,[]⟩] rfl rfl rfl .nil (.free (zcQ p0 hy4) .nil) (At.kp [3,7,8,16,17,18] [3,7] ?_)
 refine At.zad (W.block (At.kp [3,7,8,16,17,18] [3,7] ?_))
 refine W.len (t:=16) rfl (fun hn5=>?_)
 refine W.zaq H (fun i5 (s5:Int)=>[(3,.lp 3 0),(7,.lp 7 0),(8,.int .i64 (s5)),(16,roL 1 zab y3),(17,.int .i64 (((y3.length:Nat):Int))),(18,.int .i64 ((i5:Int)))]) (fun i5 (s5:Int)=>[(3,.cells (zak p0)),(7,.cells (zak y1))]) (.cons .q (.cons .q (.cons .qi (.cons .q (.cons .qi (.cons .qi .nil)))))) (.cons .q (.cons .q .nil)) (fun k5 i5 s5 hle5 H1 H2 K0 hK5=>?_)
 refine W.rg env [3,7,8,16,17,18,19] [3,7] ?_
 refine W.seq (W.cond rfl (fun hb6=>?_) (fun hb6=>?_))
 · have hi5:i5<y3.length:=ltD hb6
   have H:=H1 hi5
   refine W.skip (At.zad (W.seq (W.block (W.sr env [] [] [3,7,8,10,16,17,18] [3,7] rfl rfl rfl (.cons (inD hi5) .nil) .nil ?_))))
   refine W.seq ?_
   obtain ⟨hc7,H⟩:=zaa H
   obtain ⟨y8,hy9,H⟩:=zac H
   refine W.region env [] [⟨.int .i64 (y8),[],0,[]⟩] rfl rfl (by kernel_rfl) (.cons hc7 .nil) (.free (zbB y1.closet (p0.mantles.getD ((y3.getD i5 default)).toNat default) p0.night hy9) .nil) (At.kp [3,7,8,16,17,18,32] [3,7] ?_)
   refine At.zad (W.co H rfl (fun hb10 H=>?_) (fun hb10 H=>?_))
   · obtain ⟨hc11,H⟩:=zaa H
     refine W.r1 env hc11 [3,7,8,16,17,18] [3,7] ?_
     refine At.inb (At.zad (W.region env [] [] rfl rfl rfl (.cons (incD hi5 hn5) .nil) .nil (At.kp [3,7,8,16,17,18] [3,7] ?_)))
     refine At.zaF (At.kp [3,7,8,16,17,18] [3,7] ?_)
     exact At.conv (.cons .q (.cons .q (.cons .qi (.cons .q (.cons .qi (.cons .qi .nil)))))) (.cons .q (.cons .q .nil)) (hK5 hi5 (s5+1) H)
   · refine W.skip (At.inb (At.zad (W.region env [] [] rfl rfl rfl (.cons (incD hi5 hn5) .nil) .nil (At.kp [3,7,8,16,17,18] [3,7] ?_))))
     refine At.zaF (At.kp [3,7,8,16,17,18] [3,7] ?_)
     exact At.conv (.cons .q (.cons .q (.cons .qi (.cons .q (.cons .qi (.cons .qi .nil)))))) (.cons .q (.cons .q .nil)) (hK5 hi5 s5 H)
 · have H:=H2 (geD hb6)
   refine W.exit (At.xthen (At.xthen (At.xhere (At.zad (W.rg env [6] [] ?_)))))
   refine W.ret ?_
   cases H
   exact At.rz env hval
theorem zhk (p0:mantle_lot) (p1:Int) (p2:Bool) {r:(List (List Int))} (H:zcr p0 p1 p2=some r):Ctr Tryz.prog 163 [.agg (zak p0),.int .i64 (p1),.bool (p2)] (roL 1 zci r):=by
 unfold zcr at H
 refine Ctr.ob Tryz.func163 Tryz.ntmps163 (fun w0 h0 hval=>?_)
 refine W.rg env [1,2,3] [3] ?_
 refine W.rg env [1,2,3,7] [3] ?_
 refine W.seq (W.seq ?_)
 obtain ⟨y1,hy2,H⟩:=zac H
 refine W.region env [] [⟨roL 1 zab y1,[],0,[]⟩] rfl rfl rfl .nil (.free (zcQ p0 hy2) .nil) (At.kp [1,2,3,7,22,23,24] [3] ?_)
 refine At.zad (W.block (At.zfh 7 507 3 1 (e:=fun i=>zab (([]:List Int).getD i default)) rfl rfl ?_))
 refine At.kp [1,2,3,7,22,23,24] [3,507] ?_
 refine W.len (t:=22) rfl (fun hn3=>?_)
 refine W.zaq H (fun i3 (s3:(List Int))=>[(1,.int .i64 (p1)),(2,.bool (p2)),(3,.lp 3 0),(7,.buf 507 (s3).length),(22,roL 1 zab y1),(23,.int .i64 (((y1.length:Nat):Int))),(24,.int .i64 ((i3:Int)))]) (fun i3 (s3:(List Int))=>[(3,.cells (zak p0)),(507,bufL 3 1 zab s3)]) (.cons .qi (.cons .q (.cons .q (.cons .qb (.cons .q (.cons .qi (.cons .qi .nil))))))) (.cons .q (.cons .q .nil)) (fun k3 i3 s3 hle3 H1 H2 K0 hK3=>?_)
 refine W.rg env [1,2,3,7,22,23,24,25] [3,507] ?_
 refine W.seq (W.cond rfl (fun hb4=>?_) (fun hb4=>?_))
 · have hi3:i3<y1.length:=ltD hb4
   have H:=H1 hi3
   refine W.skip (At.zad (W.seq (W.block (W.sr env [] [] [1,2,3,7,9,22,23,24] [3,507] rfl rfl rfl (.cons (inD hi3) .nil) .nil ?_))))
   refine W.seq ?_
   obtain ⟨hc5,H⟩:=zaa H
   obtain ⟨y6,hy7,H⟩:=zac H
   refine W.region env [] [⟨.int .i64 (y6),[],0,[]⟩] rfl rfl (by kernel_rfl) (.cons hc5 .nil) (.free (zcR p0.closet (p0.mantles.getD ((y1.getD i3 default)).toNat default) hy7) .nil) (At.kp [1,2,3,7,9,22,23,24,37] [3,507] ?_)
   refine At.zad (W.co H rfl (fun hb8 H=>?_) (fun hb8 H=>?_))
   · obtain ⟨hc9,H⟩:=zaa H
     refine W.region env [] [] rfl rfl rfl (.cons (rmI hc9) .nil) .nil (At.kp [1,2,3,7,22,23,24] [3,507] ?_)
     refine At.zbb (.cons (.refl _) (.cons (y:=bufL 3 1 zab (s3++([(y1.getD i3 default)]:List Int))) (BSim.seg (Seg.push (Seg.refl zab _) (Seg.lit (f:=zab) (sz:=1) ([(y1.getD i3 default)]:List Int) rfl rfl (fun _=>rfl)))) .nil)) ?_
     refine At.inb (At.zad (W.region env [] [] rfl rfl rfl (.cons (incD hi3 hn3) .nil) .nil (At.kp [1,2,3,7,22,23,24] [3,507] ?_)))
     refine At.zaF (At.kp [1,2,3,7,22,23,24] [3,507] ?_)
     exact At.conv (.cons .qi (.cons .q (.cons .q (.cons .qb (.cons .q (.cons .qi (.cons .qi .nil))))))) (.cons .q (.cons .q .nil)) (hK3 hi3 (s3++([(y1.getD i3 default)]:List Int)) H)
   · refine W.skip (At.inb (At.zad (W.region env [] [] rfl rfl rfl (.cons (incD hi3 hn3) .nil) .nil (At.kp [1,2,3,7,22,23,24] [3,507] ?_))))
     refine At.zaF (At.kp [1,2,3,7,22,23,24] [3,507] ?_)
     exact At.conv (.cons .qi (.cons .q (.cons .q (.cons .qb (.cons .q (.cons .qi (.cons .qi .nil))))))) (.cons .q (.cons .q .nil)) (hK3 hi3 s3 H)
 · have H:=H2 (geD hb4)
   refine W.exit (At.xthen (At.xthen (At.xhere (At.zad (W.seq ?_)))))
   obtain ⟨hc10,H⟩:=zaa H
   obtain ⟨hc11,H⟩:=zaa H
   refine W.region env [] [] rfl rfl rfl (.cons (by first|rfl|(simp;done)|omega|(simp;omega)) (.cons hc10 (.cons hc11 .nil))) .nil (At.kp [2,3,7,10] [3,46,507] ?_)
   refine At.zbb (.cons (.refl _) (.cons (y:=bufL 56 1 (encN 1 zab) (List.replicate ((((s3.length:Nat):Int)+1)).toNat ([]:(List Int)))) (BSim.madeN) (.cons (.refl _) .nil))) ?_
   refine At.zad (W.seq ?_)
   obtain ⟨hc12,H⟩:=zaa H
   obtain ⟨hc13,H⟩:=zaa H
   refine W.region env [] [] rfl rfl rfl (.cons (by first|rfl|(simp;done)|omega|(simp;omega)) (.cons hc12 (.cons hc13 .nil))) .nil (At.kp [2,3,7,10,11] [3,46,50,507] ?_)
   refine At.zbb (.cons (.refl _) (.cons (.refl _) (.cons (y:=bufL 3 1 zab (List.replicate ((((s3.length:Nat):Int)+1)).toNat (0:Int))) (BSim.seg (Seg.made (f:=zab) 0 rfl)) (.cons (.refl _) .nil)))) ?_
   refine At.zad (W.seq (W.sr env [] [] [2,3,7,10,11,51,52,53] [3,46,50,507] rfl rfl rfl (.cons (by first|rfl|(simp;done)|omega|(simp;omega)) .nil) .nil ?_))
   refine W.block (At.kp [2,3,7,10,11,51,52,53] [3,46,50,507] ?_)
   obtain ⟨hn14,H⟩:=zaa H
   refine W.zaq H (fun i14 (s14:(List (List Int))×(List Int))=>[(2,.bool (p2)),(3,.lp 3 0),(7,.buf 507 (s3).length),(10,.buf 46 (s14.1).length),(11,.buf 50 (s14.2).length),(51,.buf 507 (s3).length),(52,.int .i64 (((s3.length:Nat):Int))),(53,.int .i64 ((i14:Int)))]) (fun i14 (s14:(List (List Int))×(List Int))=>[(3,.cells (zak p0)),(46,bufL 56 1 (encN 1 zab) s14.1),(50,bufL 3 1 zab s14.2),(507,bufL 3 1 zab s3)]) (.cons .q (.cons .q (.cons .qb (.cons .qb (.cons .qb (.cons .qb (.cons .qi (.cons .qi .nil)))))))) (.cons .q (.cons .q (.cons .q (.cons .q .nil)))) (fun k14 i14 s14 hle14 H1 H2 K0 hK14=>?_)
   refine W.rg env [2,3,7,10,11,51,52,53,54] [3,46,50,507] ?_
   refine W.seq (W.cond rfl (fun hb15=>?_) (fun hb15=>?_))
   · have hi14:i14<s3.length:=ltD hb15
     have H:=H1 hi14
     refine W.skip (At.zad (W.seq (W.block (W.sr env [] [] [2,3,7,10,11,13,51,52,53] [3,46,50,507] rfl rfl rfl (.cons (⟨by first|rfl|(simp;done)|omega|(simp;omega),(inD hi14)⟩) (.cons (⟨by first|rfl|(simp;done)|omega|(simp;omega),(by have:=(inD hi14);first|omega|(simp only [List.length_set];omega)|(simp only [Int.toNat_natCast] at *;omega)|(simp at this ⊢;omega))⟩) .nil)) .nil ?_))))
     refine W.seq ?_
     obtain ⟨y16,hy17,H⟩:=zac H
     refine W.region env [] [⟨.agg (zak y16),[],0,[]⟩] rfl rfl rfl .nil (.free (Ctr.sim (.cons (.refl _) (.cons (Sim.lit (f:=zab) ([(s3.getD i14 default)]:List Int) rfl rfl (fun _=>rfl)) (.cons (.refl _) .nil))) (zdk p0 ([(s3.getD i14 default)]:List Int) p2 hy17)) .nil) (At.kp [2,3,7,10,11,13,14,51,52,53] [3,14,46,50,507] ?_)
     refine At.zad (W.rg env [2,3,7,10,11,13,14,15,51,52,53] [3,14,46,50,507] ?_)
     refine W.seq (W.sr env [] [] [2,3,7,10,11,13,14,15,51,52,53,62,63,64] [3,14,46,50,507] rfl rfl rfl (.cons (by first|rfl|(simp;done)|omega|(simp;omega)) .nil) .nil ?_)
     refine W.block (At.zfh 15 515 3 1 (e:=fun i=>zab (([]:List Int).getD i default)) rfl rfl ?_)
     refine At.kp [2,3,7,10,11,13,14,15,51,52,53,62,63,64] [3,14,46,50,507,515] ?_
     obtain ⟨hn18,H⟩:=zaa H
     refine W.zaq H (fun i18 (s18:(List Int))=>[(2,.bool (p2)),(3,.lp 3 0),(7,.buf 507 (s3).length),(10,.buf 46 (s14.1).length),(11,.buf 50 (s14.2).length),(13,.int .i64 ((s3.getD i14 default))),(14,.lp 14 0),(15,.buf 515 (s18).length),(51,.buf 507 (s3).length),(52,.int .i64 (((s3.length:Nat):Int))),(53,.int .i64 ((i14:Int))),(62,.buf 507 (s3).length),(63,.int .i64 (((s3.length:Nat):Int))),(64,.int .i64 ((i18:Int)))]) (fun i18 (s18:(List Int))=>[(3,.cells (zak p0)),(14,.cells (zak y16)),(46,bufL 56 1 (encN 1 zab) s14.1),(50,bufL 3 1 zab s14.2),(507,bufL 3 1 zab s3),(515,bufL 3 1 zab s18)]) (.cons .q (.cons .q (.cons .qb (.cons .qb (.cons .qb (.cons .qi (.cons .q (.cons .qb (.cons .qb (.cons .qi (.cons .qi (.cons .qb (.cons .qi (.cons .qi .nil)))))))))))))) (.cons .q (.cons .q (.cons .q (.cons .q (.cons .q (.cons .q .nil)))))) (fun k18 i18 s18 hle18 H1 H2 K0 hK18=>?_)
     refine W.rg env [2,3,7,10,11,13,14,15,51,52,53,62,63,64,65] [3,14,46,50,507,515] ?_
     refine W.seq (W.cond rfl (fun hb19=>?_) (fun hb19=>?_))
     · have hi18:i18<s3.length:=ltD hb19
       have H:=H1 hi18
       refine W.skip (At.zad (W.seq (W.block (W.sr env [] [] [2,3,7,10,11,13,14,15,17,51,52,53,62,63,64] [3,14,46,50,507,515] rfl rfl rfl (.cons (⟨by first|rfl|(simp;done)|omega|(simp;omega),(inD hi18)⟩) (.cons (⟨by first|rfl|(simp;done)|omega|(simp;omega),(by have:=(inD hi18);first|omega|(simp only [List.length_set];omega)|(simp only [Int.toNat_natCast] at *;omega)|(simp at this ⊢;omega))⟩) .nil)) .nil ?_))))
       refine W.seq ?_
       obtain ⟨hc20,H⟩:=zaa H
       obtain ⟨y21,hy22,H⟩:=zac H
       refine W.region env [] [⟨.int .i64 (y21),[],0,[]⟩] rfl rfl (by kernel_rfl) (.cons id (.cons id (.cons hc20 (.cons id (.cons id (.cons id (.cons id (.cons id (.cons id (.cons id (.cons id (.cons id .nil)))))))))))) (.on (fun hW=>zbB y16.closet (p0.mantles.getD ((s3.getD i18 default)).toNat default) p0.night (zbJ hy22 hW)) .nil) (At.kp [2,3,7,10,11,13,14,15,17,51,52,53,62,63,64,83] [3,14,46,50,507,515] ?_)
       refine At.zad (W.co H rfl (fun hb23 H=>?_) (fun hb23 H=>?_))
       · obtain ⟨hc24,H⟩:=zaa H
         refine W.region env [] [] rfl rfl rfl (.cons (rmI hc24) .nil) .nil (At.kp [2,3,7,10,11,13,14,15,51,52,53,62,63,64] [3,14,46,50,507,515] ?_)
         refine At.zbb (.cons (.refl _) (.cons (.refl _) (.cons (.refl _) (.cons (.refl _) (.cons (.refl _) (.cons (y:=bufL 3 1 zab (s18++([(s3.getD i18 default)]:List Int))) (BSim.seg (Seg.push (Seg.refl zab _) (Seg.lit (f:=zab) (sz:=1) ([(s3.getD i18 default)]:List Int) rfl rfl (fun _=>rfl)))) .nil)))))) ?_
         refine At.inb (At.zad (W.region env [] [] rfl rfl rfl (.cons (incD hi18 hn18) .nil) .nil (At.kp [2,3,7,10,11,13,14,15,51,52,53,62,63,64] [3,14,46,50,507,515] ?_)))
         refine At.zaF (At.kp [2,3,7,10,11,13,14,15,51,52,53,62,63,64] [3,14,46,50,507,515] ?_)
         exact At.conv (.cons .q (.cons .q (.cons .qb (.cons .qb (.cons .qb (.cons .qi (.cons .q (.cons .qb (.cons .qb (.cons .qi (.cons .qi (.cons .qb (.cons .qi (.cons .qi .nil)))))))))))))) (.cons .q (.cons .q (.cons .q (.cons .q (.cons .q (.cons .q .nil)))))) (hK18 hi18 (s18++([(s3.getD i18 default)]:List Int)) H)
       · refine W.skip (At.inb (At.zad (W.region env [] [] rfl rfl rfl (.cons (incD hi18 hn18) .nil) .nil (At.kp [2,3,7,10,11,13,14,15,51,52,53,62,63,64] [3,14,46,50,507,515] ?_))))
         refine At.zaF (At.kp [2,3,7,10,11,13,14,15,51,52,53,62,63,64] [3,14,46,50,507,515] ?_)
         exact At.conv (.cons .q (.cons .q (.cons .qb (.cons .qb (.cons .qb (.cons .qi (.cons .q (.cons .qb (.cons .qb (.cons .qi (.cons .qi (.cons .qb (.cons .qi (.cons .qi .nil)))))))))))))) (.cons .q (.cons .q (.cons .q (.cons .q (.cons .q (.cons .q .nil)))))) (hK18 hi18 s18 H)
     · have H:=H2 (geD hb19)
       refine W.exit (At.xthen (At.xthen (At.xhere (At.zad ?_))))
       obtain ⟨hc25,H⟩:=zaa H
       refine W.sr env [] [] [2,3,7,10,11,13,15,51,52,53,91,92] [3,46,50,507,515] rfl rfl rfl (.cons (by first|rfl|(simp;done)|omega|(simp;omega)) (.cons hc25 .nil)) .nil ?_
       refine W.block (At.zq7 515 (K:=[3,46,50,507]) (ts:=[2,3,7,10,11,13,15,51,52,53,91,92]) rfl rfl rfl rfl (.cons (by first|rfl|(simp;done)|omega|(simp;omega)) .nil) .nil (fun _ h=>h) ?_)
       refine At.kp [2,3,7,10,11,13,15,51,52,53,91,92] [3,46,50,507] ?_
       obtain ⟨hn26,H⟩:=zaa H
       refine W.zaq H (fun i26 (s26:(List (List Int))×(List Int))=>[(2,.bool (p2)),(3,.lp 3 0),(7,.buf 507 (s3).length),(10,.buf 46 (s26.1).length),(11,.buf 50 (s26.2).length),(13,.int .i64 ((s3.getD i14 default))),(15,roL 1 zab s18),(51,.buf 507 (s3).length),(52,.int .i64 (((s3.length:Nat):Int))),(53,.int .i64 ((i14:Int))),(91,.int .i64 ((((s3.length:Nat):Int)+1))),(92,.int .i64 ((i26:Int)))]) (fun i26 (s26:(List (List Int))×(List Int))=>[(3,.cells (zak p0)),(46,bufL 56 1 (encN 1 zab) s26.1),(50,bufL 3 1 zab s26.2),(507,bufL 3 1 zab s3)]) (.cons .q (.cons .q (.cons .qb (.cons .qb (.cons .qb (.cons .qi (.cons .q (.cons .qb (.cons .qi (.cons .qi (.cons .qi (.cons .qi .nil)))))))))))) (.cons .q (.cons .q (.cons .q (.cons .q .nil)))) (fun k26 i26 s26 hle26 H1 H2 K0 hK26=>?_)
       refine W.rg env [2,3,7,10,11,13,15,51,52,53,91,92,93] [3,46,50,507] ?_
       refine W.seq (W.cond rfl (fun hb27=>?_) (fun hb27=>?_))
       · have hi26:i26<((((s3.length:Nat):Int)+1)).toNat:=by have:=of_decide_eq_true hb27;omega
         have H:=H1 hi26
         refine W.skip (At.zad (W.seq (W.zjO H (fun (s28:(List (List Int))×(List Int))=>[(2,.bool (p2)),(3,.lp 3 0),(7,.buf 507 (s3).length),(10,.buf 46 (s28.1).length),(11,.buf 50 (s28.2).length),(13,.int .i64 ((s3.getD i14 default))),(15,roL 1 zab s18),(51,.buf 507 (s3).length),(52,.int .i64 (((s3.length:Nat):Int))),(53,.int .i64 ((i14:Int))),(91,.int .i64 ((((s3.length:Nat):Int)+1))),(92,.int .i64 ((i26:Int)))]) (fun (s28:(List (List Int))×(List Int))=>[(3,.cells (zak p0)),(46,bufL 56 1 (encN 1 zab) s28.1),(50,bufL 3 1 zab s28.2),(507,bufL 3 1 zab s3)]) (fun s28 H=>?_) (fun k28 H hK28=>?_))))
         · refine W.region env [] [] rfl rfl rfl (.cons (incD hi26 hn26) .nil) .nil (At.kp [2,3,7,10,11,13,15,51,52,53,91,92] [3,46,50,507] ?_)
           refine At.zaF (At.kp [2,3,7,10,11,13,15,51,52,53,91,92] [3,46,50,507] ?_)
           exact At.conv (.cons .q (.cons .q (.cons .qb (.cons .qb (.cons .qb (.cons .qi (.cons .q (.cons .qb (.cons .qi (.cons .qi (.cons .qi (.cons .qi .nil)))))))))))) (.cons .q (.cons .q (.cons .q (.cons .q .nil)))) (hK26 hi26 (s28.1,s28.2) H)
         · refine W.block (W.rg env [2,3,7,10,11,13,15,18,51,52,53,91,92] [3,46,50,507] ?_)
           refine W.seq (W.rg env [2,3,7,10,11,13,15,18,51,52,53,91,92,96] [3,46,50,507] ?_)
           refine W.co H rfl (fun hb29 H=>?_) (fun hb29 H=>?_)
           · refine W.exit (At.xthen (At.xhere (At.zaF (At.kp [2,3,7,10,11,13,15,51,52,53,91,92] [3,46,50,507] ?_))))
             exact At.conv (.cons .q (.cons .q (.cons .qb (.cons .qb (.cons .qb (.cons .qi (.cons .q (.cons .qb (.cons .qi (.cons .qi (.cons .qi (.cons .qi .nil)))))))))))) (.cons .q (.cons .q (.cons .q (.cons .q .nil)))) (hK28 (s26.1,s26.2) H)
           · refine W.skip (At.zad (W.seq ?_))
             obtain ⟨hc30,H⟩:=zaa H
             obtain ⟨hc31,H⟩:=zaa H
             obtain ⟨hc32,H⟩:=zaa H
             refine W.region env [98,16777322] [] rfl rfl rfl (.cons hc30 (.cons hc31 (.cons (⟨(by first|rfl|(simp;done)|omega|(simp;omega)),(rmI hc32)⟩) .nil))) .nil (At.kp [2,3,7,10,11,13,15,18,19,51,52,53,91,92] [3,46,50,507] ?_)
             refine At.slot (t:=19) (v:=roL 1 zab (([(s3.getD i14 default)]:List Int)++(s18.take ((min ((i26:Int) - 1) ((s18.length:Nat):Int))).toNat))) (Sim.seg (Seg.push (Seg.lit (f:=zab) (sz:=1) ([(s3.getD i14 default)]:List Int) rfl rfl (fun _=>rfl)) (Seg.take zab s18 (((min ((i26:Int) - 1) ((s18.length:Nat):Int))).toNat) (by omega)))) ?_
             refine At.zad (W.seq ?_)
             obtain ⟨y33,hy34,H⟩:=zac H
             refine W.region env [] [⟨.int .i64 (y33),[],0,[]⟩] rfl rfl rfl .nil (.free (zc5 p0 (([(s3.getD i14 default)]:List Int)++(s18.take ((min ((i26:Int) - 1) ((s18.length:Nat):Int))).toNat)) p2 hy34) .nil) (At.kp [2,3,7,10,11,13,15,18,19,20,51,52,53,91,92] [3,46,50,507] ?_)
             refine At.zad ?_
             obtain ⟨hc35,H⟩:=zaa H
             obtain ⟨hc36,H⟩:=zaa H
             refine W.sr env [] [] [2,3,7,10,11,13,15,18,19,20,51,52,53,91,92,123] [3,46,50,507] rfl rfl rfl (.cons (⟨by first|rfl|(simp;done)|omega|(simp;omega),hc35⟩) (.cons (⟨by first|rfl|(simp;done)|omega|(simp;omega),(by have:=hc35;first|omega|(simp only [List.length_set];omega)|(simp only [Int.toNat_natCast] at *;omega)|(simp at this ⊢;omega))⟩) (.cons (fun hW=>⟨by first|rfl|(simp;done)|omega|(simp;omega),hc36 hW⟩) (.cons id (.cons id (.cons (fun hW=>(⟨by first|rfl|(simp;done)|omega|(simp;omega),(by have:=hc36 hW;first|omega|(simp only [List.length_set];omega)|(simp only [Int.toNat_natCast] at *;omega)|(simp at this ⊢;omega))⟩)) (.cons id (.cons id (.cons id (.cons (fun h=>by rw [h];rfl) .nil)))))))))) .nil ?_
             refine W.co H rfl (fun hb37 H=>?_) (fun hb37 H=>?_)
             · obtain ⟨hc38,H⟩:=zaa H
               obtain ⟨hc39,H⟩:=zaa H
               obtain ⟨hc40,H⟩:=zaa H
               refine W.region env [] [] rfl rfl rfl (.cons (⟨by first|rfl|(simp;done)|omega|(simp;omega),hc38⟩) (.cons (⟨by first|rfl|(simp;done)|omega|(simp;omega),(by have:=hc38;first|omega|(simp only [List.length_set];omega)|(simp only [Int.toNat_natCast] at *;omega)|(simp at this ⊢;omega))⟩) (.cons (⟨by first|rfl|(simp;done)|omega|(simp;omega),hc40⟩) (.cons (⟨by first|rfl|(simp;done)|omega|(simp;omega),(by have:=hc40;first|omega|(simp only [List.length_set];omega)|(simp only [Int.toNat_natCast] at *;omega)|(simp at this ⊢;omega))⟩) .nil)))) .nil (At.kp [2,3,7,10,11,13,15,51,52,53,91,92] [3,46,50,507] ?_)
               refine At.zbb (.cons (.refl _) (.cons (y:=bufL 56 1 (encN 1 zab) (s26.1.set i26 (([(s3.getD i14 default)]:List Int)++(s18.take ((min ((i26:Int) - 1) ((s18.length:Nat):Int))).toNat)))) (BSim.setS (Seg.refl (encN 1 zab) _) (([(s3.getD i14 default)]:List Int)++(s18.take ((min ((i26:Int) - 1) ((s18.length:Nat):Int))).toNat)) (.cons (Sim.nsOf hc39) .nil)) (.cons (y:=bufL 3 1 zab (s26.2.set i26 y33)) (BSim.seg (Seg.set (Seg.refl zab _) y33 rfl)) (.cons (.refl _) .nil)))) ?_
               refine At.inb (At.zaF (At.kp [2,3,7,10,11,13,15,51,52,53,91,92] [3,46,50,507] ?_))
               exact At.conv (.cons .q (.cons .q (.cons .qb (.cons .qb (.cons .qb (.cons .qi (.cons .q (.cons .qb (.cons .qi (.cons .qi (.cons .qi (.cons .qi .nil)))))))))))) (.cons .q (.cons .q (.cons .q (.cons .q .nil)))) (hK28 ((s26.1.set i26 (([(s3.getD i14 default)]:List Int)++(s18.take ((min ((i26:Int) - 1) ((s18.length:Nat):Int))).toNat))),(s26.2.set i26 y33)) H)
             · refine W.skip (At.inb (At.zaF (At.kp [2,3,7,10,11,13,15,51,52,53,91,92] [3,46,50,507] ?_)))
               exact At.conv (.cons .q (.cons .q (.cons .qb (.cons .qb (.cons .qb (.cons .qi (.cons .q (.cons .qb (.cons .qi (.cons .qi (.cons .qi (.cons .qi .nil)))))))))))) (.cons .q (.cons .q (.cons .q (.cons .q .nil)))) (hK28 (s26.1,s26.2) H)
       · have H:=H2 (geD hb27)
         refine W.exit (At.xthen (At.xthen (At.xhere (At.inb (At.zad (W.region env [] [] rfl rfl rfl (.cons (incD hi14 hn14) .nil) .nil (At.kp [2,3,7,10,11,51,52,53] [3,46,50,507] ?_)))))))
         refine At.zaF (At.kp [2,3,7,10,11,51,52,53] [3,46,50,507] ?_)
         exact At.conv (.cons .q (.cons .q (.cons .qb (.cons .qb (.cons .qb (.cons .qb (.cons .qi (.cons .qi .nil)))))))) (.cons .q (.cons .q (.cons .q (.cons .q .nil)))) (hK14 hi14 (s26.1,s26.2) H)
   · have H:=H2 (geD hb15)
     refine W.exit (At.xthen (At.xthen (At.xhere (At.zad (W.rg env [6] [46] ?_)))))
     refine W.ret ?_
     cases H
     exact At.ret env.ty rfl rfl (fun q hq=>by cases hq;exact (by first|rfl|(simp;done)|omega|(simp;omega))) Sim.roN hval
theorem zfT (p1:Int) {r:(List Int)} (H:zcx p1=some r):CtrO Tryz.prog 195 [.nilS,.int .i64 p1] [] (.buf 900 r.length) [(900,bufL 3 1 zab r)]:=by
 unfold zcx at H
 refine CtrO.zb5 (N:=27) Tryz.func195 (by kernel_rfl) (c:=_) rfl Tryz.ntmps195 rfl (fun w0 h0 ρb hval hdom=>?_)
 refine W.rg env [0,1] [] ?_
 refine W.seq (W.rg env [0,1,6] [] ?_)
 refine W.zjO H (fun (s1:Unit)=>[(0,.nilS),(1,.int .i64 (p1))]) (fun (s1:Unit)=>[]) (fun s1 H=>?_) (fun k1 H hK1=>?_)
 · refine W.seq ?_
   obtain ⟨hc2,H⟩:=zaa H
   obtain ⟨hc3,H⟩:=zaa H
   refine W.sr env [] [] [0,1] [] rfl rfl rfl (.cons hc2 (.cons hc3 .nil)) .nil ?_
   refine W.rg env [0,1,16] [] ?_
   refine W.co H rfl (fun hb4 H=>?_) (fun hb4 H=>?_)
   · obtain ⟨hc5,H⟩:=zaa H
     obtain ⟨hc6,H⟩:=zaa H
     refine W.region env [] [] rfl rfl rfl (.cons rfl (.cons hc5 (.cons (⟨by first|rfl|(simp;done)|omega|(simp;omega),(by first|exact hc6|simpa using hc6)⟩) .nil))) .nil (At.kp [0] [22] ?_)
     refine At.zbb (.cons (y:=bufL 3 1 zab (List.replicate ((p1 - (0 - 0))).toNat (0:Int))) (BSim.seg (Seg.made (f:=zab) 0 rfl)) .nil) ?_
     refine At.zad (W.rg env [4] [22] ?_)
     refine W.ret ?_
     cases H
     refine At.shrink 4 22 850 (K:=[]) (ts:=[]) rfl rfl (by first|rfl|(simp;done)|omega|(simp;omega)) (by have:=hc6;omega) rfl rfl rfl rfl ?_
     refine At.zbb (.cons (y:=bufL 3 1 zab ((List.replicate ((p1 - (0 - 0))).toNat (0:Int)).take 0)) (BSim.seg (Seg.first (Seg.refl zab _) (by have:=hc6;omega))) .nil) ?_
     exact At.retK env.ty [850] 50 rfl rfl rfl rfl (.cons (.refl _) .nil) (.of_eq (by refine zhT ?_;first|(simp [zbA];done)|omega|(simp [zbA];omega)|rfl)) hval hdom rfl
   · refine W.skip (At.zad (W.rg env [4] [] ?_))
     refine W.ret ?_
     cases H
     refine At.zfh 4 800 3 1 (e:=fun i=>zab (([]:List Int).getD i default)) rfl rfl ?_
     exact At.retK env.ty [800] 100 rfl rfl rfl rfl (.cons (.refl _) .nil) (.of_eq (by refine zhT ?_;first|(simp [zbA];done)|omega|(simp [zbA];omega)|rfl)) hval hdom rfl
 · refine W.co H rfl (fun hb7 H=>?_) (fun hb7 H=>?_)
   · cases H
   · refine W.skip (At.zaF (At.kp [0,1] [] ?_))
     exact At.conv (.cons Sim.o (.cons .qi .nil)) .nil (hK1 () H)
theorem zhi (p0:(List (List Int))) {r:(List Int)} (H:zcq p0=some r):Ctr Tryz.prog 164 [roL 1 zci p0] (roL 1 zab r):=by
 unfold zcq at H
 refine Ctr.ob Tryz.func164 Tryz.ntmps164 (fun w0 h0 hval=>?_)
 refine W.rg env [0] [] ?_
 refine W.rg env [0,3] [] ?_
 refine W.seq (W.rg env [0,3,9,10,11] [] ?_)
 refine W.block (At.kp [0,3,9,10,11] [] ?_)
 refine W.len (t:=9) rfl (fun hn1=>?_)
 refine W.zaq H (fun i1 (s1:Int)=>[(0,roL 1 zci p0),(3,.int .i64 (s1)),(9,roL 1 zci p0),(10,.int .i64 (((p0.length:Nat):Int))),(11,.int .i64 ((i1:Int)))]) (fun i1 (s1:Int)=>[]) (.cons .q (.cons .qi (.cons .q (.cons .qi (.cons .qi .nil))))) .nil (fun k1 i1 s1 hle1 H1 H2 K0 hK1=>?_)
 refine W.rg env [0,3,9,10,11,12] [] ?_
 refine W.seq (W.cond rfl (fun hb2=>?_) (fun hb2=>?_))
 · have hi1:i1<p0.length:=ltD hb2
   have H:=H1 hi1
   refine W.skip (At.zad (W.seq (W.block (W.sr env [] [] [0,3,5,9,10,11] [] rfl rfl rfl (.cons (inD hi1) .nil) .nil ?_))))
   obtain ⟨hc3,H⟩:=zaa H
   refine W.sr env [] [] [0,3,9,10,11] [] rfl rfl rfl (.cons hc3 .nil) .nil ?_
   refine W.rg env [0,3,9,10,11,20] [] ?_
   refine W.co H rfl (fun hb4 H=>?_) (fun hb4 H=>?_)
   · cases H
   · refine W.skip (At.inb (At.zad (W.region env [] [] rfl rfl rfl (.cons (incD hi1 hn1) .nil) .nil (At.kp [0,3,9,10,11] [] ?_))))
     refine At.zaF (At.kp [0,3,9,10,11] [] ?_)
     exact At.conv (.cons .q (.cons .qi (.cons .q (.cons .qi (.cons .qi .nil))))) .nil (hK1 hi1 (s1+(((p0.getD i1 default).length:Nat):Int)) H)
 · have H:=H2 (geD hb2)
   refine W.exit (At.xthen (At.xthen (At.xhere (At.zad (W.seq ?_)))))
   obtain ⟨y5,hy6,H⟩:=zac H
   refine W.region env [] [⟨.buf 900 y5.length,[(900,bufL 3 1 zab y5)],25000,[]⟩] rfl rfl (by kernel_rfl) .nil (.free (Ctr.ofO (zfT s1 hy6)) .nil) (At.kp [0,6] [25900] ?_)
   refine At.zad (W.seq (W.rg env [6,25,26,27] [25900] ?_))
   refine W.block (At.kp [6,25,26,27] [25900] ?_)
   refine W.len (t:=25) rfl (fun hn7=>?_)
   refine W.zaq H (fun i7 (s7:(List Int))=>[(6,.buf 25900 (s7).length),(25,roL 1 zci p0),(26,.int .i64 (((p0.length:Nat):Int))),(27,.int .i64 ((i7:Int)))]) (fun i7 (s7:(List Int))=>[(25900,bufL 3 1 zab s7)]) (.cons .qb (.cons .q (.cons .qi (.cons .qi .nil)))) (.cons .q .nil) (fun k7 i7 s7 hle7 H1 H2 K0 hK7=>?_)
   refine W.rg env [6,25,26,27,28] [25900] ?_
   refine W.seq (W.cond rfl (fun hb8=>?_) (fun hb8=>?_))
   · have hi7:i7<p0.length:=ltD hb8
     have H:=H1 hi7
     refine W.skip (At.zad (W.seq (W.block (W.sr env [] [] [6,8,25,26,27] [25900] rfl rfl rfl (.cons (inD hi7) .nil) .nil ?_))))
     obtain ⟨hc9,H⟩:=zaa H
     refine W.region env [] [] rfl rfl rfl (.cons (rmI hc9) .nil) .nil (At.kp [6,25,26,27] [25900] ?_)
     refine At.zbb (.cons (y:=bufL 3 1 zab (s7++(p0.getD i7 default))) (BSim.seg (Seg.push (Seg.refl zab _) (Seg.refl zab (p0.getD i7 default)))) .nil) ?_
     refine At.inb (At.zad (W.region env [] [] rfl rfl rfl (.cons (incD hi7 hn7) .nil) .nil (At.kp [6,25,26,27] [25900] ?_)))
     refine At.zaF (At.kp [6,25,26,27] [25900] ?_)
     exact At.conv (.cons .qb (.cons .q (.cons .qi (.cons .qi .nil)))) (.cons .q .nil) (hK7 hi7 (s7++(p0.getD i7 default)) H)
   · have H:=H2 (geD hb8)
     refine W.exit (At.xthen (At.xthen (At.xhere (At.zad (W.rg env [2] [25900] ?_)))))
     refine W.ret ?_
     cases H
     exact At.ret env.ty rfl rfl (fun q hq=>by cases hq;exact (by first|rfl|(simp;done)|omega|(simp;omega))) (.refl _) hval
end Go.Sp
