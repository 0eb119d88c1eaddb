/- Printed by gen.py: contracts, part 2. -/
import Derived.Test.YtakjeajlmlmkeaaGreatCtr1
set_option linter.all false
set_option maxRecDepth 100000
set_option maxHeartbeats 1000000
namespace Go.Sp
open Go Go.Av Go.Proofs
theorem zex (fuel:Nat) (p0:Wear) (p1:(List Int)) (p2:Int) (p3:Int) (p4:Int) {r:(mantle_lot×Int)} (H:zc7 fuel p0 p1 p2 p3 p4=some r):Ctr Tryz.prog 95 [.agg [roL 3 zad p0.Batches,roL 6 zaa p0.Mantles,roL 7 zaf p0.Burns,roL 6 zac p0.Looks],roL 1 zae p1,.int .i64 (p2),.int .i64 (p3),.int .i64 (p4)] (.tup [.agg [roL 3 zad r.1.closet.w.Batches,roL 6 zaa r.1.closet.w.Mantles,roL 7 zaf r.1.closet.w.Burns,roL 6 zac r.1.closet.w.Looks,.int .i64 (r.1.closet.known),romL (.agg #[.slice none 0 0,.slice none 0 0,.slice none 0 0,.slice none 0 0,.slice none 0 0,.slice none 0 0]) (fun (x:mantle_coat)=>.agg [roL 3 zad x.w.Batches,roL 6 zaa x.w.Mantles,roL 7 zaf x.w.Burns,roL 6 zac x.w.Looks,roL 1 zae x.burns,roL 2 zab x.sights]) r.1.closet.coats,roL 2 zao r.1.closet.lives,roL 1 zae r.1.lamps,roL 1 zae r.1.mantles,.int .i64 (r.1.night)],.int .i64 (r.2)]):=by
 unfold zc7 at H
 refine Ctr.zap (N:=34) Tryz.func95 (by kernel_rfl) (c:=_) rfl Tryz.ntmps95 rfl (fun w0 h0 hval=>?_)
 refine W.rg env [1,2,3,4,5,10] [5,10] ?_
 refine W.seq ?_
 obtain ⟨y1,hy2,H⟩:=zah H
 refine W.region env [] [⟨.tup [.agg [roL 3 zad y1.1.closet.w.Batches,roL 6 zaa y1.1.closet.w.Mantles,roL 7 zaf y1.1.closet.w.Burns,roL 6 zac y1.1.closet.w.Looks,.int .i64 (y1.1.closet.known),romL (.agg #[.slice none 0 0,.slice none 0 0,.slice none 0 0,.slice none 0 0,.slice none 0 0,.slice none 0 0]) (fun (x:mantle_coat)=>.agg [roL 3 zad x.w.Batches,roL 6 zaa x.w.Mantles,roL 7 zaf x.w.Burns,roL 6 zac x.w.Looks,roL 1 zae x.burns,roL 2 zab x.sights]) y1.1.closet.coats,roL 2 zao y1.1.closet.lives,roL 1 zae y1.1.lamps,roL 1 zae y1.1.mantles,.int .i64 (y1.1.night)],.int .i64 (y1.2)],[],0,[]⟩] rfl rfl rfl .nil (.free (zig fuel p0 p1 p2 p3 p4 hy2) .nil) (At.keep (ts:=[10,12,13]) (ids:=[10,12]) rfl rfl ?_)
 refine At.zai ?_
 refine W.seq ?_
 refine W.seq ?_
 obtain ⟨y3,hy4,H⟩:=zah H
 refine W.region env [] [⟨.bool (y3),[],0,[]⟩] rfl rfl rfl (.cons id (.cons id (.cons id (.cons id .nil)))) (.on (fun hW=>za6 y1.1.closet (zam hy4 hW)) .nil) (At.keep (ts:=[10,12,13,30]) (ids:=[10,12]) rfl rfl ?_)
 refine At.zai ?_
 refine W.cond rfl (fun hb5=>?_) (fun hb5=>?_)
 · have H:=zam H hb5
   refine W.rg env [10,11] [10] ?_
   refine W.ret ?_
   refine At.rthen ?_
   cases H
   exact At.ret env.ty rfl rfl nofun (Sim.tupL (.cons (Sim.aggL (.cons (Sim.nil _ _) (.cons (Sim.nil _ _) (.cons (Sim.nil _ _) (.cons (Sim.nil _ _) (.cons (.refl _) (.cons (Sim.zf4 (zs:=[.slice none 0 0,.slice none 0 0,.slice none 0 0,.slice none 0 0,.slice none 0 0,.slice none 0 0]) rfl (Sim.aggL (.cons (Sim.nil _ _) (.cons (Sim.nil _ _) (.cons (Sim.nil _ _) (.cons (Sim.nil _ _) (.cons (Sim.nil _ _) (.cons (Sim.nil _ _) .nil)))))))) (.cons (Sim.nil _ _) (.cons (Sim.nil _ _) (.cons (Sim.nil _ _) (.cons (.refl _) .nil))))))))))) (.cons (.refl _) .nil))) hval
 · have H:=zal H hb5
   refine W.skip ?_
   refine At.zai ?_
   refine W.rg env [10,11] [10] ?_
   refine W.ret ?_
   cases H
   exact At.ret env.ty rfl rfl nofun (.refl _) hval
theorem zcJ (p0:mantle_lot) {r:Range} (H:zbD p0=some r):Ctr Tryz.prog 96 [.agg [roL 3 zad p0.closet.w.Batches,roL 6 zaa p0.closet.w.Mantles,roL 7 zaf p0.closet.w.Burns,roL 6 zac p0.closet.w.Looks,.int .i64 (p0.closet.known),romL (.agg #[.slice none 0 0,.slice none 0 0,.slice none 0 0,.slice none 0 0,.slice none 0 0,.slice none 0 0]) (fun (x:mantle_coat)=>.agg [roL 3 zad x.w.Batches,roL 6 zaa x.w.Mantles,roL 7 zaf x.w.Burns,roL 6 zac x.w.Looks,roL 1 zae x.burns,roL 2 zab x.sights]) p0.closet.coats,roL 2 zao p0.closet.lives,roL 1 zae p0.lamps,roL 1 zae p0.mantles,.int .i64 (p0.night)]] (.agg [.int .i64 (r.Lo),.int .i64 (r.Hi)]):=by
 unfold zbD at H
 refine Ctr.zap (N:=37) Tryz.func96 (by kernel_rfl) (c:=_) rfl Tryz.ntmps96 rfl (fun w0 h0 hval=>?_)
 refine W.rg env [1,2] [1,2] ?_
 refine W.rg env [1,2,3] [1,2,3] ?_
 refine W.seq ?_
 refine W.rg env [1,2,3,7,8,9] [1,2,3] ?_
 refine W.block ?_
 refine At.keep (ts:=[1,2,3,7,8,9]) (ids:=[1,2,3]) rfl rfl ?_
 refine W.len (t:=7) rfl (fun (hn1:p0.mantles.length≤maxLen)=>?_)
 refine W.zau H (fun i1 (s1:Range)=>[(1,.lp 1 0),(2,.lp 2 0),(3,.lp 3 0),(7,roL 1 zae p0.mantles),(8,.int .i64 (((p0.mantles.length:Nat):Int))),(9,.int .i64 ((i1:Int)))]) (fun i1 (s1:Range)=>[(1,.cells [roL 3 zad p0.closet.w.Batches,roL 6 zaa p0.closet.w.Mantles,roL 7 zaf p0.closet.w.Burns,roL 6 zac p0.closet.w.Looks,.int .i64 (p0.closet.known),romL (.agg #[.slice none 0 0,.slice none 0 0,.slice none 0 0,.slice none 0 0,.slice none 0 0,.slice none 0 0]) (fun (x:mantle_coat)=>.agg [roL 3 zad x.w.Batches,roL 6 zaa x.w.Mantles,roL 7 zaf x.w.Burns,roL 6 zac x.w.Looks,roL 1 zae x.burns,roL 2 zab x.sights]) p0.closet.coats,roL 2 zao p0.closet.lives,roL 1 zae p0.lamps,roL 1 zae p0.mantles,.int .i64 (p0.night)]),(2,.cells [.int .i64 (0),.int .i64 (0)]),(3,.cells [.int .i64 (s1.Lo),.int .i64 (s1.Hi)])]) (.cons .q (.cons .q (.cons .q (.cons .q (.cons .qi (.cons .qi .nil)))))) (.cons .q (.cons .q (.cons .q .nil))) (fun k1 i1 s1 hle1 H1 H2 K0 hK1=>?_)
 refine W.rg env [1,2,3,7,8,9,10] [1,2,3] ?_
 refine W.seq ?_
 refine W.cond rfl (fun hb2=>?_) (fun hb2=>?_)
 · have hi1:i1<p0.mantles.length:=by have:=of_decide_eq_true hb2;omega
   have H:=H1 hi1
   refine W.skip ?_
   refine At.zai ?_
   refine W.seq ?_
   refine W.block ?_
   refine W.sr env [] [] [1,2,3,5,7,8,9] [1,2,3] rfl rfl rfl (.cons (⟨by omega,by omega⟩:0≤(i1:Int)∧(i1:Int)<((p0.mantles.length:Nat):Int)) .nil) .nil ?_
   refine W.seq ?_
   obtain ⟨y3,hy4,H⟩:=zah H
   refine W.region env [] [⟨.int .i64 (y3),[],0,[]⟩] rfl rfl rfl .nil (.free (zbh p0.closet (p0.mantles.getD i1 default) p0.night hy4) .nil) (At.keep (ts:=[1,2,3,7,8,9,18]) (ids:=[1,2,3]) rfl rfl ?_)
   refine At.zai ?_
   refine W.block ?_
   refine W.rg env [1,2,3,7,8,9,18,19] [1,2,3] ?_
   refine W.cond rfl (fun hb5=>?_) (fun hb5=>?_)
   · have H:=zam H hb5
     obtain ⟨hc6,H⟩:=zag H
     refine W.sr env [] [] [1,2,3,7,8,9] [1,2,3] rfl rfl rfl (.cons hc6 .nil) .nil ?_
     obtain ⟨hc7,H⟩:=zag H
     refine W.region env [] [] rfl rfl rfl (.cons hc7 .nil) .nil (At.keep (ts:=[1,2,3,7,8,9]) (ids:=[1,2,3]) rfl rfl ?_)
     refine At.inb ?_
     refine At.inb ?_
     refine At.zai ?_
     refine W.region env [] [] rfl rfl rfl (.cons (by unfold inI;have:=hn1;(try unfold maxLen at this);omega) .nil) .nil (At.keep (ts:=[1,2,3,7,8,9]) (ids:=[1,2,3]) rfl rfl ?_)
     refine At.zaE (At.keep (ts:=[1,2,3,7,8,9]) (ids:=[1,2,3]) rfl rfl ?_)
     exact At.conv (.cons .q (.cons .q (.cons .q (.cons .q (.cons .qi (.cons .qi .nil)))))) (.cons .q (.cons .q (.cons .q .nil))) (hK1 hi1 (⟨(s1.Lo+1),(s1.Hi+1)⟩:Range) H)
   · have H:=zal H hb5
     refine W.rg env [1,2,3,7,8,9,29] [1,2,3] ?_
     refine W.cond rfl (fun hb8=>?_) (fun hb8=>?_)
     · have H:=zam H hb8
       obtain ⟨hc9,H⟩:=zag H
       refine W.region env [] [] rfl rfl rfl (.cons hc9 .nil) .nil (At.keep (ts:=[1,2,3,7,8,9]) (ids:=[1,2,3]) rfl rfl ?_)
       refine At.inb ?_
       refine At.inb ?_
       refine At.zai ?_
       refine W.region env [] [] rfl rfl rfl (.cons (by unfold inI;have:=hn1;(try unfold maxLen at this);omega) .nil) .nil (At.keep (ts:=[1,2,3,7,8,9]) (ids:=[1,2,3]) rfl rfl ?_)
       refine At.zaE (At.keep (ts:=[1,2,3,7,8,9]) (ids:=[1,2,3]) rfl rfl ?_)
       exact At.conv (.cons .q (.cons .q (.cons .q (.cons .q (.cons .qi (.cons .qi .nil)))))) (.cons .q (.cons .q (.cons .q .nil))) (hK1 hi1 (⟨s1.Lo,(s1.Hi+1)⟩:Range) H)
     · have H:=zal H hb8
       refine W.skip ?_
       refine At.inb ?_
       refine At.inb ?_
       refine At.zai ?_
       refine W.region env [] [] rfl rfl rfl (.cons (by unfold inI;have:=hn1;(try unfold maxLen at this);omega) .nil) .nil (At.keep (ts:=[1,2,3,7,8,9]) (ids:=[1,2,3]) rfl rfl ?_)
       refine At.zaE (At.keep (ts:=[1,2,3,7,8,9]) (ids:=[1,2,3]) rfl rfl ?_)
       exact At.conv (.cons .q (.cons .q (.cons .q (.cons .q (.cons .qi (.cons .qi .nil)))))) (.cons .q (.cons .q (.cons .q .nil))) (hK1 hi1 s1 H)
 · have H:=H2 (by have:=of_decide_eq_false hb2;omega)
   refine W.exit ?_
   refine At.xthen ?_
   refine At.xthen ?_
   refine At.xhere ?_
   refine At.zai ?_
   refine W.rg env [2] [2] ?_
   refine W.ret ?_
   cases H
   exact At.ret env.ty rfl rfl nofun (.refl _) hval
theorem zg7 (fuel:Nat) (p0:Wear) (p1:(List Int)) (p2:Int) (p3:Int) {r:(Range×Int)} (H:zfF fuel p0 p1 p2 p3=some r):Ctr Tryz.prog 33 [.agg [roL 3 zad p0.Batches,roL 6 zaa p0.Mantles,roL 7 zaf p0.Burns,roL 6 zac p0.Looks],roL 1 zae p1,.int .i64 (p2),.int .i64 (p3)] (.tup [.agg [.int .i64 (r.1.Lo),.int .i64 (r.1.Hi)],.int .i64 (r.2)]):=by
 unfold zfF at H
 refine Ctr.zap (N:=26) Tryz.func33 (by kernel_rfl) (c:=_) rfl Tryz.ntmps33 rfl (fun w0 h0 hval=>?_)
 refine W.rg env [1,2,3,4,8] [4,8] ?_
 refine W.seq ?_
 obtain ⟨y1,hy2,H⟩:=zah H
 refine W.region env [] [⟨.tup [.agg [roL 3 zad y1.1.closet.w.Batches,roL 6 zaa y1.1.closet.w.Mantles,roL 7 zaf y1.1.closet.w.Burns,roL 6 zac y1.1.closet.w.Looks,.int .i64 (y1.1.closet.known),romL (.agg #[.slice none 0 0,.slice none 0 0,.slice none 0 0,.slice none 0 0,.slice none 0 0,.slice none 0 0]) (fun (x:mantle_coat)=>.agg [roL 3 zad x.w.Batches,roL 6 zaa x.w.Mantles,roL 7 zaf x.w.Burns,roL 6 zac x.w.Looks,roL 1 zae x.burns,roL 2 zab x.sights]) y1.1.closet.coats,roL 2 zao y1.1.closet.lives,roL 1 zae y1.1.lamps,roL 1 zae y1.1.mantles,.int .i64 (y1.1.night)],.int .i64 (y1.2)],[],0,[]⟩] rfl rfl rfl .nil (.free (zex fuel p0 p1 p2 p3 0 hy2) .nil) (At.keep (ts:=[8,10,11]) (ids:=[8,10]) rfl rfl ?_)
 refine At.zai ?_
 refine W.seq ?_
 refine W.rg env [8,10,11,21] [8,10] ?_
 refine W.cond rfl (fun hb3=>?_) (fun hb3=>?_)
 · have H:=zam H hb3
   refine W.rg env [8,9] [8] ?_
   refine W.ret ?_
   refine At.rthen ?_
   cases H
   exact At.ret env.ty rfl rfl nofun (.refl _) hval
 · have H:=zal H hb3
   refine W.skip ?_
   refine At.zai ?_
   refine W.seq ?_
   obtain ⟨y4,hy5,H⟩:=zah H
   refine W.region env [] [⟨.agg [.int .i64 (y4.Lo),.int .i64 (y4.Hi)],[],0,[]⟩] rfl rfl rfl .nil (.free (zcJ y1.1 hy5) .nil) (At.keep (ts:=[8,9]) (ids:=[8]) rfl rfl ?_)
   refine At.zai ?_
   refine W.ret ?_
   cases H
   exact At.ret env.ty rfl rfl nofun (.refl _) hval
theorem zdh (p0:mantle_lot) {r:(List Int)} (H:zbN p0=some r):Ctr Tryz.prog 124 [.agg [roL 3 zad p0.closet.w.Batches,roL 6 zaa p0.closet.w.Mantles,roL 7 zaf p0.closet.w.Burns,roL 6 zac p0.closet.w.Looks,.int .i64 (p0.closet.known),romL (.agg #[.slice none 0 0,.slice none 0 0,.slice none 0 0,.slice none 0 0,.slice none 0 0,.slice none 0 0]) (fun (x:mantle_coat)=>.agg [roL 3 zad x.w.Batches,roL 6 zaa x.w.Mantles,roL 7 zaf x.w.Burns,roL 6 zac x.w.Looks,roL 1 zae x.burns,roL 2 zab x.sights]) p0.closet.coats,roL 2 zao p0.closet.lives,roL 1 zae p0.lamps,roL 1 zae p0.mantles,.int .i64 (p0.night)]] (roL 1 zae r):=by
 unfold zbN at H
 refine Ctr.zap (N:=27) Tryz.func124 (by kernel_rfl) (c:=_) rfl Tryz.ntmps124 rfl (fun w0 h0 hval=>?_)
 refine W.rg env [1] [1] ?_
 refine W.rg env [1,3] [1] ?_
 refine W.seq ?_
 refine W.rg env [1,3,7,8,9] [1] ?_
 refine W.block ?_
 refine At.zgp 3 503 3 1 (e:=fun i=>zae (([]:List Int).getD i default)) rfl rfl ?_
 refine At.keep (ts:=[1,3,7,8,9]) (ids:=[1,503]) rfl rfl ?_
 refine W.len (t:=7) rfl (fun (hn1:p0.mantles.length≤maxLen)=>?_)
 refine W.zau H (fun i1 (s1:(List Int))=>[(1,.lp 1 0),(3,.buf 503 (s1).length),(7,roL 1 zae p0.mantles),(8,.int .i64 (((p0.mantles.length:Nat):Int))),(9,.int .i64 ((i1:Int)))]) (fun i1 (s1:(List Int))=>[(1,.cells [roL 3 zad p0.closet.w.Batches,roL 6 zaa p0.closet.w.Mantles,roL 7 zaf p0.closet.w.Burns,roL 6 zac p0.closet.w.Looks,.int .i64 (p0.closet.known),romL (.agg #[.slice none 0 0,.slice none 0 0,.slice none 0 0,.slice none 0 0,.slice none 0 0,.slice none 0 0]) (fun (x:mantle_coat)=>.agg [roL 3 zad x.w.Batches,roL 6 zaa x.w.Mantles,roL 7 zaf x.w.Burns,roL 6 zac x.w.Looks,roL 1 zae x.burns,roL 2 zab x.sights]) p0.closet.coats,roL 2 zao p0.closet.lives,roL 1 zae p0.lamps,roL 1 zae p0.mantles,.int .i64 (p0.night)]),(503,bufL 3 1 zae s1)]) (.cons .q (.cons .qb (.cons .q (.cons .qi (.cons .qi .nil))))) (.cons .q (.cons .q .nil)) (fun k1 i1 s1 hle1 H1 H2 K0 hK1=>?_)
 refine W.rg env [1,3,7,8,9,10] [1,503] ?_
 refine W.seq ?_
 refine W.cond rfl (fun hb2=>?_) (fun hb2=>?_)
 · have hi1:i1<p0.mantles.length:=by have:=of_decide_eq_true hb2;omega
   have H:=H1 hi1
   refine W.skip ?_
   refine At.zai ?_
   refine W.seq ?_
   refine W.block ?_
   refine W.sr env [] [] [1,3,4,5,7,8,9] [1,503] rfl rfl rfl (.cons (⟨by omega,by omega⟩:0≤(i1:Int)∧(i1:Int)<((p0.mantles.length:Nat):Int)) .nil) .nil ?_
   refine W.seq ?_
   obtain ⟨y3,hy4,H⟩:=zah H
   refine W.region env [] [⟨.int .i64 (y3),[],0,[]⟩] rfl rfl rfl .nil (.free (zbh p0.closet (p0.mantles.getD i1 default) p0.night hy4) .nil) (At.keep (ts:=[1,3,4,7,8,9,20]) (ids:=[1,503]) rfl rfl ?_)
   refine At.zai ?_
   refine W.cond rfl (fun hb5=>?_) (fun hb5=>?_)
   · have H:=zam H hb5
     obtain ⟨hc6,H⟩:=zag H
     refine W.region env [] [] rfl rfl rfl (.cons (⟨by first|rfl|(simp;done)|omega|(simp;omega),by have:=hc6;first|simpa using this|(unfold room at this ⊢;simp at this ⊢;omega)⟩) .nil) .nil (At.keep (ts:=[1,3,7,8,9]) (ids:=[1,503]) rfl rfl ?_)
     refine At.zbk (.cons (.refl _) (.cons (y:=bufL 3 1 zae (s1++([(i1:Int)]:List Int))) (BSim.seg (Seg.push (Seg.refl zae _) (Seg.lit (f:=zae) (sz:=1) ([(i1:Int)]:List Int) rfl rfl (fun _=>rfl)))) .nil)) ?_
     refine At.inb ?_
     refine At.zai ?_
     refine W.region env [] [] rfl rfl rfl (.cons (by unfold inI;have:=hn1;(try unfold maxLen at this);omega) .nil) .nil (At.keep (ts:=[1,3,7,8,9]) (ids:=[1,503]) rfl rfl ?_)
     refine At.zaE (At.keep (ts:=[1,3,7,8,9]) (ids:=[1,503]) rfl rfl ?_)
     exact At.conv (.cons .q (.cons .qb (.cons .q (.cons .qi (.cons .qi .nil))))) (.cons .q (.cons .q .nil)) (hK1 hi1 (s1++([(i1:Int)]:List Int)) H)
   · have H:=zal H hb5
     refine W.skip ?_
     refine At.inb ?_
     refine At.zai ?_
     refine W.region env [] [] rfl rfl rfl (.cons (by unfold inI;have:=hn1;(try unfold maxLen at this);omega) .nil) .nil (At.keep (ts:=[1,3,7,8,9]) (ids:=[1,503]) rfl rfl ?_)
     refine At.zaE (At.keep (ts:=[1,3,7,8,9]) (ids:=[1,503]) rfl rfl ?_)
     exact At.conv (.cons .q (.cons .qb (.cons .q (.cons .qi (.cons .qi .nil))))) (.cons .q (.cons .q .nil)) (hK1 hi1 s1 H)
 · have H:=H2 (by have:=of_decide_eq_false hb2;omega)
   refine W.exit ?_
   refine At.xthen ?_
   refine At.xthen ?_
   refine At.xhere ?_
   refine At.zai ?_
   refine W.rg env [2] [503] ?_
   refine W.ret ?_
   cases H
   exact At.ret env.ty rfl rfl (fun q hq=>by cases hq;exact (by first|rfl|(simp;done)|omega|(simp;omega))) (.refl _) hval
theorem zkd (p0:(List Range)) {r:(List Range)} (H:zbC p0=some r):Ctr Tryz.prog 196 [roL 2 zao p0] (roL 2 zao r):=by
 unfold zbC at H
 refine Ctr.zap (N:=8) Tryz.func196 (by kernel_rfl) (c:=_) rfl Tryz.ntmps196 rfl (fun w0 h0 hval=>?_)
 refine W.rg env [0] [] ?_
 refine W.seq ?_
 refine W.rg env [0,4] [] ?_
 refine W.zgv rfl (fun hz=>?_) ?_
 · obtain rfl:p0=[]:=List.length_eq_zero_iff.1 hz
   obtain ⟨hc1,H⟩:=zag H
   refine W.rg env [2] [] ?_
   refine W.ret ?_
   refine At.rthen ?_
   cases H
   exact At.ret env.ty rfl rfl nofun (Sim.nil _ _) hval
 · refine W.skip ?_
   refine At.zai ?_
   refine W.seq ?_
   obtain ⟨hc1,H⟩:=zag H
   refine W.region env [5] [] rfl rfl rfl (.cons (⟨by first|rfl|(simp;done)|omega|(simp;omega),by have:=hc1;first|simpa using this|(unfold room at this ⊢;simp at this ⊢;omega)⟩) .nil) .nil (At.keep (ts:=[2]) (ids:=[5]) rfl rfl ?_)
   refine At.zbk (.cons (y:=bufL 29 2 zao (([]:List Range)++p0)) (BSim.seg (Seg.push (Seg.lit (f:=zao) (sz:=2) ([]:List Range) rfl rfl (fun _=>rfl)) (Seg.refl zao p0))) .nil) ?_
   refine At.zai ?_
   refine W.ret ?_
   cases H
   exact At.ret env.ty rfl rfl (fun q hq=>by cases hq;exact (by first|rfl|(simp;done)|omega|(simp;omega))) (.refl _) hval
theorem zfm (p0:(List Range)) {r:(List Range)} (H:zbC p0=some r):CtrO Tryz.prog 196 [roL 2 zao p0] [] (.buf 900 r.length) [(900,bufL 29 2 zao r)]:=by
 unfold zbC at H
 refine CtrO.zap (N:=8) Tryz.func196 (by kernel_rfl) (c:=_) rfl Tryz.ntmps196 rfl (fun w0 h0 ρb hval hdom=>?_)
 refine W.rg env [0] [] ?_
 refine W.seq ?_
 refine W.rg env [0,4] [] ?_
 refine W.zgv rfl (fun hz=>?_) ?_
 · obtain rfl:p0=[]:=List.length_eq_zero_iff.1 hz
   obtain ⟨hc1,H⟩:=zag H
   refine W.rg env [2] [] ?_
   refine W.ret ?_
   refine At.rthen ?_
   cases H
   refine At.zgp 2 800 29 2 (e:=fun i=>zao (([]:List Range).getD i default)) rfl rfl ?_
   exact At.retK env.ty [800] 100 rfl rfl rfl rfl (.cons (.refl _) .nil) (.of_eq (by refine zgz ?_;first|(simp [zbg];done)|omega|(simp [zbg];omega)|rfl)) hval hdom rfl
 · refine W.skip ?_
   refine At.zai ?_
   refine W.seq ?_
   obtain ⟨hc1,H⟩:=zag H
   refine W.region env [5] [] rfl rfl rfl (.cons (⟨by first|rfl|(simp;done)|omega|(simp;omega),by have:=hc1;first|simpa using this|(unfold room at this ⊢;simp at this ⊢;omega)⟩) .nil) .nil (At.keep (ts:=[2]) (ids:=[5]) rfl rfl ?_)
   refine At.zbk (.cons (y:=bufL 29 2 zao (([]:List Range)++p0)) (BSim.seg (Seg.push (Seg.lit (f:=zao) (sz:=2) ([]:List Range) rfl rfl (fun _=>rfl)) (Seg.refl zao p0))) .nil) ?_
   refine At.zai ?_
   refine W.ret ?_
   cases H
   exact At.retK env.ty [5] 895 rfl rfl rfl rfl (.cons (.refl _) .nil) (.of_eq (by refine zgz ?_;first|(simp [zbg];done)|omega|(simp [zbg];omega)|rfl)) hval hdom rfl
theorem zd3 (p0:mantle_closet) (p1:Int) (p2:Range) {r:mantle_closet} (H:zbS p0 p1 p2=some r):CtrO Tryz.prog 150 [.agg [roL 3 zad p0.w.Batches,roL 6 zaa p0.w.Mantles,roL 7 zaf p0.w.Burns,roL 6 zac p0.w.Looks,.int .i64 (p0.known),.mp 90000,.buf 90001 (p0.lives).length],.int .i64 (p1),.agg [.int .i64 (p2.Lo),.int .i64 (p2.Hi)]] [(90000,mapL (.agg #[.slice none 0 0,.slice none 0 0,.slice none 0 0,.slice none 0 0,.slice none 0 0,.slice none 0 0]) (fun (x:mantle_coat)=>.agg [roL 3 zad x.w.Batches,roL 6 zaa x.w.Mantles,roL 7 zaf x.w.Burns,roL 6 zac x.w.Looks,roL 1 zae x.burns,roL 2 zab x.sights]) p0.coats),(90001,bufL 29 2 zao p0.lives)] (.tup []) [(90000,mapL (.agg #[.slice none 0 0,.slice none 0 0,.slice none 0 0,.slice none 0 0,.slice none 0 0,.slice none 0 0]) (fun (x:mantle_coat)=>.agg [roL 3 zad x.w.Batches,roL 6 zaa x.w.Mantles,roL 7 zaf x.w.Burns,roL 6 zac x.w.Looks,roL 1 zae x.burns,roL 2 zab x.sights]) r.coats),(90001,bufL 29 2 zao r.lives)]:=by
 unfold zbS at H
 refine CtrL.zap (N:=17) Tryz.func150 (by kernel_rfl) (c:=_) rfl Tryz.ntmps150 rfl rfl (fun w0 h0 ρb hval hdom hent=>?_)
 refine W.rg env [1,3,5] [3,5,90000,90001] ?_
 obtain ⟨hc1,H⟩:=zag H
 obtain ⟨hc2,H⟩:=zag H
 refine W.region env [] [⟨.agg [.int .i64 ((zaV (p0.lives.getD (p1).toNat default) p2).Lo),.int .i64 ((zaV (p0.lives.getD (p1).toNat default) p2).Hi)],[],0,[]⟩] rfl rfl (by kernel_rfl) (.cons (⟨by first|rfl|(simp;done)|omega|(simp;omega),hc1⟩) (.cons (⟨by first|rfl|(simp;done)|omega|(simp;omega),(by have:=hc1;first|omega|(simp only [List.length_set];omega)|(simp only [Int.toNat_natCast] at *;omega)|(simp at this ⊢;omega))⟩) (.cons (⟨by first|rfl|(simp;done)|omega|(simp;omega),hc2⟩) (.cons (⟨by first|rfl|(simp;done)|omega|(simp;omega),(by have:=hc2;first|omega|(simp only [List.length_set];omega)|(simp only [Int.toNat_natCast] at *;omega)|(simp at this ⊢;omega))⟩) .nil)))) (.free (zeR (p0.lives.getD (p1).toNat default) p2) .nil) (At.keep (ts:=[]) (ids:=[90000,90001]) rfl rfl ?_)
 refine At.zbk (.cons (.refl _) (.cons (y:=bufL 29 2 zao (p0.lives.set (p1).toNat (zaV (p0.lives.getD (p1).toNat default) p2))) (BSim.seg (Seg.set (Seg.refl zao _) (zaV (p0.lives.getD (p1).toNat default) p2) rfl)) .nil)) ?_
 refine At.zc6 ?_
 cases H
 exact At.retL env.ty [90000,90001] rfl rfl rfl rfl (.cons (.refl _) (.cons (.refl _) .nil)) (.refl _) hval hdom hent rfl rfl
theorem zcK (p0:mantle_lot) (p1:(List Int)) (p2:Bool) {r:mantle_lot} (H:zbE p0 p1 p2=some r):Ctr Tryz.prog 169 [.agg [roL 3 zad p0.closet.w.Batches,roL 6 zaa p0.closet.w.Mantles,roL 7 zaf p0.closet.w.Burns,roL 6 zac p0.closet.w.Looks,.int .i64 (p0.closet.known),romL (.agg #[.slice none 0 0,.slice none 0 0,.slice none 0 0,.slice none 0 0,.slice none 0 0,.slice none 0 0]) (fun (x:mantle_coat)=>.agg [roL 3 zad x.w.Batches,roL 6 zaa x.w.Mantles,roL 7 zaf x.w.Burns,roL 6 zac x.w.Looks,roL 1 zae x.burns,roL 2 zab x.sights]) p0.closet.coats,roL 2 zao p0.closet.lives,roL 1 zae p0.lamps,roL 1 zae p0.mantles,.int .i64 (p0.night)],roL 1 zae p1,.bool (p2)] (.agg [roL 3 zad r.closet.w.Batches,roL 6 zaa r.closet.w.Mantles,roL 7 zaf r.closet.w.Burns,roL 6 zac r.closet.w.Looks,.int .i64 (r.closet.known),romL (.agg #[.slice none 0 0,.slice none 0 0,.slice none 0 0,.slice none 0 0,.slice none 0 0,.slice none 0 0]) (fun (x:mantle_coat)=>.agg [roL 3 zad x.w.Batches,roL 6 zaa x.w.Mantles,roL 7 zaf x.w.Burns,roL 6 zac x.w.Looks,roL 1 zae x.burns,roL 2 zab x.sights]) r.closet.coats,roL 2 zao r.closet.lives,roL 1 zae r.lamps,roL 1 zae r.mantles,.int .i64 (r.night)]):=by
 unfold zbE at H
 refine Ctr.zap (N:=77) Tryz.func169 (by kernel_rfl) (c:=_) rfl Tryz.ntmps169 rfl (fun w0 h0 hval=>?_)
 refine W.rg env [1,2,3,6] [3,6] ?_
 refine W.rg env [1,2,3,6,7] [3,6,7] ?_
 refine W.seq ?_
 refine W.region env [] [] rfl rfl rfl .nil .nil (At.keep (ts:=[1,2,3,6,7]) (ids:=[3,6,7,14]) rfl rfl ?_)
 refine At.zbk (.cons (.refl _) (.cons (.refl _) (.cons (.refl _) (.cons (y:=mapL (.agg #[.slice none 0 0,.slice none 0 0,.slice none 0 0,.slice none 0 0,.slice none 0 0,.slice none 0 0]) (fun (x:mantle_coat)=>.agg [roL 3 zad x.w.Batches,roL 6 zaa x.w.Mantles,roL 7 zaf x.w.Burns,roL 6 zac x.w.Looks,roL 1 zae x.burns,roL 2 zab x.sights]) (Mp.empty:Mp mantle_coat)) (BSim.zl3 (f:=(fun (x:mantle_coat)=>.agg [roL 3 zad x.w.Batches,roL 6 zaa x.w.Mantles,roL 7 zaf x.w.Burns,roL 6 zac x.w.Looks,roL 1 zae x.burns,roL 2 zab x.sights])) (zgf.empty (f:=(fun (x:mantle_coat)=>.agg [roL 3 zad x.w.Batches,roL 6 zaa x.w.Mantles,roL 7 zaf x.w.Burns,roL 6 zac x.w.Looks,roL 1 zae x.burns,roL 2 zab x.sights])) (Sim.aggL (.cons (Sim.nil _ _) (.cons (Sim.nil _ _) (.cons (Sim.nil _ _) (.cons (Sim.nil _ _) (.cons (Sim.nil _ _) (.cons (Sim.nil _ _) .nil))))))))) .nil)))) ?_
 refine At.zai ?_
 refine W.seq ?_
 refine W.rg env [1,2,3,6,7,20] [3,6,7,14,20] ?_
 refine W.block ?_
 refine At.keep (ts:=[1,2,3,6,7,20]) (ids:=[20,3,6,7,14]) rfl rfl ?_
 refine At.ziY 20 rfl (fun left hleft=>?_)
 refine At.keep (ts:=[1,2,3,6,7,20]) (ids:=[20,3,6,7,14]) rfl rfl ?_
 refine W.ziZ (S:=List Int) 20 (fun k=>(fun (x:mantle_coat)=>.agg [roL 3 zad x.w.Batches,roL 6 zaa x.w.Mantles,roL 7 zaf x.w.Burns,roL 6 zac x.w.Looks,roL 1 zae x.burns,roL 2 zab x.sights]) ((p0.closet.coats.get k).getD default)) (fun left (s1:List Int)=>left=s1∧left.Nodup∧(∀ k,k∈left→(p0.closet.coats.get k).isSome=true)∧left.length≤p0.closet.coats.card) (fun _=>[(1,roL 1 zae p1),(2,.bool (p2)),(3,.lp 3 0),(6,.lp 6 0),(7,.lp 7 0),(20,.lp 20 0)]) (fun s1=>[(3,.cells [roL 3 zad p0.closet.w.Batches,roL 6 zaa p0.closet.w.Mantles,roL 7 zaf p0.closet.w.Burns,roL 6 zac p0.closet.w.Looks,.int .i64 (p0.closet.known),romL (.agg #[.slice none 0 0,.slice none 0 0,.slice none 0 0,.slice none 0 0,.slice none 0 0,.slice none 0 0]) (fun (x:mantle_coat)=>.agg [roL 3 zad x.w.Batches,roL 6 zaa x.w.Mantles,roL 7 zaf x.w.Burns,roL 6 zac x.w.Looks,roL 1 zae x.burns,roL 2 zab x.sights]) p0.closet.coats,roL 2 zao p0.closet.lives,roL 1 zae p0.lamps,roL 1 zae p0.mantles,.int .i64 (p0.night)]),(6,.cells [.nilS,.nilS,.nilS,.nilS,.int .i64 (0),.nilMap,.nilS,.nilS,.nilS,.int .i64 (0)]),(7,.cells [roL 3 zad p0.closet.w.Batches,roL 6 zaa p0.closet.w.Mantles,roL 7 zaf p0.closet.w.Burns,roL 6 zac p0.closet.w.Looks,.int .i64 (p0.closet.known),.mp 14,roL 2 zao p0.closet.lives,roL 1 zae p0.lamps,roL 1 zae p0.mantles,.int .i64 (p0.night)]),(14,zhn (.agg #[.slice none 0 0,.slice none 0 0,.slice none 0 0,.slice none 0 0,.slice none 0 0,.slice none 0 0]) (fun (x:mantle_coat)=>.agg [roL 3 zad x.w.Batches,roL 6 zaa x.w.Mantles,roL 7 zaf x.w.Burns,roL 6 zac x.w.Looks,roL 1 zae x.burns,roL 2 zab x.sights]) p0.closet.coats s1)]) (s0:=left) ⟨rfl,hleft.1,fun k hk=>(hleft.2.2 k).2 hk,Nat.le_of_eq hleft.2.1⟩ (.cons (.refl _) (.cons (.refl _) (.cons (.refl _) (.cons (.refl _) (.cons (.refl _) (.cons (.refl _) .nil)))))) (.cons (.refl _) (.cons (.refl _) (.cons (.refl _) (.cons (.refl _) (.cons (BSim.zmF hleft) .nil))))) (fun left1 s1 HJ1 K hK1=>?_)
 obtain ⟨hs1,hnd1,hkd1,hlen1⟩:=HJ1
 subst hs1
 refine W.seq ?_
 refine W.next rfl rfl rfl rfl rfl rfl rfl rfl rfl rfl rfl (fun hz=>?_) (fun q1 left2 hp1=>?_)
 · subst hz
   refine At.keep (ts:=[1,2,3,6,7,20,22]) (ids:=[20,3,6,7,14]) rfl rfl ?_
   refine At.zbk (.cons (.refl _) (.cons (.refl _) (.cons (.refl _) (.cons (.refl _) (.cons BSim.znV .nil))))) ?_
   refine At.zai ?_
   refine W.seq ?_
   refine W.cond rfl (fun hb3=>by cases hb3) (fun hb3=>?_)
   refine W.exit ?_
   refine At.xthen ?_
   refine At.xthen ?_
   refine At.xhere ?_
   refine At.zai ?_
   refine W.seq ?_
   obtain ⟨y4,hy5,H⟩:=zah H
   refine W.region env [] [⟨.buf 900 y4.length,[(900,bufL 29 2 zao y4)],35000,[]⟩] rfl rfl (by kernel_rfl) .nil (.free ((Ctr.ofO (zfm p0.closet.lives hy5))) .nil) (At.keep (ts:=[1,2,3,6,7]) (ids:=[3,6,7,14,35900]) rfl rfl ?_)
   refine At.zai ?_
   refine W.seq ?_
   refine W.rg env [2,3,6,7,37,38,39] [3,6,7,14,35900] ?_
   refine W.block ?_
   refine At.keep (ts:=[2,3,6,7,37,38,39]) (ids:=[3,6,7,14,35900]) rfl rfl ?_
   refine W.len (t:=37) rfl (fun (hn6:p1.length≤maxLen)=>?_)
   refine W.zau H (fun i6 (s6:(List Range)×(Mp mantle_coat))=>[(2,.bool (p2)),(3,.lp 3 0),(6,.lp 6 0),(7,.lp 7 0),(37,roL 1 zae p1),(38,.int .i64 (((p1.length:Nat):Int))),(39,.int .i64 ((i6:Int)))]) (fun i6 (s6:(List Range)×(Mp mantle_coat))=>[(3,.cells [roL 3 zad p0.closet.w.Batches,roL 6 zaa p0.closet.w.Mantles,roL 7 zaf p0.closet.w.Burns,roL 6 zac p0.closet.w.Looks,.int .i64 (p0.closet.known),romL (.agg #[.slice none 0 0,.slice none 0 0,.slice none 0 0,.slice none 0 0,.slice none 0 0,.slice none 0 0]) (fun (x:mantle_coat)=>.agg [roL 3 zad x.w.Batches,roL 6 zaa x.w.Mantles,roL 7 zaf x.w.Burns,roL 6 zac x.w.Looks,roL 1 zae x.burns,roL 2 zab x.sights]) p0.closet.coats,roL 2 zao p0.closet.lives,roL 1 zae p0.lamps,roL 1 zae p0.mantles,.int .i64 (p0.night)]),(6,.cells [.nilS,.nilS,.nilS,.nilS,.int .i64 (0),.nilMap,.nilS,.nilS,.nilS,.int .i64 (0)]),(7,.cells [roL 3 zad p0.closet.w.Batches,roL 6 zaa p0.closet.w.Mantles,roL 7 zaf p0.closet.w.Burns,roL 6 zac p0.closet.w.Looks,.int .i64 (p0.closet.known),.mp 14,.buf 35900 (s6.1).length,roL 1 zae p0.lamps,roL 1 zae p0.mantles,.int .i64 (p0.night)]),(14,mapL (.agg #[.slice none 0 0,.slice none 0 0,.slice none 0 0,.slice none 0 0,.slice none 0 0,.slice none 0 0]) (fun (x:mantle_coat)=>.agg [roL 3 zad x.w.Batches,roL 6 zaa x.w.Mantles,roL 7 zaf x.w.Burns,roL 6 zac x.w.Looks,roL 1 zae x.burns,roL 2 zab x.sights]) s6.2),(35900,bufL 29 2 zao s6.1)]) (.cons .q (.cons .q (.cons .q (.cons .q (.cons .q (.cons .qi (.cons .qi .nil))))))) (.cons .q (.cons (BSim.cells (.cons (by first|exact Sim.refl _|exact Sim.nil _ _) (.cons (by first|exact Sim.refl _|exact Sim.nil _ _) (.cons (by first|exact Sim.refl _|exact Sim.nil _ _) (.cons (by first|exact Sim.refl _|exact Sim.nil _ _) (.cons .q (.cons .q (.cons (by first|exact Sim.refl _|exact Sim.nil _ _) (.cons (by first|exact Sim.refl _|exact Sim.nil _ _) (.cons (by first|exact Sim.refl _|exact Sim.nil _ _) (.cons .q .nil))))))))))) (.cons (BSim.cells (.cons .q (.cons .q (.cons .q (.cons .q (.cons .q (.cons .q (.cons .qc (.cons .q (.cons .q (.cons .q .nil))))))))))) (.cons .q (.cons .q .nil))))) (fun k6 i6 s6 hle6 H1 H2 K0 hK6=>?_)
   refine W.rg env [2,3,6,7,37,38,39,40] [3,6,7,14,35900] ?_
   refine W.seq ?_
   refine W.cond rfl (fun hb7=>?_) (fun hb7=>?_)
   · have hi6:i6<p1.length:=by have:=of_decide_eq_true hb7;omega
     have H:=H1 hi6
     refine W.skip ?_
     refine At.zai ?_
     refine W.seq ?_
     refine W.block ?_
     refine W.sr env [] [] [2,3,6,7,11,37,38,39] [3,6,7,14,35900] rfl rfl rfl (.cons (⟨by omega,by omega⟩:0≤(i6:Int)∧(i6:Int)<((p1.length:Nat):Int)) .nil) .nil ?_
     obtain ⟨hc8,H⟩:=zag H
     refine W.sr env [] [] [2,3,6,7,12,37,38,39] [3,6,7,14,35900] rfl rfl rfl (.cons hc8 .nil) .nil ?_
     refine W.seq ?_
     obtain ⟨y9,hy10,H⟩:=zah H
     refine W.region env [] [⟨.agg [roL 3 zad y9.w.Batches,roL 6 zaa y9.w.Mantles,roL 7 zaf y9.w.Burns,roL 6 zac y9.w.Looks,roL 1 zae y9.burns,roL 2 zab y9.sights],[],0,[]⟩] rfl rfl (by kernel_rfl) (.cons rfl .nil) (.free (zc0 ((s6.2.get (p0.mantles.getD ((p1.getD i6 default)).toNat default)).getD default) (⟨p0.night,p2⟩:mantle_sight) hy10) .nil) (At.keep (ts:=[2,3,6,7,12,37,38,39]) (ids:=[3,6,7,14,35900]) rfl rfl ?_)
     refine At.zbk (.cons (.refl _) (.cons (.refl _) (.cons (.refl _) (.cons (y:=mapL (.agg #[.slice none 0 0,.slice none 0 0,.slice none 0 0,.slice none 0 0,.slice none 0 0,.slice none 0 0]) (fun (x:mantle_coat)=>.agg [roL 3 zad x.w.Batches,roL 6 zaa x.w.Mantles,roL 7 zaf x.w.Burns,roL 6 zac x.w.Looks,roL 1 zae x.burns,roL 2 zab x.sights]) (s6.2.set (p0.mantles.getD ((p1.getD i6 default)).toNat default) y9)) (BSim.mseg (f:=(fun (x:mantle_coat)=>.agg [roL 3 zad x.w.Batches,roL 6 zaa x.w.Mantles,roL 7 zaf x.w.Burns,roL 6 zac x.w.Looks,roL 1 zae x.burns,roL 2 zab x.sights])) (MSeg.set (MSeg.refl (fun (x:mantle_coat)=>.agg [roL 3 zad x.w.Batches,roL 6 zaa x.w.Mantles,roL 7 zaf x.w.Burns,roL 6 zac x.w.Looks,roL 1 zae x.burns,roL 2 zab x.sights]) _) y9 rfl)) (.cons (.refl _) .nil))))) ?_
     refine At.zai ?_
     obtain ⟨y11,hy12,H⟩:=zah H
     obtain ⟨y13,hy14,H⟩:=zah H
     obtain ⟨y15,hy16,H⟩:=zah H
     obtain ⟨hc17,H⟩:=zag H
     refine W.region env [] [⟨.int .i64 (y11),[],0,[]⟩,⟨.agg [.int .i64 (y13.Lo),.int .i64 (y13.Hi)],[],0,[]⟩,⟨.tup [],[(14,mapL (.agg #[.slice none 0 0,.slice none 0 0,.slice none 0 0,.slice none 0 0,.slice none 0 0,.slice none 0 0]) (fun (x:mantle_coat)=>.agg [roL 3 zad x.w.Batches,roL 6 zaa x.w.Mantles,roL 7 zaf x.w.Burns,roL 6 zac x.w.Looks,roL 1 zae x.burns,roL 2 zab x.sights]) y15.coats),(35900,bufL 29 2 zao y15.lives)],0,[14,35900]⟩] rfl rfl (by kernel_rfl) (.cons (by first|rfl|(simp;done)|omega|(simp;omega)) (.cons rfl .nil)) (.free (zcb (⟨p0.closet.w,p0.closet.known,(s6.2.set (p0.mantles.getD ((p1.getD i6 default)).toNat default) y9),s6.1⟩:mantle_closet) (p0.mantles.getD ((p1.getD i6 default)).toNat default) hy12) (.free (zcL (((s6.2.set (p0.mantles.getD ((p1.getD i6 default)).toNat default) y9).get (p0.mantles.getD ((p1.getD i6 default)).toNat default)).getD default) hy14) (.free (CtrO.sim (CtrO.ren (zd3 (⟨p0.closet.w,p0.closet.known,(s6.2.set (p0.mantles.getD ((p1.getD i6 default)).toNat default) y9),s6.1⟩:mantle_closet) y11 y13 hy16) [(90000,14),(90001,35900)]) (.cons (Sim.aggL (.cons (.refl _) (.cons (.refl _) (.cons (.refl _) (.cons (.refl _) (.cons (.refl _) (.cons (.refl _) (.cons .qc .nil)))))))) (.cons (.refl _) (.cons (.refl _) .nil))) (.cons (.refl _) (.cons (.refl _) .nil))) .nil))) (At.keep (ts:=[2,3,6,7,37,38,39]) (ids:=[3,6,7,14,35900]) rfl rfl ?_)
     refine At.inb ?_
     refine At.zai ?_
     refine W.region env [] [] rfl rfl rfl (.cons (by unfold inI;have:=hn6;(try unfold maxLen at this);omega) .nil) .nil (At.keep (ts:=[2,3,6,7,37,38,39]) (ids:=[3,6,7,14,35900]) rfl rfl ?_)
     refine At.zaE (At.keep (ts:=[2,3,6,7,37,38,39]) (ids:=[3,6,7,14,35900]) rfl rfl ?_)
     exact At.conv (.cons .q (.cons .q (.cons .q (.cons .q (.cons .q (.cons .qi (.cons .qi .nil))))))) (.cons .q (.cons (BSim.cells (.cons (by first|exact Sim.refl _|exact Sim.nil _ _) (.cons (by first|exact Sim.refl _|exact Sim.nil _ _) (.cons (by first|exact Sim.refl _|exact Sim.nil _ _) (.cons (by first|exact Sim.refl _|exact Sim.nil _ _) (.cons .q (.cons .q (.cons (by first|exact Sim.refl _|exact Sim.nil _ _) (.cons (by first|exact Sim.refl _|exact Sim.nil _ _) (.cons (by first|exact Sim.refl _|exact Sim.nil _ _) (.cons .q .nil))))))))))) (.cons (BSim.cells (.cons .q (.cons .q (.cons .q (.cons .q (.cons .q (.cons .q (.cons .qc (.cons .q (.cons .q (.cons .q .nil))))))))))) (.cons .q (.cons .q .nil))))) (hK6 hi6 (y15.lives,y15.coats) H)
   · have H:=H2 (by have:=of_decide_eq_false hb7;omega)
     refine W.exit ?_
     refine At.xthen ?_
     refine At.xthen ?_
     refine At.xhere ?_
     refine At.zai ?_
     refine W.rg env [6] [6,14,35900] ?_
     refine W.ret ?_
     cases H
     exact At.ret env.ty rfl rfl (fun q hq=>by cases hq;exact (by first|rfl|(simp;done)|omega|(simp;omega))) (.refl _) hval
 · refine At.zai ?_
   refine W.seq ?_
   refine W.cond rfl (fun hb2=>?_) (fun hb2=>by cases hb2)
   refine W.skip ?_
   refine At.zai ?_
   refine W.block ?_
   refine W.rg env [1,2,3,6,7,8,9,20] [3,6,7,9,14,20] ?_
   refine W.region env [] [] rfl rfl rfl .nil .nil (At.keep (ts:=[1,2,3,6,7,20]) (ids:=[3,6,7,14,20]) rfl rfl ?_)
   refine At.inb ?_
   refine At.zaE (At.keep (ts:=[1,2,3,6,7,20]) (ids:=[20,3,6,7,14]) rfl rfl ?_)
   exact At.conv (.cons (.refl _) (.cons (.refl _) (.cons (.refl _) (.cons (.refl _) (.cons (.refl _) (.cons (.refl _) .nil)))))) (.cons (.refl _) (.cons (.refl _) (.cons (.refl _) (.cons (.refl _) (.cons (BSim.znq (f:=(fun (x:mantle_coat)=>.agg [roL 3 zad x.w.Batches,roL 6 zaa x.w.Mantles,roL 7 zaf x.w.Burns,roL 6 zac x.w.Looks,roL 1 zae x.burns,roL 2 zab x.sights])) hp1 hnd1 (hkd1 _ (hp1.mem_iff.2 (List.mem_cons_self ..))) hlen1) .nil))))) (hK1 _ left2 left2 hp1 ⟨rfl,(List.nodup_cons.1 (hp1.nodup_iff.1 hnd1)).2,fun k hk=>hkd1 k (hp1.mem_iff.2 (List.mem_cons_of_mem _ hk)),by have:=hp1.length_eq;simp at this;omega⟩)
theorem zcs (p0:mantle_lot) (p1:(List Int)) (p2:Bool) {r:Int} (H:zbu p0 p1 p2=some r):Ctr Tryz.prog 165 [.agg [roL 3 zad p0.closet.w.Batches,roL 6 zaa p0.closet.w.Mantles,roL 7 zaf p0.closet.w.Burns,roL 6 zac p0.closet.w.Looks,.int .i64 (p0.closet.known),romL (.agg #[.slice none 0 0,.slice none 0 0,.slice none 0 0,.slice none 0 0,.slice none 0 0,.slice none 0 0]) (fun (x:mantle_coat)=>.agg [roL 3 zad x.w.Batches,roL 6 zaa x.w.Mantles,roL 7 zaf x.w.Burns,roL 6 zac x.w.Looks,roL 1 zae x.burns,roL 2 zab x.sights]) p0.closet.coats,roL 2 zao p0.closet.lives,roL 1 zae p0.lamps,roL 1 zae p0.mantles,.int .i64 (p0.night)],roL 1 zae p1,.bool (p2)] (.int .i64 (r)):=by
 unfold zbu at H
 refine Ctr.zap (N:=37) Tryz.func165 (by kernel_rfl) (c:=_) rfl Tryz.ntmps165 rfl (fun w0 h0 hval=>?_)
 refine W.rg env [1,2,3] [3] ?_
 refine W.seq ?_
 obtain ⟨y1,hy2,H⟩:=zah H
 refine W.region env [] [⟨.agg [roL 3 zad y1.closet.w.Batches,roL 6 zaa y1.closet.w.Mantles,roL 7 zaf y1.closet.w.Burns,roL 6 zac y1.closet.w.Looks,.int .i64 (y1.closet.known),romL (.agg #[.slice none 0 0,.slice none 0 0,.slice none 0 0,.slice none 0 0,.slice none 0 0,.slice none 0 0]) (fun (x:mantle_coat)=>.agg [roL 3 zad x.w.Batches,roL 6 zaa x.w.Mantles,roL 7 zaf x.w.Burns,roL 6 zac x.w.Looks,roL 1 zae x.burns,roL 2 zab x.sights]) y1.closet.coats,roL 2 zao y1.closet.lives,roL 1 zae y1.lamps,roL 1 zae y1.mantles,.int .i64 (y1.night)],[],0,[]⟩] rfl rfl rfl .nil (.free (zcK p0 p1 p2 hy2) .nil) (At.keep (ts:=[3,7]) (ids:=[3,7]) rfl rfl ?_)
 refine At.zai ?_
 refine W.rg env [3,7,8] [3,7] ?_
 refine W.seq ?_
 refine W.seq ?_
 obtain ⟨y3,hy4,H⟩:=zah H
 refine W.region env [] [⟨roL 1 zae y3,[],0,[]⟩] rfl rfl rfl .nil (.free (zdh p0 hy4) .nil) (At.keep (ts:=[3,7,8,16,17,18]) (ids:=[3,7]) rfl rfl ?_)
 refine At.zai ?_
 refine W.block ?_
 refine At.keep (ts:=[3,7,8,16,17,18]) (ids:=[3,7]) rfl rfl ?_
 refine W.len (t:=16) rfl (fun (hn5:y3.length≤maxLen)=>?_)
 refine W.zau H (fun i5 (s5:Int)=>[(3,.lp 3 0),(7,.lp 7 0),(8,.int .i64 (s5)),(16,roL 1 zae y3),(17,.int .i64 (((y3.length:Nat):Int))),(18,.int .i64 ((i5:Int)))]) (fun i5 (s5:Int)=>[(3,.cells [roL 3 zad p0.closet.w.Batches,roL 6 zaa p0.closet.w.Mantles,roL 7 zaf p0.closet.w.Burns,roL 6 zac p0.closet.w.Looks,.int .i64 (p0.closet.known),romL (.agg #[.slice none 0 0,.slice none 0 0,.slice none 0 0,.slice none 0 0,.slice none 0 0,.slice none 0 0]) (fun (x:mantle_coat)=>.agg [roL 3 zad x.w.Batches,roL 6 zaa x.w.Mantles,roL 7 zaf x.w.Burns,roL 6 zac x.w.Looks,roL 1 zae x.burns,roL 2 zab x.sights]) p0.closet.coats,roL 2 zao p0.closet.lives,roL 1 zae p0.lamps,roL 1 zae p0.mantles,.int .i64 (p0.night)]),(7,.cells [roL 3 zad y1.closet.w.Batches,roL 6 zaa y1.closet.w.Mantles,roL 7 zaf y1.closet.w.Burns,roL 6 zac y1.closet.w.Looks,.int .i64 (y1.closet.known),romL (.agg #[.slice none 0 0,.slice none 0 0,.slice none 0 0,.slice none 0 0,.slice none 0 0,.slice none 0 0]) (fun (x:mantle_coat)=>.agg [roL 3 zad x.w.Batches,roL 6 zaa x.w.Mantles,roL 7 zaf x.w.Burns,roL 6 zac x.w.Looks,roL 1 zae x.burns,roL 2 zab x.sights]) y1.closet.coats,roL 2 zao y1.closet.lives,roL 1 zae y1.lamps,roL 1 zae y1.mantles,.int .i64 (y1.night)])]) (.cons .q (.cons .q (.cons .qi (.cons .q (.cons .qi (.cons .qi .nil)))))) (.cons .q (.cons .q .nil)) (fun k5 i5 s5 hle5 H1 H2 K0 hK5=>?_)
 refine W.rg env [3,7,8,16,17,18,19] [3,7] ?_
 refine W.seq ?_
 refine W.cond rfl (fun hb6=>?_) (fun hb6=>?_)
 · have hi5:i5<y3.length:=by have:=of_decide_eq_true hb6;omega
   have H:=H1 hi5
   refine W.skip ?_
   refine At.zai ?_
   refine W.seq ?_
   refine W.block ?_
   refine W.sr env [] [] [3,7,8,10,16,17,18] [3,7] rfl rfl rfl (.cons (⟨by omega,by omega⟩:0≤(i5:Int)∧(i5:Int)<((y3.length:Nat):Int)) .nil) .nil ?_
   refine W.seq ?_
   obtain ⟨hc7,H⟩:=zag H
   obtain ⟨y8,hy9,H⟩:=zah H
   refine W.region env [] [⟨.int .i64 (y8),[],0,[]⟩] rfl rfl (by kernel_rfl) (.cons hc7 .nil) (.free (zbh y1.closet (p0.mantles.getD ((y3.getD i5 default)).toNat default) p0.night hy9) .nil) (At.keep (ts:=[3,7,8,16,17,18,32]) (ids:=[3,7]) rfl rfl ?_)
   refine At.zai ?_
   refine W.cond rfl (fun hb10=>?_) (fun hb10=>?_)
   · have H:=zam H hb10
     obtain ⟨hc11,H⟩:=zag H
     refine W.region env [] [] rfl rfl rfl (.cons hc11 .nil) .nil (At.keep (ts:=[3,7,8,16,17,18]) (ids:=[3,7]) rfl rfl ?_)
     refine At.inb ?_
     refine At.zai ?_
     refine W.region env [] [] rfl rfl rfl (.cons (by unfold inI;have:=hn5;(try unfold maxLen at this);omega) .nil) .nil (At.keep (ts:=[3,7,8,16,17,18]) (ids:=[3,7]) rfl rfl ?_)
     refine At.zaE (At.keep (ts:=[3,7,8,16,17,18]) (ids:=[3,7]) rfl rfl ?_)
     exact At.conv (.cons .q (.cons .q (.cons .qi (.cons .q (.cons .qi (.cons .qi .nil)))))) (.cons .q (.cons .q .nil)) (hK5 hi5 (s5+1) H)
   · have H:=zal H hb10
     refine W.skip ?_
     refine At.inb ?_
     refine At.zai ?_
     refine W.region env [] [] rfl rfl rfl (.cons (by unfold inI;have:=hn5;(try unfold maxLen at this);omega) .nil) .nil (At.keep (ts:=[3,7,8,16,17,18]) (ids:=[3,7]) rfl rfl ?_)
     refine At.zaE (At.keep (ts:=[3,7,8,16,17,18]) (ids:=[3,7]) rfl rfl ?_)
     exact At.conv (.cons .q (.cons .q (.cons .qi (.cons .q (.cons .qi (.cons .qi .nil)))))) (.cons .q (.cons .q .nil)) (hK5 hi5 s5 H)
 · have H:=H2 (by have:=of_decide_eq_false hb6;omega)
   refine W.exit ?_
   refine At.xthen ?_
   refine At.xthen ?_
   refine At.xhere ?_
   refine At.zai ?_
   refine W.rg env [6] [] ?_
   refine W.ret ?_
   cases H
   exact At.ret env.ty rfl rfl nofun (.refl _) hval
theorem zgd (p0:mantle_lot) (p1:Int) (p2:Bool) {r:(List (List Int))} (H:zdl p0 p1 p2=some r):Ctr Tryz.prog 163 [.agg [roL 3 zad p0.closet.w.Batches,roL 6 zaa p0.closet.w.Mantles,roL 7 zaf p0.closet.w.Burns,roL 6 zac p0.closet.w.Looks,.int .i64 (p0.closet.known),romL (.agg #[.slice none 0 0,.slice none 0 0,.slice none 0 0,.slice none 0 0,.slice none 0 0,.slice none 0 0]) (fun (x:mantle_coat)=>.agg [roL 3 zad x.w.Batches,roL 6 zaa x.w.Mantles,roL 7 zaf x.w.Burns,roL 6 zac x.w.Looks,roL 1 zae x.burns,roL 2 zab x.sights]) p0.closet.coats,roL 2 zao p0.closet.lives,roL 1 zae p0.lamps,roL 1 zae p0.mantles,.int .i64 (p0.night)],.int .i64 (p1),.bool (p2)] (roL 1 zbK r):=by
 unfold zdl at H
 refine Ctr.zap (N:=135) Tryz.func163 (by kernel_rfl) (c:=_) rfl Tryz.ntmps163 rfl (fun w0 h0 hval=>?_)
 refine W.rg env [1,2,3] [3] ?_
 refine W.rg env [1,2,3,7] [3] ?_
 refine W.seq ?_
 refine W.seq ?_
 obtain ⟨y1,hy2,H⟩:=zah H
 refine W.region env [] [⟨roL 1 zae y1,[],0,[]⟩] rfl rfl rfl .nil (.free (zdh p0 hy2) .nil) (At.keep (ts:=[1,2,3,7,22,23,24]) (ids:=[3]) rfl rfl ?_)
 refine At.zai ?_
 refine W.block ?_
 refine At.zgp 7 507 3 1 (e:=fun i=>zae (([]:List Int).getD i default)) rfl rfl ?_
 refine At.keep (ts:=[1,2,3,7,22,23,24]) (ids:=[3,507]) rfl rfl ?_
 refine W.len (t:=22) rfl (fun (hn3:y1.length≤maxLen)=>?_)
 refine W.zau H (fun i3 (s3:(List Int))=>[(1,.int .i64 (p1)),(2,.bool (p2)),(3,.lp 3 0),(7,.buf 507 (s3).length),(22,roL 1 zae y1),(23,.int .i64 (((y1.length:Nat):Int))),(24,.int .i64 ((i3:Int)))]) (fun i3 (s3:(List Int))=>[(3,.cells [roL 3 zad p0.closet.w.Batches,roL 6 zaa p0.closet.w.Mantles,roL 7 zaf p0.closet.w.Burns,roL 6 zac p0.closet.w.Looks,.int .i64 (p0.closet.known),romL (.agg #[.slice none 0 0,.slice none 0 0,.slice none 0 0,.slice none 0 0,.slice none 0 0,.slice none 0 0]) (fun (x:mantle_coat)=>.agg [roL 3 zad x.w.Batches,roL 6 zaa x.w.Mantles,roL 7 zaf x.w.Burns,roL 6 zac x.w.Looks,roL 1 zae x.burns,roL 2 zab x.sights]) p0.closet.coats,roL 2 zao p0.closet.lives,roL 1 zae p0.lamps,roL 1 zae p0.mantles,.int .i64 (p0.night)]),(507,bufL 3 1 zae s3)]) (.cons .qi (.cons .q (.cons .q (.cons .qb (.cons .q (.cons .qi (.cons .qi .nil))))))) (.cons .q (.cons .q .nil)) (fun k3 i3 s3 hle3 H1 H2 K0 hK3=>?_)
 refine W.rg env [1,2,3,7,22,23,24,25] [3,507] ?_
 refine W.seq ?_
 refine W.cond rfl (fun hb4=>?_) (fun hb4=>?_)
 · have hi3:i3<y1.length:=by have:=of_decide_eq_true hb4;omega
   have H:=H1 hi3
   refine W.skip ?_
   refine At.zai ?_
   refine W.seq ?_
   refine W.block ?_
   refine W.sr env [] [] [1,2,3,7,9,22,23,24] [3,507] rfl rfl rfl (.cons (⟨by omega,by omega⟩:0≤(i3:Int)∧(i3:Int)<((y1.length:Nat):Int)) .nil) .nil ?_
   refine W.seq ?_
   obtain ⟨hc5,H⟩:=zag H
   obtain ⟨y6,hy7,H⟩:=zah H
   refine W.region env [] [⟨.int .i64 (y6),[],0,[]⟩] rfl rfl (by kernel_rfl) (.cons hc5 .nil) (.free (zcb p0.closet (p0.mantles.getD ((y1.getD i3 default)).toNat default) hy7) .nil) (At.keep (ts:=[1,2,3,7,9,22,23,24,37]) (ids:=[3,507]) rfl rfl ?_)
   refine At.zai ?_
   refine W.cond rfl (fun hb8=>?_) (fun hb8=>?_)
   · have H:=zam H hb8
     obtain ⟨hc9,H⟩:=zag H
     refine W.region env [] [] rfl rfl rfl (.cons (⟨by first|rfl|(simp;done)|omega|(simp;omega),by have:=hc9;first|simpa using this|(unfold room at this ⊢;simp at this ⊢;omega)⟩) .nil) .nil (At.keep (ts:=[1,2,3,7,22,23,24]) (ids:=[3,507]) rfl rfl ?_)
     refine At.zbk (.cons (.refl _) (.cons (y:=bufL 3 1 zae (s3++([(y1.getD i3 default)]:List Int))) (BSim.seg (Seg.push (Seg.refl zae _) (Seg.lit (f:=zae) (sz:=1) ([(y1.getD i3 default)]:List Int) rfl rfl (fun _=>rfl)))) .nil)) ?_
     refine At.inb ?_
     refine At.zai ?_
     refine W.region env [] [] rfl rfl rfl (.cons (by unfold inI;have:=hn3;(try unfold maxLen at this);omega) .nil) .nil (At.keep (ts:=[1,2,3,7,22,23,24]) (ids:=[3,507]) rfl rfl ?_)
     refine At.zaE (At.keep (ts:=[1,2,3,7,22,23,24]) (ids:=[3,507]) rfl rfl ?_)
     exact At.conv (.cons .qi (.cons .q (.cons .q (.cons .qb (.cons .q (.cons .qi (.cons .qi .nil))))))) (.cons .q (.cons .q .nil)) (hK3 hi3 (s3++([(y1.getD i3 default)]:List Int)) H)
   · have H:=zal H hb8
     refine W.skip ?_
     refine At.inb ?_
     refine At.zai ?_
     refine W.region env [] [] rfl rfl rfl (.cons (by unfold inI;have:=hn3;(try unfold maxLen at this);omega) .nil) .nil (At.keep (ts:=[1,2,3,7,22,23,24]) (ids:=[3,507]) rfl rfl ?_)
     refine At.zaE (At.keep (ts:=[1,2,3,7,22,23,24]) (ids:=[3,507]) rfl rfl ?_)
     exact At.conv (.cons .qi (.cons .q (.cons .q (.cons .qb (.cons .q (.cons .qi (.cons .qi .nil))))))) (.cons .q (.cons .q .nil)) (hK3 hi3 s3 H)
 · have H:=H2 (by have:=of_decide_eq_false hb4;omega)
   refine W.exit ?_
   refine At.xthen ?_
   refine At.xthen ?_
   refine At.xhere ?_
   refine At.zai ?_
   refine W.seq ?_
   obtain ⟨hc10,H⟩:=zag H
   obtain ⟨hc11,H⟩:=zag H
   refine W.region env [] [] rfl rfl rfl (.cons (by first|rfl|(simp;done)|omega|(simp;omega)) (.cons hc10 (.cons hc11 .nil))) .nil (At.keep (ts:=[2,3,7,10]) (ids:=[3,46,507]) rfl rfl ?_)
   refine At.zbk (.cons (.refl _) (.cons (y:=bufL 56 1 (encN 1 zae) (List.replicate ((((s3.length:Nat):Int)+1)).toNat ([]:(List Int)))) (BSim.madeN) (.cons (.refl _) .nil))) ?_
   refine At.zai ?_
   refine W.seq ?_
   obtain ⟨hc12,H⟩:=zag H
   obtain ⟨hc13,H⟩:=zag H
   refine W.region env [] [] rfl rfl rfl (.cons (by first|rfl|(simp;done)|omega|(simp;omega)) (.cons hc12 (.cons hc13 .nil))) .nil (At.keep (ts:=[2,3,7,10,11]) (ids:=[3,46,50,507]) rfl rfl ?_)
   refine At.zbk (.cons (.refl _) (.cons (.refl _) (.cons (y:=bufL 3 1 zae (List.replicate ((((s3.length:Nat):Int)+1)).toNat (0:Int))) (BSim.seg (Seg.made (f:=zae) 0 rfl)) (.cons (.refl _) .nil)))) ?_
   refine At.zai ?_
   refine W.seq ?_
   refine W.sr env [] [] [2,3,7,10,11,51,52,53] [3,46,50,507] rfl rfl rfl (.cons (by first|rfl|(simp;done)|omega|(simp;omega)) .nil) .nil ?_
   refine W.block ?_
   refine At.keep (ts:=[2,3,7,10,11,51,52,53]) (ids:=[3,46,50,507]) rfl rfl ?_
   obtain ⟨hn14,H⟩:=zag H
   refine W.zau H (fun i14 (s14:(List (List Int))×(List Int))=>[(2,.bool (p2)),(3,.lp 3 0),(7,.buf 507 (s3).length),(10,.buf 46 (s14.1).length),(11,.buf 50 (s14.2).length),(51,.buf 507 (s3).length),(52,.int .i64 (((s3.length:Nat):Int))),(53,.int .i64 ((i14:Int)))]) (fun i14 (s14:(List (List Int))×(List Int))=>[(3,.cells [roL 3 zad p0.closet.w.Batches,roL 6 zaa p0.closet.w.Mantles,roL 7 zaf p0.closet.w.Burns,roL 6 zac p0.closet.w.Looks,.int .i64 (p0.closet.known),romL (.agg #[.slice none 0 0,.slice none 0 0,.slice none 0 0,.slice none 0 0,.slice none 0 0,.slice none 0 0]) (fun (x:mantle_coat)=>.agg [roL 3 zad x.w.Batches,roL 6 zaa x.w.Mantles,roL 7 zaf x.w.Burns,roL 6 zac x.w.Looks,roL 1 zae x.burns,roL 2 zab x.sights]) p0.closet.coats,roL 2 zao p0.closet.lives,roL 1 zae p0.lamps,roL 1 zae p0.mantles,.int .i64 (p0.night)]),(46,bufL 56 1 (encN 1 zae) s14.1),(50,bufL 3 1 zae s14.2),(507,bufL 3 1 zae s3)]) (.cons .q (.cons .q (.cons .qb (.cons .qb (.cons .qb (.cons .qb (.cons .qi (.cons .qi .nil)))))))) (.cons .q (.cons .q (.cons .q (.cons .q .nil)))) (fun k14 i14 s14 hle14 H1 H2 K0 hK14=>?_)
   refine W.rg env [2,3,7,10,11,51,52,53,54] [3,46,50,507] ?_
   refine W.seq ?_
   refine W.cond rfl (fun hb15=>?_) (fun hb15=>?_)
   · have hi14:i14<s3.length:=by have:=of_decide_eq_true hb15;omega
     have H:=H1 hi14
     refine W.skip ?_
     refine At.zai ?_
     refine W.seq ?_
     refine W.block ?_
     refine W.sr env [] [] [2,3,7,10,11,13,51,52,53] [3,46,50,507] rfl rfl rfl (.cons (⟨by first|rfl|(simp;done)|omega|(simp;omega),(⟨by omega,by omega⟩:0≤(i14:Int)∧(i14:Int)<((s3.length:Nat):Int))⟩) (.cons (⟨by first|rfl|(simp;done)|omega|(simp;omega),(by have:=(⟨by omega,by omega⟩:0≤(i14:Int)∧(i14:Int)<((s3.length:Nat):Int));first|omega|(simp only [List.length_set];omega)|(simp only [Int.toNat_natCast] at *;omega)|(simp at this ⊢;omega))⟩) .nil)) .nil ?_
     refine W.seq ?_
     obtain ⟨y16,hy17,H⟩:=zah H
     refine W.region env [] [⟨.agg [roL 3 zad y16.closet.w.Batches,roL 6 zaa y16.closet.w.Mantles,roL 7 zaf y16.closet.w.Burns,roL 6 zac y16.closet.w.Looks,.int .i64 (y16.closet.known),romL (.agg #[.slice none 0 0,.slice none 0 0,.slice none 0 0,.slice none 0 0,.slice none 0 0,.slice none 0 0]) (fun (x:mantle_coat)=>.agg [roL 3 zad x.w.Batches,roL 6 zaa x.w.Mantles,roL 7 zaf x.w.Burns,roL 6 zac x.w.Looks,roL 1 zae x.burns,roL 2 zab x.sights]) y16.closet.coats,roL 2 zao y16.closet.lives,roL 1 zae y16.lamps,roL 1 zae y16.mantles,.int .i64 (y16.night)],[],0,[]⟩] rfl rfl rfl .nil (.free (Ctr.sim (.cons (.refl _) (.cons (Sim.lit (f:=zae) ([(s3.getD i14 default)]:List Int) rfl rfl (fun _=>rfl)) (.cons (.refl _) .nil))) (zcK p0 ([(s3.getD i14 default)]:List Int) p2 hy17)) .nil) (At.keep (ts:=[2,3,7,10,11,13,14,51,52,53]) (ids:=[3,14,46,50,507]) rfl rfl ?_)
     refine At.zai ?_
     refine W.rg env [2,3,7,10,11,13,14,15,51,52,53] [3,14,46,50,507] ?_
     refine W.seq ?_
     refine W.sr env [] [] [2,3,7,10,11,13,14,15,51,52,53,62,63,64] [3,14,46,50,507] rfl rfl rfl (.cons (by first|rfl|(simp;done)|omega|(simp;omega)) .nil) .nil ?_
     refine W.block ?_
     refine At.zgp 15 515 3 1 (e:=fun i=>zae (([]:List Int).getD i default)) rfl rfl ?_
     refine At.keep (ts:=[2,3,7,10,11,13,14,15,51,52,53,62,63,64]) (ids:=[3,14,46,50,507,515]) rfl rfl ?_
     obtain ⟨hn18,H⟩:=zag H
     refine W.zau H (fun i18 (s18:(List Int))=>[(2,.bool (p2)),(3,.lp 3 0),(7,.buf 507 (s3).length),(10,.buf 46 (s14.1).length),(11,.buf 50 (s14.2).length),(13,.int .i64 ((s3.getD i14 default))),(14,.lp 14 0),(15,.buf 515 (s18).length),(51,.buf 507 (s3).length),(52,.int .i64 (((s3.length:Nat):Int))),(53,.int .i64 ((i14:Int))),(62,.buf 507 (s3).length),(63,.int .i64 (((s3.length:Nat):Int))),(64,.int .i64 ((i18:Int)))]) (fun i18 (s18:(List Int))=>[(3,.cells [roL 3 zad p0.closet.w.Batches,roL 6 zaa p0.closet.w.Mantles,roL 7 zaf p0.closet.w.Burns,roL 6 zac p0.closet.w.Looks,.int .i64 (p0.closet.known),romL (.agg #[.slice none 0 0,.slice none 0 0,.slice none 0 0,.slice none 0 0,.slice none 0 0,.slice none 0 0]) (fun (x:mantle_coat)=>.agg [roL 3 zad x.w.Batches,roL 6 zaa x.w.Mantles,roL 7 zaf x.w.Burns,roL 6 zac x.w.Looks,roL 1 zae x.burns,roL 2 zab x.sights]) p0.closet.coats,roL 2 zao p0.closet.lives,roL 1 zae p0.lamps,roL 1 zae p0.mantles,.int .i64 (p0.night)]),(14,.cells [roL 3 zad y16.closet.w.Batches,roL 6 zaa y16.closet.w.Mantles,roL 7 zaf y16.closet.w.Burns,roL 6 zac y16.closet.w.Looks,.int .i64 (y16.closet.known),romL (.agg #[.slice none 0 0,.slice none 0 0,.slice none 0 0,.slice none 0 0,.slice none 0 0,.slice none 0 0]) (fun (x:mantle_coat)=>.agg [roL 3 zad x.w.Batches,roL 6 zaa x.w.Mantles,roL 7 zaf x.w.Burns,roL 6 zac x.w.Looks,roL 1 zae x.burns,roL 2 zab x.sights]) y16.closet.coats,roL 2 zao y16.closet.lives,roL 1 zae y16.lamps,roL 1 zae y16.mantles,.int .i64 (y16.night)]),(46,bufL 56 1 (encN 1 zae) s14.1),(50,bufL 3 1 zae s14.2),(507,bufL 3 1 zae s3),(515,bufL 3 1 zae s18)]) (.cons .q (.cons .q (.cons .qb (.cons .qb (.cons .qb (.cons .qi (.cons .q (.cons .qb (.cons .qb (.cons .qi (.cons .qi (.cons .qb (.cons .qi (.cons .qi .nil)))))))))))))) (.cons .q (.cons .q (.cons .q (.cons .q (.cons .q (.cons .q .nil)))))) (fun k18 i18 s18 hle18 H1 H2 K0 hK18=>?_)
     refine W.rg env [2,3,7,10,11,13,14,15,51,52,53,62,63,64,65] [3,14,46,50,507,515] ?_
     refine W.seq ?_
     refine W.cond rfl (fun hb19=>?_) (fun hb19=>?_)
     · have hi18:i18<s3.length:=by have:=of_decide_eq_true hb19;omega
       have H:=H1 hi18
       refine W.skip ?_
       refine At.zai ?_
       refine W.seq ?_
       refine W.block ?_
       refine W.sr env [] [] [2,3,7,10,11,13,14,15,17,51,52,53,62,63,64] [3,14,46,50,507,515] rfl rfl rfl (.cons (⟨by first|rfl|(simp;done)|omega|(simp;omega),(⟨by omega,by omega⟩:0≤(i18:Int)∧(i18:Int)<((s3.length:Nat):Int))⟩) (.cons (⟨by first|rfl|(simp;done)|omega|(simp;omega),(by have:=(⟨by omega,by omega⟩:0≤(i18:Int)∧(i18:Int)<((s3.length:Nat):Int));first|omega|(simp only [List.length_set];omega)|(simp only [Int.toNat_natCast] at *;omega)|(simp at this ⊢;omega))⟩) .nil)) .nil ?_
       refine W.seq ?_
       obtain ⟨hc20,H⟩:=zag H
       obtain ⟨y21,hy22,H⟩:=zah H
       refine W.region env [] [⟨.int .i64 (y21),[],0,[]⟩] rfl rfl (by kernel_rfl) (.cons id (.cons id (.cons hc20 (.cons id (.cons id (.cons id (.cons id (.cons id (.cons id (.cons id (.cons id (.cons id .nil)))))))))))) (.on (fun hW=>zbh y16.closet (p0.mantles.getD ((s3.getD i18 default)).toNat default) p0.night (zam hy22 hW)) .nil) (At.keep (ts:=[2,3,7,10,11,13,14,15,17,51,52,53,62,63,64,83]) (ids:=[3,14,46,50,507,515]) rfl rfl ?_)
       refine At.zai ?_
       refine W.cond rfl (fun hb23=>?_) (fun hb23=>?_)
       · have H:=zam H hb23
         obtain ⟨hc24,H⟩:=zag H
         refine W.region env [] [] rfl rfl rfl (.cons (⟨by first|rfl|(simp;done)|omega|(simp;omega),by have:=hc24;first|simpa using this|(unfold room at this ⊢;simp at this ⊢;omega)⟩) .nil) .nil (At.keep (ts:=[2,3,7,10,11,13,14,15,51,52,53,62,63,64]) (ids:=[3,14,46,50,507,515]) rfl rfl ?_)
         refine At.zbk (.cons (.refl _) (.cons (.refl _) (.cons (.refl _) (.cons (.refl _) (.cons (.refl _) (.cons (y:=bufL 3 1 zae (s18++([(s3.getD i18 default)]:List Int))) (BSim.seg (Seg.push (Seg.refl zae _) (Seg.lit (f:=zae) (sz:=1) ([(s3.getD i18 default)]:List Int) rfl rfl (fun _=>rfl)))) .nil)))))) ?_
         refine At.inb ?_
         refine At.zai ?_
         refine W.region env [] [] rfl rfl rfl (.cons (by unfold inI;have:=hn18;(try unfold maxLen at this);omega) .nil) .nil (At.keep (ts:=[2,3,7,10,11,13,14,15,51,52,53,62,63,64]) (ids:=[3,14,46,50,507,515]) rfl rfl ?_)
         refine At.zaE (At.keep (ts:=[2,3,7,10,11,13,14,15,51,52,53,62,63,64]) (ids:=[3,14,46,50,507,515]) rfl rfl ?_)
         exact At.conv (.cons .q (.cons .q (.cons .qb (.cons .qb (.cons .qb (.cons .qi (.cons .q (.cons .qb (.cons .qb (.cons .qi (.cons .qi (.cons .qb (.cons .qi (.cons .qi .nil)))))))))))))) (.cons .q (.cons .q (.cons .q (.cons .q (.cons .q (.cons .q .nil)))))) (hK18 hi18 (s18++([(s3.getD i18 default)]:List Int)) H)
       · have H:=zal H hb23
         refine W.skip ?_
         refine At.inb ?_
         refine At.zai ?_
         refine W.region env [] [] rfl rfl rfl (.cons (by unfold inI;have:=hn18;(try unfold maxLen at this);omega) .nil) .nil (At.keep (ts:=[2,3,7,10,11,13,14,15,51,52,53,62,63,64]) (ids:=[3,14,46,50,507,515]) rfl rfl ?_)
         refine At.zaE (At.keep (ts:=[2,3,7,10,11,13,14,15,51,52,53,62,63,64]) (ids:=[3,14,46,50,507,515]) rfl rfl ?_)
         exact At.conv (.cons .q (.cons .q (.cons .qb (.cons .qb (.cons .qb (.cons .qi (.cons .q (.cons .qb (.cons .qb (.cons .qi (.cons .qi (.cons .qb (.cons .qi (.cons .qi .nil)))))))))))))) (.cons .q (.cons .q (.cons .q (.cons .q (.cons .q (.cons .q .nil)))))) (hK18 hi18 s18 H)
     · have H:=H2 (by have:=of_decide_eq_false hb19;omega)
       refine W.exit ?_
       refine At.xthen ?_
       refine At.xthen ?_
       refine At.xhere ?_
       refine At.zai ?_
       obtain ⟨hc25,H⟩:=zag H
       refine W.sr env [] [] [2,3,7,10,11,13,15,51,52,53,91,92] [3,46,50,507,515] rfl rfl rfl (.cons (by first|rfl|(simp;done)|omega|(simp;omega)) (.cons hc25 .nil)) .nil ?_
       refine W.block ?_
       refine At.znP 515 (K:=[3,46,50,507]) (ts:=[2,3,7,10,11,13,15,51,52,53,91,92]) rfl rfl rfl rfl (.cons (by first|rfl|(simp;done)|omega|(simp;omega)) .nil) .nil (fun _ h=>h) ?_
       refine At.keep (ts:=[2,3,7,10,11,13,15,51,52,53,91,92]) (ids:=[3,46,50,507]) rfl rfl ?_
       obtain ⟨hn26,H⟩:=zag H
       refine W.zau H (fun i26 (s26:(List (List Int))×(List Int))=>[(2,.bool (p2)),(3,.lp 3 0),(7,.buf 507 (s3).length),(10,.buf 46 (s26.1).length),(11,.buf 50 (s26.2).length),(13,.int .i64 ((s3.getD i14 default))),(15,roL 1 zae s18),(51,.buf 507 (s3).length),(52,.int .i64 (((s3.length:Nat):Int))),(53,.int .i64 ((i14:Int))),(91,.int .i64 ((((s3.length:Nat):Int)+1))),(92,.int .i64 ((i26:Int)))]) (fun i26 (s26:(List (List Int))×(List Int))=>[(3,.cells [roL 3 zad p0.closet.w.Batches,roL 6 zaa p0.closet.w.Mantles,roL 7 zaf p0.closet.w.Burns,roL 6 zac p0.closet.w.Looks,.int .i64 (p0.closet.known),romL (.agg #[.slice none 0 0,.slice none 0 0,.slice none 0 0,.slice none 0 0,.slice none 0 0,.slice none 0 0]) (fun (x:mantle_coat)=>.agg [roL 3 zad x.w.Batches,roL 6 zaa x.w.Mantles,roL 7 zaf x.w.Burns,roL 6 zac x.w.Looks,roL 1 zae x.burns,roL 2 zab x.sights]) p0.closet.coats,roL 2 zao p0.closet.lives,roL 1 zae p0.lamps,roL 1 zae p0.mantles,.int .i64 (p0.night)]),(46,bufL 56 1 (encN 1 zae) s26.1),(50,bufL 3 1 zae s26.2),(507,bufL 3 1 zae s3)]) (.cons .q (.cons .q (.cons .qb (.cons .qb (.cons .qb (.cons .qi (.cons .q (.cons .qb (.cons .qi (.cons .qi (.cons .qi (.cons .qi .nil)))))))))))) (.cons .q (.cons .q (.cons .q (.cons .q .nil)))) (fun k26 i26 s26 hle26 H1 H2 K0 hK26=>?_)
       refine W.rg env [2,3,7,10,11,13,15,51,52,53,91,92,93] [3,46,50,507] ?_
       refine W.seq ?_
       refine W.cond rfl (fun hb27=>?_) (fun hb27=>?_)
       · have hi26:i26<((((s3.length:Nat):Int)+1)).toNat:=by have:=of_decide_eq_true hb27;omega
         have H:=H1 hi26
         refine W.skip ?_
         refine At.zai ?_
         refine W.seq ?_
         refine W.zjJ H (fun (s28:(List (List Int))×(List Int))=>[(2,.bool (p2)),(3,.lp 3 0),(7,.buf 507 (s3).length),(10,.buf 46 (s28.1).length),(11,.buf 50 (s28.2).length),(13,.int .i64 ((s3.getD i14 default))),(15,roL 1 zae s18),(51,.buf 507 (s3).length),(52,.int .i64 (((s3.length:Nat):Int))),(53,.int .i64 ((i14:Int))),(91,.int .i64 ((((s3.length:Nat):Int)+1))),(92,.int .i64 ((i26:Int)))]) (fun (s28:(List (List Int))×(List Int))=>[(3,.cells [roL 3 zad p0.closet.w.Batches,roL 6 zaa p0.closet.w.Mantles,roL 7 zaf p0.closet.w.Burns,roL 6 zac p0.closet.w.Looks,.int .i64 (p0.closet.known),romL (.agg #[.slice none 0 0,.slice none 0 0,.slice none 0 0,.slice none 0 0,.slice none 0 0,.slice none 0 0]) (fun (x:mantle_coat)=>.agg [roL 3 zad x.w.Batches,roL 6 zaa x.w.Mantles,roL 7 zaf x.w.Burns,roL 6 zac x.w.Looks,roL 1 zae x.burns,roL 2 zab x.sights]) p0.closet.coats,roL 2 zao p0.closet.lives,roL 1 zae p0.lamps,roL 1 zae p0.mantles,.int .i64 (p0.night)]),(46,bufL 56 1 (encN 1 zae) s28.1),(50,bufL 3 1 zae s28.2),(507,bufL 3 1 zae s3)]) (fun s28 H=>?_) (fun k28 H hK28=>?_)
         · refine W.region env [] [] rfl rfl rfl (.cons (by unfold inI;have:=hn26;(try unfold maxLen at this);omega) .nil) .nil (At.keep (ts:=[2,3,7,10,11,13,15,51,52,53,91,92]) (ids:=[3,46,50,507]) rfl rfl ?_)
           refine At.zaE (At.keep (ts:=[2,3,7,10,11,13,15,51,52,53,91,92]) (ids:=[3,46,50,507]) rfl rfl ?_)
           exact At.conv (.cons .q (.cons .q (.cons .qb (.cons .qb (.cons .qb (.cons .qi (.cons .q (.cons .qb (.cons .qi (.cons .qi (.cons .qi (.cons .qi .nil)))))))))))) (.cons .q (.cons .q (.cons .q (.cons .q .nil)))) (hK26 hi26 (s28.1,s28.2) H)
         · refine W.block ?_
           refine W.rg env [2,3,7,10,11,13,15,18,51,52,53,91,92] [3,46,50,507] ?_
           refine W.seq ?_
           refine W.rg env [2,3,7,10,11,13,15,18,51,52,53,91,92,96] [3,46,50,507] ?_
           refine W.cond rfl (fun hb29=>?_) (fun hb29=>?_)
           · have H:=zam H hb29
             refine W.exit ?_
             refine At.xthen ?_
             refine At.xhere ?_
             refine At.zaE (At.keep (ts:=[2,3,7,10,11,13,15,51,52,53,91,92]) (ids:=[3,46,50,507]) rfl rfl ?_)
             exact At.conv (.cons .q (.cons .q (.cons .qb (.cons .qb (.cons .qb (.cons .qi (.cons .q (.cons .qb (.cons .qi (.cons .qi (.cons .qi (.cons .qi .nil)))))))))))) (.cons .q (.cons .q (.cons .q (.cons .q .nil)))) (hK28 (s26.1,s26.2) H)
           · have H:=zal H hb29
             refine W.skip ?_
             refine At.zai ?_
             refine W.seq ?_
             obtain ⟨hc30,H⟩:=zag H
             obtain ⟨hc31,H⟩:=zag H
             obtain ⟨hc32,H⟩:=zag H
             refine W.region env [98,16777322] [] rfl rfl rfl (.cons hc30 (.cons hc31 (.cons (⟨(by first|rfl|(simp;done)|omega|(simp;omega)),(⟨by first|rfl|(simp;done)|omega|(simp;omega),by have:=hc32;first|simpa using this|(unfold room at this ⊢;simp at this ⊢;omega)⟩)⟩) .nil))) .nil (At.keep (ts:=[2,3,7,10,11,13,15,18,19,51,52,53,91,92]) (ids:=[3,46,50,507]) rfl rfl ?_)
             refine At.slot (t:=19) (v:=roL 1 zae (([(s3.getD i14 default)]:List Int)++(s18.take ((min ((i26:Int) - 1) ((s18.length:Nat):Int))).toNat))) (Sim.seg (Seg.push (Seg.lit (f:=zae) (sz:=1) ([(s3.getD i14 default)]:List Int) rfl rfl (fun _=>rfl)) (Seg.take zae s18 (((min ((i26:Int) - 1) ((s18.length:Nat):Int))).toNat) (by omega)))) ?_
             refine At.zai ?_
             refine W.seq ?_
             obtain ⟨y33,hy34,H⟩:=zah H
             refine W.region env [] [⟨.int .i64 (y33),[],0,[]⟩] rfl rfl rfl .nil (.free (zcs p0 (([(s3.getD i14 default)]:List Int)++(s18.take ((min ((i26:Int) - 1) ((s18.length:Nat):Int))).toNat)) p2 hy34) .nil) (At.keep (ts:=[2,3,7,10,11,13,15,18,19,20,51,52,53,91,92]) (ids:=[3,46,50,507]) rfl rfl ?_)
             refine At.zai ?_
             obtain ⟨hc35,H⟩:=zag H
             obtain ⟨hc36,H⟩:=zag H
             refine W.sr env [] [] [2,3,7,10,11,13,15,18,19,20,51,52,53,91,92,123] [3,46,50,507] rfl rfl rfl (.cons (⟨by first|rfl|(simp;done)|omega|(simp;omega),hc35⟩) (.cons (⟨by first|rfl|(simp;done)|omega|(simp;omega),(by have:=hc35;first|omega|(simp only [List.length_set];omega)|(simp only [Int.toNat_natCast] at *;omega)|(simp at this ⊢;omega))⟩) (.cons (fun hW=>⟨by first|rfl|(simp;done)|omega|(simp;omega),hc36 hW⟩) (.cons id (.cons id (.cons (fun hW=>(⟨by first|rfl|(simp;done)|omega|(simp;omega),(by have:=hc36 hW;first|omega|(simp only [List.length_set];omega)|(simp only [Int.toNat_natCast] at *;omega)|(simp at this ⊢;omega))⟩)) (.cons id (.cons id (.cons id (.cons (fun h=>by rw [h];rfl) .nil)))))))))) .nil ?_
             refine W.cond rfl (fun hb37=>?_) (fun hb37=>?_)
             · have H:=zam H hb37
               obtain ⟨hc38,H⟩:=zag H
               obtain ⟨hc39,H⟩:=zag H
               obtain ⟨hc40,H⟩:=zag H
               refine W.region env [] [] rfl rfl rfl (.cons (⟨by first|rfl|(simp;done)|omega|(simp;omega),hc38⟩) (.cons (⟨by first|rfl|(simp;done)|omega|(simp;omega),(by have:=hc38;first|omega|(simp only [List.length_set];omega)|(simp only [Int.toNat_natCast] at *;omega)|(simp at this ⊢;omega))⟩) (.cons (⟨by first|rfl|(simp;done)|omega|(simp;omega),hc40⟩) (.cons (⟨by first|rfl|(simp;done)|omega|(simp;omega),(by have:=hc40;first|omega|(simp only [List.length_set];omega)|(simp only [Int.toNat_natCast] at *;omega)|(simp at this ⊢;omega))⟩) .nil)))) .nil (At.keep (ts:=[2,3,7,10,11,13,15,51,52,53,91,92]) (ids:=[3,46,50,507]) rfl rfl ?_)
               refine At.zbk (.cons (.refl _) (.cons (y:=bufL 56 1 (encN 1 zae) (s26.1.set i26 (([(s3.getD i14 default)]:List Int)++(s18.take ((min ((i26:Int) - 1) ((s18.length:Nat):Int))).toNat)))) (BSim.setS (Seg.refl (encN 1 zae) _) (([(s3.getD i14 default)]:List Int)++(s18.take ((min ((i26:Int) - 1) ((s18.length:Nat):Int))).toNat)) (.cons (Sim.nsOf hc39) .nil)) (.cons (y:=bufL 3 1 zae (s26.2.set i26 y33)) (BSim.seg (Seg.set (Seg.refl zae _) y33 rfl)) (.cons (.refl _) .nil)))) ?_
               refine At.inb ?_
               refine At.zaE (At.keep (ts:=[2,3,7,10,11,13,15,51,52,53,91,92]) (ids:=[3,46,50,507]) rfl rfl ?_)
               exact At.conv (.cons .q (.cons .q (.cons .qb (.cons .qb (.cons .qb (.cons .qi (.cons .q (.cons .qb (.cons .qi (.cons .qi (.cons .qi (.cons .qi .nil)))))))))))) (.cons .q (.cons .q (.cons .q (.cons .q .nil)))) (hK28 ((s26.1.set i26 (([(s3.getD i14 default)]:List Int)++(s18.take ((min ((i26:Int) - 1) ((s18.length:Nat):Int))).toNat))),(s26.2.set i26 y33)) H)
             · have H:=zal H hb37
               refine W.skip ?_
               refine At.inb ?_
               refine At.zaE (At.keep (ts:=[2,3,7,10,11,13,15,51,52,53,91,92]) (ids:=[3,46,50,507]) rfl rfl ?_)
               exact At.conv (.cons .q (.cons .q (.cons .qb (.cons .qb (.cons .qb (.cons .qi (.cons .q (.cons .qb (.cons .qi (.cons .qi (.cons .qi (.cons .qi .nil)))))))))))) (.cons .q (.cons .q (.cons .q (.cons .q .nil)))) (hK28 (s26.1,s26.2) H)
       · have H:=H2 (by have:=of_decide_eq_false hb27;omega)
         refine W.exit ?_
         refine At.xthen ?_
         refine At.xthen ?_
         refine At.xhere ?_
         refine At.inb ?_
         refine At.zai ?_
         refine W.region env [] [] rfl rfl rfl (.cons (by unfold inI;have:=hn14;(try unfold maxLen at this);omega) .nil) .nil (At.keep (ts:=[2,3,7,10,11,51,52,53]) (ids:=[3,46,50,507]) rfl rfl ?_)
         refine At.zaE (At.keep (ts:=[2,3,7,10,11,51,52,53]) (ids:=[3,46,50,507]) rfl rfl ?_)
         exact At.conv (.cons .q (.cons .q (.cons .qb (.cons .qb (.cons .qb (.cons .qb (.cons .qi (.cons .qi .nil)))))))) (.cons .q (.cons .q (.cons .q (.cons .q .nil)))) (hK14 hi14 (s26.1,s26.2) H)
   · have H:=H2 (by have:=of_decide_eq_false hb15;omega)
     refine W.exit ?_
     refine At.xthen ?_
     refine At.xthen ?_
     refine At.xhere ?_
     refine At.zai ?_
     refine W.rg env [6] [46] ?_
     refine W.ret ?_
     cases H
     exact At.ret env.ty rfl rfl (fun q hq=>by cases hq;exact (by first|rfl|(simp;done)|omega|(simp;omega))) Sim.roN hval
theorem zeW (p1:Int) {r:(List Int)} (H:zcU p1=some r):CtrO Tryz.prog 195 [.nilS,.int .i64 p1] [] (.buf 900 r.length) [(900,bufL 3 1 zae r)]:=by
 unfold zcU at H
 refine CtrO.zap (N:=27) Tryz.func195 (by kernel_rfl) (c:=_) rfl Tryz.ntmps195 rfl (fun w0 h0 ρb hval hdom=>?_)
 refine W.rg env [0,1] [] ?_
 refine W.seq ?_
 refine W.rg env [0,1,6] [] ?_
 refine W.zjJ H (fun (s1:Unit)=>[(0,.nilS),(1,.int .i64 (p1))]) (fun (s1:Unit)=>[]) (fun s1 H=>?_) (fun k1 H hK1=>?_)
 · refine W.seq ?_
   obtain ⟨hc2,H⟩:=zag H
   obtain ⟨hc3,H⟩:=zag H
   refine W.sr env [] [] [0,1] [] rfl rfl rfl (.cons hc2 (.cons hc3 .nil)) .nil ?_
   refine W.rg env [0,1,16] [] ?_
   refine W.cond rfl (fun hb4=>?_) (fun hb4=>?_)
   · have H:=zam H hb4
     obtain ⟨hc5,H⟩:=zag H
     obtain ⟨hc6,H⟩:=zag H
     refine W.region env [] [] rfl rfl rfl (.cons rfl (.cons hc5 (.cons (⟨by first|rfl|(simp;done)|omega|(simp;omega),(by first|exact hc6|simpa using hc6)⟩) .nil))) .nil (At.keep (ts:=[0]) (ids:=[22]) rfl rfl ?_)
     refine At.zbk (.cons (y:=bufL 3 1 zae (List.replicate ((p1 - (0 - 0))).toNat (0:Int))) (BSim.seg (Seg.made (f:=zae) 0 rfl)) .nil) ?_
     refine At.zai ?_
     refine W.rg env [4] [22] ?_
     refine W.ret ?_
     cases H
     refine At.shrink 4 22 850 (K:=[]) (ts:=[]) rfl rfl (by first|rfl|(simp;done)|omega|(simp;omega)) (by have:=hc6;omega) rfl rfl rfl rfl ?_
     refine At.zbk (.cons (y:=bufL 3 1 zae ((List.replicate ((p1 - (0 - 0))).toNat (0:Int)).take 0)) (BSim.seg (Seg.first (Seg.refl zae _) (by have:=hc6;omega))) .nil) ?_
     exact At.retK env.ty [850] 50 rfl rfl rfl rfl (.cons (.refl _) .nil) (.of_eq (by refine zgz ?_;first|(simp [zbg];done)|omega|(simp [zbg];omega)|rfl)) hval hdom rfl
   · have H:=zal H hb4
     refine W.skip ?_
     refine At.zai ?_
     refine W.rg env [4] [] ?_
     refine W.ret ?_
     cases H
     refine At.zgp 4 800 3 1 (e:=fun i=>zae (([]:List Int).getD i default)) rfl rfl ?_
     exact At.retK env.ty [800] 100 rfl rfl rfl rfl (.cons (.refl _) .nil) (.of_eq (by refine zgz ?_;first|(simp [zbg];done)|omega|(simp [zbg];omega)|rfl)) hval hdom rfl
 · refine W.cond rfl (fun hb7=>?_) (fun hb7=>?_)
   · have H:=zam H hb7
     cases H
   · have H:=zal H hb7
     refine W.skip ?_
     refine At.zaE (At.keep (ts:=[0,1]) (ids:=[]) rfl rfl ?_)
     exact At.conv (.cons (by first|exact Sim.refl _|exact Sim.nil _ _) (.cons .qi .nil)) .nil (hK1 () H)
theorem zgb (p0:(List (List Int))) {r:(List Int)} (H:zdj p0=some r):Ctr Tryz.prog 164 [roL 1 zbK p0] (roL 1 zae r):=by
 unfold zdj at H
 refine Ctr.zap (N:=36) Tryz.func164 (by kernel_rfl) (c:=_) rfl Tryz.ntmps164 rfl (fun w0 h0 hval=>?_)
 refine W.rg env [0] [] ?_
 refine W.rg env [0,3] [] ?_
 refine W.seq ?_
 refine W.rg env [0,3,9,10,11] [] ?_
 refine W.block ?_
 refine At.keep (ts:=[0,3,9,10,11]) (ids:=[]) rfl rfl ?_
 refine W.len (t:=9) rfl (fun (hn1:p0.length≤maxLen)=>?_)
 refine W.zau H (fun i1 (s1:Int)=>[(0,roL 1 zbK p0),(3,.int .i64 (s1)),(9,roL 1 zbK p0),(10,.int .i64 (((p0.length:Nat):Int))),(11,.int .i64 ((i1:Int)))]) (fun i1 (s1:Int)=>[]) (.cons .q (.cons .qi (.cons .q (.cons .qi (.cons .qi .nil))))) .nil (fun k1 i1 s1 hle1 H1 H2 K0 hK1=>?_)
 refine W.rg env [0,3,9,10,11,12] [] ?_
 refine W.seq ?_
 refine W.cond rfl (fun hb2=>?_) (fun hb2=>?_)
 · have hi1:i1<p0.length:=by have:=of_decide_eq_true hb2;omega
   have H:=H1 hi1
   refine W.skip ?_
   refine At.zai ?_
   refine W.seq ?_
   refine W.block ?_
   refine W.sr env [] [] [0,3,5,9,10,11] [] rfl rfl rfl (.cons (⟨by omega,by omega⟩:0≤(i1:Int)∧(i1:Int)<((p0.length:Nat):Int)) .nil) .nil ?_
   obtain ⟨hc3,H⟩:=zag H
   refine W.sr env [] [] [0,3,9,10,11] [] rfl rfl rfl (.cons hc3 .nil) .nil ?_
   refine W.rg env [0,3,9,10,11,20] [] ?_
   refine W.cond rfl (fun hb4=>?_) (fun hb4=>?_)
   · have H:=zam H hb4
     cases H
   · have H:=zal H hb4
     refine W.skip ?_
     refine At.inb ?_
     refine At.zai ?_
     refine W.region env [] [] rfl rfl rfl (.cons (by unfold inI;have:=hn1;(try unfold maxLen at this);omega) .nil) .nil (At.keep (ts:=[0,3,9,10,11]) (ids:=[]) rfl rfl ?_)
     refine At.zaE (At.keep (ts:=[0,3,9,10,11]) (ids:=[]) rfl rfl ?_)
     exact At.conv (.cons .q (.cons .qi (.cons .q (.cons .qi (.cons .qi .nil))))) .nil (hK1 hi1 (s1+(((p0.getD i1 default).length:Nat):Int)) H)
 · have H:=H2 (by have:=of_decide_eq_false hb2;omega)
   refine W.exit ?_
   refine At.xthen ?_
   refine At.xthen ?_
   refine At.xhere ?_
   refine At.zai ?_
   refine W.seq ?_
   obtain ⟨y5,hy6,H⟩:=zah H
   refine W.region env [] [⟨.buf 900 y5.length,[(900,bufL 3 1 zae y5)],25000,[]⟩] rfl rfl (by kernel_rfl) .nil (.free (Ctr.ofO (zeW s1 hy6)) .nil) (At.keep (ts:=[0,6]) (ids:=[25900]) rfl rfl ?_)
   refine At.zai ?_
   refine W.seq ?_
   refine W.rg env [6,25,26,27] [25900] ?_
   refine W.block ?_
   refine At.keep (ts:=[6,25,26,27]) (ids:=[25900]) rfl rfl ?_
   refine W.len (t:=25) rfl (fun (hn7:p0.length≤maxLen)=>?_)
   refine W.zau H (fun i7 (s7:(List Int))=>[(6,.buf 25900 (s7).length),(25,roL 1 zbK p0),(26,.int .i64 (((p0.length:Nat):Int))),(27,.int .i64 ((i7:Int)))]) (fun i7 (s7:(List Int))=>[(25900,bufL 3 1 zae s7)]) (.cons .qb (.cons .q (.cons .qi (.cons .qi .nil)))) (.cons .q .nil) (fun k7 i7 s7 hle7 H1 H2 K0 hK7=>?_)
   refine W.rg env [6,25,26,27,28] [25900] ?_
   refine W.seq ?_
   refine W.cond rfl (fun hb8=>?_) (fun hb8=>?_)
   · have hi7:i7<p0.length:=by have:=of_decide_eq_true hb8;omega
     have H:=H1 hi7
     refine W.skip ?_
     refine At.zai ?_
     refine W.seq ?_
     refine W.block ?_
     refine W.sr env [] [] [6,8,25,26,27] [25900] rfl rfl rfl (.cons (⟨by omega,by omega⟩:0≤(i7:Int)∧(i7:Int)<((p0.length:Nat):Int)) .nil) .nil ?_
     obtain ⟨hc9,H⟩:=zag H
     refine W.region env [] [] rfl rfl rfl (.cons (⟨by first|rfl|(simp;done)|omega|(simp;omega),by have:=hc9;first|simpa using this|(unfold room at this ⊢;simp at this ⊢;omega)⟩) .nil) .nil (At.keep (ts:=[6,25,26,27]) (ids:=[25900]) rfl rfl ?_)
     refine At.zbk (.cons (y:=bufL 3 1 zae (s7++(p0.getD i7 default))) (BSim.seg (Seg.push (Seg.refl zae _) (Seg.refl zae (p0.getD i7 default)))) .nil) ?_
     refine At.inb ?_
     refine At.zai ?_
     refine W.region env [] [] rfl rfl rfl (.cons (by unfold inI;have:=hn7;(try unfold maxLen at this);omega) .nil) .nil (At.keep (ts:=[6,25,26,27]) (ids:=[25900]) rfl rfl ?_)
     refine At.zaE (At.keep (ts:=[6,25,26,27]) (ids:=[25900]) rfl rfl ?_)
     exact At.conv (.cons .qb (.cons .q (.cons .qi (.cons .qi .nil)))) (.cons .q .nil) (hK7 hi7 (s7++(p0.getD i7 default)) H)
   · have H:=H2 (by have:=of_decide_eq_false hb8;omega)
     refine W.exit ?_
     refine At.xthen ?_
     refine At.xthen ?_
     refine At.xhere ?_
     refine At.zai ?_
     refine W.rg env [2] [25900] ?_
     refine W.ret ?_
     cases H
     exact At.ret env.ty rfl rfl (fun q hq=>by cases hq;exact (by first|rfl|(simp;done)|omega|(simp;omega))) (.refl _) hval
theorem zfU (p0:Range) (p1:Int):Ctr Tryz.prog 122 [.agg [.int .i64 (p0.Lo),.int .i64 (p0.Hi)],.int .i64 (p1)] (.int .i64 ((zcp p0 p1))):=by
 obtain ⟨r,H⟩:∃ r,zcp p0 p1=r:=⟨_,rfl⟩
 rw [H]
 unfold zcp at H
 refine Ctr.zap (N:=15) Tryz.func122 (by kernel_rfl) (c:=_) rfl Tryz.ntmps122 rfl (fun w0 h0 hval=>?_)
 refine W.rg env [1,2] [2] ?_
 refine W.seq ?_
 refine W.block ?_
 refine W.rg env [1,2,5] [2] ?_
 refine W.cond rfl (fun hb1=>?_) (fun hb1=>?_)
 · have H:=zam H hb1
   refine W.rg env [4] [] ?_
   refine W.ret ?_
   refine At.rinb ?_
   refine At.rthen ?_
   cases H
   exact At.ret env.ty rfl rfl nofun (.refl _) hval
 · have H:=zal H hb1
   refine W.rg env [10] [] ?_
   refine W.cond rfl (fun hb2=>?_) (fun hb2=>?_)
   · have H:=zam H hb2
     refine W.rg env [4] [] ?_
     refine W.ret ?_
     refine At.rinb ?_
     refine At.rthen ?_
     cases H
     exact At.ret env.ty rfl rfl nofun (.refl _) hval
   · have H:=zal H hb2
     refine W.skip ?_
     refine At.inb ?_
     refine At.zai ?_
     refine W.rg env [4] [] ?_
     refine W.ret ?_
     cases H
     exact At.ret env.ty rfl rfl nofun (.refl _) hval
theorem zfp (p0:mantle_lot) (p1:(List Int)) (p2:Int) (p3:Bool) {r:Bool} (H:zcX p0 p1 p2 p3=some r):Ctr Tryz.prog 127 [.agg [roL 3 zad p0.closet.w.Batches,roL 6 zaa p0.closet.w.Mantles,roL 7 zaf p0.closet.w.Burns,roL 6 zac p0.closet.w.Looks,.int .i64 (p0.closet.known),romL (.agg #[.slice none 0 0,.slice none 0 0,.slice none 0 0,.slice none 0 0,.slice none 0 0,.slice none 0 0]) (fun (x:mantle_coat)=>.agg [roL 3 zad x.w.Batches,roL 6 zaa x.w.Mantles,roL 7 zaf x.w.Burns,roL 6 zac x.w.Looks,roL 1 zae x.burns,roL 2 zab x.sights]) p0.closet.coats,roL 2 zao p0.closet.lives,roL 1 zae p0.lamps,roL 1 zae p0.mantles,.int .i64 (p0.night)],roL 1 zae p1,.int .i64 (p2),.bool (p3)] (.bool (r)):=by
 unfold zcX at H
 refine Ctr.zap (N:=29) Tryz.func127 (by kernel_rfl) (c:=_) rfl Tryz.ntmps127 rfl (fun w0 h0 hval=>?_)
 refine W.rg env [1,2,3,4] [4] ?_
 refine W.seq ?_
 obtain ⟨y1,hy2,H⟩:=zah H
 refine W.region env [] [⟨.agg [roL 3 zad y1.closet.w.Batches,roL 6 zaa y1.closet.w.Mantles,roL 7 zaf y1.closet.w.Burns,roL 6 zac y1.closet.w.Looks,.int .i64 (y1.closet.known),romL (.agg #[.slice none 0 0,.slice none 0 0,.slice none 0 0,.slice none 0 0,.slice none 0 0,.slice none 0 0]) (fun (x:mantle_coat)=>.agg [roL 3 zad x.w.Batches,roL 6 zaa x.w.Mantles,roL 7 zaf x.w.Burns,roL 6 zac x.w.Looks,roL 1 zae x.burns,roL 2 zab x.sights]) y1.closet.coats,roL 2 zao y1.closet.lives,roL 1 zae y1.lamps,roL 1 zae y1.mantles,.int .i64 (y1.night)],[],0,[]⟩] rfl rfl rfl .nil (.free (zcK p0 p1 p3 hy2) .nil) (At.keep (ts:=[2,3,9]) (ids:=[9]) rfl rfl ?_)
 refine At.zai ?_
 refine W.seq ?_
 refine W.seq ?_
 obtain ⟨y3,hy4,H⟩:=zah H
 refine W.region env [] [⟨.bool (y3),[],0,[]⟩] rfl rfl rfl .nil (.free (za6 y1.closet hy4) .nil) (At.keep (ts:=[2,3,9,17]) (ids:=[9]) rfl rfl ?_)
 refine At.zai ?_
 refine W.cond rfl (fun hb5=>?_) (fun hb5=>?_)
 · have H:=zam H hb5
   refine W.rg env [8] [] ?_
   refine W.ret ?_
   refine At.rthen ?_
   cases H
   exact At.ret env.ty rfl rfl nofun (.refl _) hval
 · have H:=zal H hb5
   refine W.skip ?_
   refine At.zai ?_
   refine W.seq ?_
   refine W.rg env [2,9,18] [9] ?_
   refine W.cond rfl (fun hb6=>?_) (fun hb6=>?_)
   · have H:=zam H hb6
     refine W.seq ?_
     obtain ⟨y7,hy8,H⟩:=zah H
     refine W.region env [] [⟨.agg [.int .i64 (y7.Lo),.int .i64 (y7.Hi)],[],0,[]⟩,⟨.int .i64 ((zcp y7 p2)),[],0,[]⟩] rfl rfl rfl .nil (.free (zcJ y1 hy8) (.free (zfU y7 p2) .nil)) (At.keep (ts:=[8]) (ids:=[]) rfl rfl ?_)
     refine At.zai ?_
     refine W.ret ?_
     refine At.rthen ?_
     cases H
     exact At.ret env.ty rfl rfl nofun (.refl _) hval
   · have H:=zal H hb6
     refine W.skip ?_
     refine At.zai ?_
     refine W.seq ?_
     obtain ⟨y9,hy10,H⟩:=zah H
     refine W.region env [] [⟨.agg [.int .i64 (y9.Lo),.int .i64 (y9.Hi)],[],0,[]⟩,⟨.int .i64 ((zcp y9 p2)),[],0,[]⟩] rfl rfl rfl .nil (.free (zcJ y1 hy10) (.free (zfU y9 p2) .nil)) (At.keep (ts:=[8]) (ids:=[]) rfl rfl ?_)
     refine At.zai ?_
     refine W.ret ?_
     cases H
     exact At.ret env.ty rfl rfl nofun (.refl _) hval
theorem zeY (fuel:Nat) (p0:mantle_lot) (p1:Int) (p2:Bool) (post:((List Int)×Bool)→Option Unit) {r:Unit} (H:zcG fuel p0 p1 p2 post=some r):CtrN Tryz.prog 123 [.agg [roL 3 zad p0.closet.w.Batches,roL 6 zaa p0.closet.w.Mantles,roL 7 zaf p0.closet.w.Burns,roL 6 zac p0.closet.w.Looks,.int .i64 (p0.closet.known),romL (.agg #[.slice none 0 0,.slice none 0 0,.slice none 0 0,.slice none 0 0,.slice none 0 0,.slice none 0 0]) (fun (x:mantle_coat)=>.agg [roL 3 zad x.w.Batches,roL 6 zaa x.w.Mantles,roL 7 zaf x.w.Burns,roL 6 zac x.w.Looks,roL 1 zae x.burns,roL 2 zab x.sights]) p0.closet.coats,roL 2 zao p0.closet.lives,roL 1 zae p0.lamps,roL 1 zae p0.mantles,.int .i64 (p0.night)],.int .i64 (p1),.bool (p2)] (fun (y:((List Int)×Bool))=>.tup [roL 1 zae y.1,.bool (y.2)]) (fun y=>post y=some r):=by
 unfold zcG at H
 refine CtrN.zap (N:=107) Tryz.func123 (by kernel_rfl) (c:=_) rfl Tryz.ntmps123 rfl (fun w0 h0 hval=>?_)
 refine W.rg env [1,2,3] [3] ?_
 refine W.seq ?_
 refine W.region env [] [] rfl rfl rfl .nil .nil (At.keep (ts:=[1,2,3,8]) (ids:=[3,22]) rfl rfl ?_)
 refine At.zbk (.cons (.refl _) (.cons (y:=mapL (.slice none 0 0) (fun (x:(List Int))=>roL 1 zae x) ((Mp.empty:Mp (List Int)).set 0 [])) (BSim.zl3 (f:=(fun (x:(List Int))=>roL 1 zae x)) (zgf.set (zgf.empty (f:=(fun (x:(List Int))=>roL 1 zae x)) (Sim.nil _ _)) [] (Sim.nil _ _))) .nil)) ?_
 refine At.zai ?_
 refine W.seq ?_
 refine W.rg env [1,2,3,8,28,29] [3,22] ?_
 refine W.block ?_
 refine At.zkA 22 (K:=[3]) (ts:=[1,2,3,8,28,29]) rfl rfl rfl rfl (fun _ h=>h) ?_
 refine At.keep (ts:=[1,2,3,8,28,29]) (ids:=[3]) rfl rfl ?_
 obtain ⟨hn1,H⟩:=zag H
 refine W.zau H (fun i1 (s1:(Mp (List Int)))=>[(1,.int .i64 (p1)),(2,.bool (p2)),(3,.lp 3 0),(8,romL (.slice none 0 0) (fun (x:(List Int))=>roL 1 zae x) s1),(28,.int .i64 (((p0.closet.w.Batches.length:Nat):Int))),(29,.int .i64 ((i1:Int)))]) (fun i1 (s1:(Mp (List Int)))=>[(3,.cells [roL 3 zad p0.closet.w.Batches,roL 6 zaa p0.closet.w.Mantles,roL 7 zaf p0.closet.w.Burns,roL 6 zac p0.closet.w.Looks,.int .i64 (p0.closet.known),romL (.agg #[.slice none 0 0,.slice none 0 0,.slice none 0 0,.slice none 0 0,.slice none 0 0,.slice none 0 0]) (fun (x:mantle_coat)=>.agg [roL 3 zad x.w.Batches,roL 6 zaa x.w.Mantles,roL 7 zaf x.w.Burns,roL 6 zac x.w.Looks,roL 1 zae x.burns,roL 2 zab x.sights]) p0.closet.coats,roL 2 zao p0.closet.lives,roL 1 zae p0.lamps,roL 1 zae p0.mantles,.int .i64 (p0.night)])]) (.cons .qi (.cons .q (.cons .q (.cons .q (.cons .qi (.cons .qi .nil)))))) (.cons .q .nil) (fun k1 i1 s1 hle1 H1 H2 K0 hK1=>?_)
 refine W.rg env [1,2,3,8,28,29,30] [3] ?_
 refine W.seq ?_
 refine W.cond rfl (fun hb2=>?_) (fun hb2=>?_)
 · have hi1:i1<p0.closet.w.Batches.length:=by have:=of_decide_eq_true hb2;omega
   have H:=H1 hi1
   refine W.skip ?_
   refine At.zai ?_
   refine W.seq ?_
   refine W.block ?_
   refine W.rg env [1,2,3,8,9,28,29] [3] ?_
   refine W.seq ?_
   obtain ⟨y3,hy4,H⟩:=zah H
   refine W.region env [] [⟨roL 1 zbK y3,[],0,[]⟩] rfl rfl rfl .nil (.free (zgd p0 (i1:Int) p2 hy4) .nil) (At.keep (ts:=[1,2,3,8,10,28,29]) (ids:=[3]) rfl rfl ?_)
   refine At.zai ?_
   refine W.seq ?_
   refine W.region env [] [] rfl rfl rfl .nil .nil (At.keep (ts:=[1,2,3,8,10,11,28,29]) (ids:=[3,36]) rfl rfl ?_)
   refine At.zbk (.cons (.refl _) (.cons (y:=mapL (.slice none 0 0) (fun (x:(List Int))=>roL 1 zae x) (Mp.empty:Mp (List Int))) (BSim.zl3 (f:=(fun (x:(List Int))=>roL 1 zae x)) (zgf.empty (f:=(fun (x:(List Int))=>roL 1 zae x)) (Sim.nil _ _))) .nil)) ?_
   refine At.zai ?_
   refine W.seq ?_
   refine W.rg env [1,2,3,10,11,28,29,38] [3,36,38] ?_
   refine W.block ?_
   obtain ⟨hok5,H⟩:=zag H
   refine At.keep (ts:=[1,2,3,10,11,28,29,38]) (ids:=[38,3,36]) rfl rfl ?_
   refine At.ziY 38 rfl (fun left hleft=>?_)
   refine At.keep (ts:=[1,2,3,10,11,28,29,38]) (ids:=[38,3,36]) rfl rfl ?_
   refine W.zdY H (Mp.perm hok5 hleft) hleft.2.1 38 (fun k=>(fun (x:(List Int))=>roL 1 zae x) ((s1.get k).getD default)) (fun (s5:(Mp (List Int)))=>[(1,.int .i64 (p1)),(2,.bool (p2)),(3,.lp 3 0),(10,roL 1 zbK y3),(11,.mp 36),(28,.int .i64 (((p0.closet.w.Batches.length:Nat):Int))),(29,.int .i64 ((i1:Int))),(38,.lp 38 0)]) (fun (s5:(Mp (List Int)))=>[(3,.cells [roL 3 zad p0.closet.w.Batches,roL 6 zaa p0.closet.w.Mantles,roL 7 zaf p0.closet.w.Burns,roL 6 zac p0.closet.w.Looks,.int .i64 (p0.closet.known),romL (.agg #[.slice none 0 0,.slice none 0 0,.slice none 0 0,.slice none 0 0,.slice none 0 0,.slice none 0 0]) (fun (x:mantle_coat)=>.agg [roL 3 zad x.w.Batches,roL 6 zaa x.w.Mantles,roL 7 zaf x.w.Burns,roL 6 zac x.w.Looks,roL 1 zae x.burns,roL 2 zab x.sights]) p0.closet.coats,roL 2 zao p0.closet.lives,roL 1 zae p0.lamps,roL 1 zae p0.mantles,.int .i64 (p0.night)]),(36,mapL (.slice none 0 0) (fun (x:(List Int))=>roL 1 zae x) s5)]) (.cons .qi (.cons .q (.cons .q (.cons .q (.cons .q (.cons .qi (.cons .qi (.cons .q .nil)))))))) (.cons (.refl _) (.cons .q (.cons .q .nil))) (fun left s5 HJ5 hsub5 K hK5=>?_)
   refine W.seq ?_
   refine W.next rfl rfl rfl rfl rfl rfl rfl rfl rfl rfl rfl (fun hz=>?_) (fun q5 left2 hp5=>?_)
   · subst hz
     have H:k1 s5=some r:=HJ5
     refine At.zai ?_
     refine W.seq ?_
     refine W.cond rfl (fun hb18=>by cases hb18) (fun hb18=>?_)
     refine W.exit ?_
     refine At.xthen ?_
     refine At.xthen ?_
     refine At.xhere ?_
     refine At.zai ?_
     refine At.zkA 36 (K:=[3]) (ts:=[1,2,3,11,28,29]) rfl rfl rfl rfl (fun _ h=>h) ?_
     refine W.region env [] [] rfl rfl rfl .nil .nil (At.keep (ts:=[1,2,3,8,28,29]) (ids:=[3]) rfl rfl ?_)
     refine At.inb ?_
     refine At.zai ?_
     refine W.region env [] [] rfl rfl rfl (.cons (by unfold inI;have:=hn1;(try unfold maxLen at this);omega) .nil) .nil (At.keep (ts:=[1,2,3,8,28,29]) (ids:=[3]) rfl rfl ?_)
     refine At.zaE (At.keep (ts:=[1,2,3,8,28,29]) (ids:=[3]) rfl rfl ?_)
     exact At.conv (.cons .qi (.cons .q (.cons .q (.cons .q (.cons .qi (.cons .qi .nil)))))) (.cons .q .nil) (hK1 hi1 s5 H)
   · have H:=zks hp5 HJ5
     refine At.zai ?_
     refine W.seq ?_
     refine W.cond rfl (fun hb6=>?_) (fun hb6=>by cases hb6)
     refine W.skip ?_
     refine At.zai ?_
     refine W.block ?_
     refine W.rg env [1,2,3,10,11,12,13,28,29,38] [3,36,38] ?_
     refine W.rg env [1,2,3,10,11,12,13,28,29,38,44,45,46] [3,36,38] ?_
     refine W.block ?_
     refine At.keep (ts:=[1,2,3,10,11,12,13,28,29,38,44,45,46]) (ids:=[3,36,38]) rfl rfl ?_
     refine W.len (t:=44) rfl (fun (hn7:y3.length≤maxLen)=>?_)
     refine W.zau H (fun i7 (s7:(Mp (List Int)))=>[(1,.int .i64 (p1)),(2,.bool (p2)),(3,.lp 3 0),(10,roL 1 zbK y3),(11,.mp 36),(12,.int .i64 (q5)),(13,roL 1 zae ((s1.get q5).getD default)),(28,.int .i64 (((p0.closet.w.Batches.length:Nat):Int))),(29,.int .i64 ((i1:Int))),(38,.lp 38 0),(44,roL 1 zbK y3),(45,.int .i64 (((y3.length:Nat):Int))),(46,.int .i64 ((i7:Int)))]) (fun i7 (s7:(Mp (List Int)))=>[(3,.cells [roL 3 zad p0.closet.w.Batches,roL 6 zaa p0.closet.w.Mantles,roL 7 zaf p0.closet.w.Burns,roL 6 zac p0.closet.w.Looks,.int .i64 (p0.closet.known),romL (.agg #[.slice none 0 0,.slice none 0 0,.slice none 0 0,.slice none 0 0,.slice none 0 0,.slice none 0 0]) (fun (x:mantle_coat)=>.agg [roL 3 zad x.w.Batches,roL 6 zaa x.w.Mantles,roL 7 zaf x.w.Burns,roL 6 zac x.w.Looks,roL 1 zae x.burns,roL 2 zab x.sights]) p0.closet.coats,roL 2 zao p0.closet.lives,roL 1 zae p0.lamps,roL 1 zae p0.mantles,.int .i64 (p0.night)]),(36,mapL (.slice none 0 0) (fun (x:(List Int))=>roL 1 zae x) s7),(38,.iter (fun k=>(fun (x:(List Int))=>roL 1 zae x) ((s1.get k).getD default)) (some q5) (fun l=>l=left2))]) (.cons .qi (.cons .q (.cons .q (.cons .q (.cons .q (.cons .qi (.cons .q (.cons .qi (.cons .qi (.cons .q (.cons .q (.cons .qi (.cons .qi .nil))))))))))))) (.cons .q (.cons .q (.cons .q .nil))) (fun k7 i7 s7 hle7 H1 H2 K0 hK7=>?_)
     refine W.rg env [1,2,3,10,11,12,13,28,29,38,44,45,46,47] [3,36,38] ?_
     refine W.seq ?_
     refine W.cond rfl (fun hb8=>?_) (fun hb8=>?_)
     · have hi7:i7<y3.length:=by have:=of_decide_eq_true hb8;omega
       have H:=H1 hi7
       refine W.skip ?_
       refine At.zai ?_
       refine W.seq ?_
       refine W.block ?_
       refine W.sr env [] [] [1,2,3,10,11,12,13,15,28,29,38,44,45,46] [3,36,38] rfl rfl rfl (.cons (⟨by omega,by omega⟩:0≤(i7:Int)∧(i7:Int)<((y3.length:Nat):Int)) .nil) .nil ?_
       refine W.seq ?_
       obtain ⟨y9,hy10,H⟩:=zah H
       refine W.region env [] [⟨roL 1 zae y9,[],0,[]⟩] rfl rfl rfl .nil (.free (Ctr.sim (.cons (Sim.lit (f:=zbK) ([((s1.get q5).getD default),(y3.getD i7 default)]:List (List Int)) rfl rfl (fun _=>rfl)) .nil) (zgb ([((s1.get q5).getD default),(y3.getD i7 default)]:List (List Int)) hy10)) .nil) (At.keep (ts:=[1,2,3,10,11,12,13,15,16,28,29,38,44,45,46]) (ids:=[3,36,38]) rfl rfl ?_)
       refine At.zai ?_
       obtain ⟨hc11,H⟩:=zag H
       refine W.sr env [] [] [1,2,3,10,11,12,13,15,16,17,18,28,29,38,44,45,46] [3,36,38] rfl rfl rfl (.cons hc11 (.cons rfl .nil)) .nil ?_
       refine W.seq ?_
       obtain ⟨y12,hy13,H⟩:=zah H
       obtain ⟨y14,hy15,H⟩:=zah H
       refine W.region env [] [⟨.int .i64 (y12),[],0,[]⟩,⟨.int .i64 (y14),[],0,[]⟩] rfl rfl (by kernel_rfl) (.cons id (.cons id (.cons id (.cons id (.cons id (.cons id (.cons id (.cons id (.cons (fun h=>by rw [h];rfl) .nil))))))))) (.on (fun hW=>zcs p0 y9 p2 (zam hy13 hW)) (.on (fun hW=>zcs p0 ((s7.get (q5+(((y3.getD i7 default).length:Nat):Int))).getD default) p2 (zam hy15 hW)) .nil)) (At.keep (ts:=[1,2,3,10,11,12,13,15,16,28,29,38,44,45,46,75]) (ids:=[3,36,38]) rfl rfl ?_)
       refine At.zai ?_
       refine W.cond rfl (fun hb16=>?_) (fun hb16=>?_)
       · have H:=zam H hb16
         obtain ⟨hc17,H⟩:=zag H
         refine W.region env [] [] rfl rfl rfl (.cons hc17 .nil) .nil (At.keep (ts:=[1,2,3,10,11,12,13,28,29,38,44,45,46]) (ids:=[3,36,38]) rfl rfl ?_)
         refine At.zbk (.cons (.refl _) (.cons (y:=mapL (.slice none 0 0) (fun (x:(List Int))=>roL 1 zae x) (s7.set (q5+(((y3.getD i7 default).length:Nat):Int)) y9)) (BSim.mseg (f:=(fun (x:(List Int))=>roL 1 zae x)) (MSeg.set (MSeg.refl (fun (x:(List Int))=>roL 1 zae x) _) y9 rfl)) (.cons (.refl _) .nil))) ?_
         refine At.inb ?_
         refine At.zai ?_
         refine W.region env [] [] rfl rfl rfl (.cons (by unfold inI;have:=hn7;(try unfold maxLen at this);omega) .nil) .nil (At.keep (ts:=[1,2,3,10,11,12,13,28,29,38,44,45,46]) (ids:=[3,36,38]) rfl rfl ?_)
         refine At.zaE (At.keep (ts:=[1,2,3,10,11,12,13,28,29,38,44,45,46]) (ids:=[3,36,38]) rfl rfl ?_)
         exact At.conv (.cons .qi (.cons .q (.cons .q (.cons .q (.cons .q (.cons .qi (.cons .q (.cons .qi (.cons .qi (.cons .q (.cons .q (.cons .qi (.cons .qi .nil))))))))))))) (.cons .q (.cons .q (.cons .q .nil))) (hK7 hi7 (s7.set (q5+(((y3.getD i7 default).length:Nat):Int)) y9) H)
       · have H:=zal H hb16
         refine W.skip ?_
         refine At.inb ?_
         refine At.zai ?_
         refine W.region env [] [] rfl rfl rfl (.cons (by unfold inI;have:=hn7;(try unfold maxLen at this);omega) .nil) .nil (At.keep (ts:=[1,2,3,10,11,12,13,28,29,38,44,45,46]) (ids:=[3,36,38]) rfl rfl ?_)
         refine At.zaE (At.keep (ts:=[1,2,3,10,11,12,13,28,29,38,44,45,46]) (ids:=[3,36,38]) rfl rfl ?_)
         exact At.conv (.cons .qi (.cons .q (.cons .q (.cons .q (.cons .q (.cons .qi (.cons .q (.cons .qi (.cons .qi (.cons .q (.cons .q (.cons .qi (.cons .qi .nil))))))))))))) (.cons .q (.cons .q (.cons .q .nil))) (hK7 hi7 s7 H)
     · have H:=H2 (by have:=of_decide_eq_false hb8;omega)
       refine W.exit ?_
       refine At.xthen ?_
       refine At.xthen ?_
       refine At.xhere ?_
       refine At.inb ?_
       refine At.zaE (At.keep (ts:=[1,2,3,10,11,28,29,38]) (ids:=[38,3,36]) rfl rfl ?_)
       exact At.conv (.cons .qi (.cons .q (.cons .q (.cons .q (.cons .q (.cons .qi (.cons .qi (.cons .q .nil)))))))) (.cons (.refl _) (.cons .q (.cons .q .nil))) (hK5 _ left2 s7 hp5 H)
 · have H:=H2 (by have:=of_decide_eq_false hb2;omega)
   refine W.exit ?_
   refine At.xthen ?_
   refine At.xthen ?_
   refine At.xhere ?_
   refine At.zai ?_
   refine W.seq ?_
   refine W.rg env [1,2,3,8,19] [3] ?_
   refine W.block ?_
   refine At.keep (ts:=[1,2,3,8,19]) (ids:=[3]) rfl rfl ?_
   refine W.loopGo H (fun (s19:Int)=>[(1,.int .i64 (p1)),(2,.bool (p2)),(3,.lp 3 0),(8,romL (.slice none 0 0) (fun (x:(List Int))=>roL 1 zae x) s1),(19,.int .i64 (s19))]) (fun (s19:Int)=>[(3,.cells [roL 3 zad p0.closet.w.Batches,roL 6 zaa p0.closet.w.Mantles,roL 7 zaf p0.closet.w.Burns,roL 6 zac p0.closet.w.Looks,.int .i64 (p0.closet.known),romL (.agg #[.slice none 0 0,.slice none 0 0,.slice none 0 0,.slice none 0 0,.slice none 0 0,.slice none 0 0]) (fun (x:mantle_coat)=>.agg [roL 3 zad x.w.Batches,roL 6 zaa x.w.Mantles,roL 7 zaf x.w.Burns,roL 6 zac x.w.Looks,roL 1 zae x.burns,roL 2 zab x.sights]) p0.closet.coats,roL 2 zao p0.closet.lives,roL 1 zae p0.lamps,roL 1 zae p0.mantles,.int .i64 (p0.night)])]) (.cons .qi (.cons .q (.cons .q (.cons .q (.cons .qi .nil))))) (.cons .q .nil) (fun k19 s19 H K0 hK19=>?_)
   refine W.seq ?_
   refine W.rg env [1,2,3,8,19,89] [3] ?_
   refine W.cond rfl (fun hb20=>?_) (fun hb20=>?_)
   · have H:=zam H hb20
     refine W.skip ?_
     refine At.zai ?_
     refine W.seq ?_
     refine W.block ?_
     refine W.sr env [] [] [1,2,3,8,19,20,21] [3] rfl rfl rfl (.cons rfl .nil) .nil ?_
     refine W.seq ?_
     obtain ⟨y21,hy22,H⟩:=zah H
     refine W.region env [] [⟨.bool (y21),[],0,[]⟩] rfl rfl rfl (.cons id (.cons id (.cons id (.cons id (.cons id .nil))))) (.on (fun hW=>zfp p0 ((s1.get s19).getD default) p1 p2 (zam hy22 hW)) .nil) (At.keep (ts:=[1,2,3,8,19,20,105]) (ids:=[3]) rfl rfl ?_)
     refine At.zai ?_
     refine W.cond rfl (fun hb23=>?_) (fun hb23=>?_)
     · have H:=zam H hb23
       refine W.rg env [6,7] [] ?_
       refine W.ret ?_
       refine At.rinb ?_
       refine At.rthen ?_
       refine At.rthen ?_
       refine At.rinb ?_
       refine At.rthen ?_
       exact At.retN env.ty (((s1.get s19).getD default),true) H rfl rfl nofun (.refl _) hval
     · have H:=zal H hb23
       refine W.skip ?_
       refine At.inb ?_
       refine At.zai ?_
       obtain ⟨hc24,H⟩:=zag H
       refine W.region env [] [] rfl rfl rfl (.cons hc24 .nil) .nil (At.keep (ts:=[1,2,3,8,19]) (ids:=[3]) rfl rfl ?_)
       refine At.zaE (At.keep (ts:=[1,2,3,8,19]) (ids:=[3]) rfl rfl ?_)
       exact At.conv (.cons .qi (.cons .q (.cons .q (.cons .q (.cons .qi .nil))))) (.cons .q .nil) (hK19 (s19+1) H)
   · have H:=zal H hb20
     refine W.exit ?_
     refine At.xthen ?_
     refine At.xthen ?_
     refine At.xhere ?_
     refine At.zai ?_
     refine W.rg env [6,7] [] ?_
     refine W.ret ?_
     exact At.retN env.ty ([],false) H rfl rfl nofun (Sim.tupL (.cons (Sim.nil _ _) (.cons (.refl _) .nil))) hval
theorem zgw (p0:List Int) {r:List Int} (H:zcy p0=some r):CtrO Tryz.prog 120 [.buf 90000 p0.length] [(90000,bufL 3 1 zae p0)] (.tup []) [(90000,bufL 3 1 zae r)]:=
 zmV (Go.Av.enters_of Tryz.func120 (by kernel_rfl) (c:=_) rfl) (Any.slices_Sort_int zjv) (Any.slices_Sort_int_none zjv) 3 p0 H
theorem zgU (fuel:Nat) (p0:Wear) (p1:(List Int)) (p2:Int) (p3:Int) (p4:Int) (p5:Bool) (post:((List Int)×Int)→Option Unit) {r:Unit} (H:zd0 fuel p0 p1 p2 p3 p4 p5 post=some r):CtrN Tryz.prog 53 [.agg [roL 3 zad p0.Batches,roL 6 zaa p0.Mantles,roL 7 zaf p0.Burns,roL 6 zac p0.Looks],roL 1 zae p1,.int .i64 (p2),.int .i64 (p3),.int .i64 (p4),.bool (p5)] (fun (y:((List Int)×Int))=>.tup [roL 1 zae y.1,.int .i64 (y.2)]) (fun y=>post y=some r):=by
 unfold zd0 at H
 refine CtrN.zap (N:=59) Tryz.func53 (by kernel_rfl) (c:=_) rfl Tryz.ntmps53 rfl (fun w0 h0 hval=>?_)
 refine W.rg env [1,2,3,4,5,6] [6] ?_
 refine W.seq ?_
 obtain ⟨y1,hy2,H⟩:=zah H
 refine W.region env [] [⟨.tup [.agg [roL 3 zad y1.1.closet.w.Batches,roL 6 zaa y1.1.closet.w.Mantles,roL 7 zaf y1.1.closet.w.Burns,roL 6 zac y1.1.closet.w.Looks,.int .i64 (y1.1.closet.known),romL (.agg #[.slice none 0 0,.slice none 0 0,.slice none 0 0,.slice none 0 0,.slice none 0 0,.slice none 0 0]) (fun (x:mantle_coat)=>.agg [roL 3 zad x.w.Batches,roL 6 zaa x.w.Mantles,roL 7 zaf x.w.Burns,roL 6 zac x.w.Looks,roL 1 zae x.burns,roL 2 zab x.sights]) y1.1.closet.coats,roL 2 zao y1.1.closet.lives,roL 1 zae y1.1.lamps,roL 1 zae y1.1.mantles,.int .i64 (y1.1.night)],.int .i64 (y1.2)],[],0,[]⟩] rfl rfl rfl .nil (.free (zex fuel p0 p1 p2 p3 p4 hy2) .nil) (At.keep (ts:=[1,4,5,14,15]) (ids:=[14]) rfl rfl ?_)
 refine At.zai ?_
 refine W.seq ?_
 refine W.rg env [1,4,5,14,15,31] [14] ?_
 refine W.cond rfl (fun hb3=>?_) (fun hb3=>?_)
 · have H:=zam H hb3
   refine W.rg env [12,13] [] ?_
   refine W.ret ?_
   refine At.rthen ?_
   exact At.retN env.ty ([],y1.2) H rfl rfl nofun (Sim.tupL (.cons (Sim.nil _ _) (.cons (.refl _) .nil))) hval
 · have H:=zal H hb3
   refine W.skip ?_
   refine At.zai ?_
   refine W.seq ?_
   refine W.zlY env [] 3 [] [] rfl rfl rfl rfl rfl rfl (fun _=>rfl) rfl .nil .nil (fun _=>.nil) (fun _=>.nil) (fun _=>rfl) (zeY fuel y1.1 p4 p5 _ H) (fun y4 H=>?_)
   refine At.keep (ts:=[1,16,17]) (ids:=[]) rfl rfl ?_
   refine At.zai ?_
   refine W.seq ?_
   refine W.rg env [1,16,41] [] ?_
   refine W.cond rfl (fun hb5=>?_) (fun hb5=>?_)
   · have H:=zam H hb5
     refine W.rg env [12,13] [] ?_
     refine W.ret ?_
     refine At.rthen ?_
     exact At.retN env.ty ([],3) H rfl rfl nofun (Sim.tupL (.cons (Sim.nil _ _) (.cons (.refl _) .nil))) hval
   · have H:=zal H hb5
     refine W.skip ?_
     refine At.zai ?_
     refine W.rg env [1,16,18] [] ?_
     refine W.seq ?_
     refine W.rg env [1,18,42,43,44] [] ?_
     refine W.block ?_
     refine At.zgp 18 518 3 1 (e:=fun i=>zae (([]:List Int).getD i default)) rfl rfl ?_
     refine At.keep (ts:=[1,18,42,43,44]) (ids:=[518]) rfl rfl ?_
     refine W.len (t:=42) rfl (fun (hn6:y4.1.length≤maxLen)=>?_)
     refine W.zau H (fun i6 (s6:(List Int))=>[(1,roL 1 zae p1),(18,.buf 518 (s6).length),(42,roL 1 zae y4.1),(43,.int .i64 (((y4.1.length:Nat):Int))),(44,.int .i64 ((i6:Int)))]) (fun i6 (s6:(List Int))=>[(518,bufL 3 1 zae s6)]) (.cons .q (.cons .qb (.cons .q (.cons .qi (.cons .qi .nil))))) (.cons .q .nil) (fun k6 i6 s6 hle6 H1 H2 K0 hK6=>?_)
     refine W.rg env [1,18,42,43,44,45] [518] ?_
     refine W.seq ?_
     refine W.cond rfl (fun hb7=>?_) (fun hb7=>?_)
     · have hi6:i6<y4.1.length:=by have:=of_decide_eq_true hb7;omega
       have H:=H1 hi6
       refine W.skip ?_
       refine At.zai ?_
       refine W.seq ?_
       refine W.block ?_
       refine W.sr env [] [] [1,18,20,42,43,44] [518] rfl rfl rfl (.cons (⟨by omega,by omega⟩:0≤(i6:Int)∧(i6:Int)<((y4.1.length:Nat):Int)) .nil) .nil ?_
       obtain ⟨hc8,H⟩:=zag H
       obtain ⟨hc9,H⟩:=zag H
       refine W.region env [] [] rfl rfl rfl (.cons hc8 (.cons (⟨by first|rfl|(simp;done)|omega|(simp;omega),by have:=hc9;first|simpa using this|(unfold room at this ⊢;simp at this ⊢;omega)⟩) .nil)) .nil (At.keep (ts:=[1,18,42,43,44]) (ids:=[518]) rfl rfl ?_)
       refine At.zbk (.cons (y:=bufL 3 1 zae (s6++([(p1.getD ((y4.1.getD i6 default)).toNat default)]:List Int))) (BSim.seg (Seg.push (Seg.refl zae _) (Seg.lit (f:=zae) (sz:=1) ([(p1.getD ((y4.1.getD i6 default)).toNat default)]:List Int) rfl rfl (fun _=>rfl)))) .nil) ?_
       refine At.inb ?_
       refine At.zai ?_
       refine W.region env [] [] rfl rfl rfl (.cons (by unfold inI;have:=hn6;(try unfold maxLen at this);omega) .nil) .nil (At.keep (ts:=[1,18,42,43,44]) (ids:=[518]) rfl rfl ?_)
       refine At.zaE (At.keep (ts:=[1,18,42,43,44]) (ids:=[518]) rfl rfl ?_)
       exact At.conv (.cons .q (.cons .qb (.cons .q (.cons .qi (.cons .qi .nil))))) (.cons .q .nil) (hK6 hi6 (s6++([(p1.getD ((y4.1.getD i6 default)).toNat default)]:List Int)) H)
     · have H:=H2 (by have:=of_decide_eq_false hb7;omega)
       refine W.exit ?_
       refine At.xthen ?_
       refine At.xthen ?_
       refine At.xhere ?_
       refine At.zai ?_
       refine W.seq ?_
       obtain ⟨y10,hy11,H⟩:=zah H
       obtain ⟨hc12,H⟩:=zag H
       refine W.region env [] [⟨.tup [],[(518,bufL 3 1 zae y10)],0,[518]⟩] rfl rfl (by kernel_rfl) .nil (.free (CtrO.sim (CtrO.ren (zgw s6 hy11) [(90000,518)]) (.cons .qc .nil) (.cons (.refl _) .nil)) .nil) (At.keep (ts:=[18]) (ids:=[518]) rfl rfl ?_)
       refine At.zai ?_
       refine W.rg env [12,13] [518] ?_
       refine W.ret ?_
       exact At.retN env.ty (y10,0) H rfl rfl (fun q hq=>by cases hq;exact (by first|rfl|(simp;done)|omega|(simp;omega))) (.refl _) hval
theorem zdD (fuel:Nat) (p0:(List Look)) (p1:Look) (p2:Look→Look→Option Int) (p2_g:Nat) (p2_a p2_b:List AV) (p2_h:∀ x0 x1 r,p2 x0 x1=some r→Ctr Tryz.prog p2_g (p2_a++([.agg [.int .i64 (x0.Source),.int .i64 (x0.Lamp),.int .i64 (x0.Night),.bool (x0.Bad),.int .i64 (x0.Known),.int .i64 (x0.Until)],.agg [.int .i64 (x1.Source),.int .i64 (x1.Lamp),.int .i64 (x1.Night),.bool (x1.Bad),.int .i64 (x1.Known),.int .i64 (x1.Until)]]++p2_b)) (.int .i64 (r))) {r:(Int×Bool)} (H:za7 fuel p0 p1 p2=some r):Ctr Tryz.prog 60 [roL 6 zac p0,.agg [.int .i64 (p1.Source),.int .i64 (p1.Lamp),.int .i64 (p1.Night),.bool (p1.Bad),.int .i64 (p1.Known),.int .i64 (p1.Until)],.clo (.func p2_g) p2_a p2_b] (.tup [.int .i64 (r.1),.bool (r.2)]):=by
 unfold za7 at H
 refine Ctr.zap (N:=49) Tryz.func60 (by kernel_rfl) (c:=_) rfl Tryz.ntmps60 rfl (fun w0 h0 hval=>?_)
 refine W.rg env [0,2,4] [4] ?_
 refine W.rg env [0,2,4,8] [4] ?_
 refine W.rg env [0,2,4,8,9,10] [4] ?_
 refine W.seq ?_
 refine W.block ?_
 refine At.keep (ts:=[0,2,4,8,9,10]) (ids:=[4]) rfl rfl ?_
 refine W.loopGo H (fun (s1:Int×Int)=>[(0,roL 6 zac p0),(2,.clo (.func p2_g) p2_a p2_b),(4,.lp 4 0),(8,.int .i64 (((p0.length:Nat):Int))),(9,.int .i64 (s1.2)),(10,.int .i64 (s1.1))]) (fun (s1:Int×Int)=>[(4,.cells [.int .i64 (p1.Source),.int .i64 (p1.Lamp),.int .i64 (p1.Night),.bool (p1.Bad),.int .i64 (p1.Known),.int .i64 (p1.Until)])]) (.cons .q (.cons .q (.cons .q (.cons .qi (.cons .qi (.cons .qi .nil)))))) (.cons .q .nil) (fun k1 s1 H K0 hK1=>?_)
 refine W.seq ?_
 refine W.rg env [0,2,4,8,9,10,17] [4] ?_
 refine W.cond rfl (fun hb2=>?_) (fun hb2=>?_)
 · have H:=zam H hb2
   refine W.skip ?_
   refine At.zai ?_
   refine W.block ?_
   obtain ⟨hc3,H⟩:=zag H
   obtain ⟨hc4,H⟩:=zag H
   obtain ⟨hc5,H⟩:=zag H
   refine W.sr env [] [] [0,2,4,8,9,10,11] [4] rfl rfl rfl (.cons hc3 (.cons hc4 (.cons (by decide) (.cons hc5 .nil)))) .nil ?_
   refine W.seq ?_
   obtain ⟨hc6,H⟩:=zag H
   obtain ⟨y7,hy8,H⟩:=zah H
   refine W.region env [] [⟨.int .i64 (y7),[],0,[]⟩] rfl rfl (by kernel_rfl) (.cons hc6 .nil) (.free (p2_h (p0.getD ((Int.fdiv (s1.2+s1.1) (2 ^ (1:Int).toNat))).toNat default) p1 _ hy8) .nil) (At.keep (ts:=[0,2,4,8,9,10,11,31]) (ids:=[4]) rfl rfl ?_)
   refine At.zai ?_
   refine W.cond rfl (fun hb9=>?_) (fun hb9=>?_)
   · have H:=zam H hb9
     obtain ⟨hc10,H⟩:=zag H
     refine W.region env [] [] rfl rfl rfl (.cons hc10 .nil) .nil (At.keep (ts:=[0,2,4,8,9,10]) (ids:=[4]) rfl rfl ?_)
     refine At.inb ?_
     refine At.zaE (At.keep (ts:=[0,2,4,8,9,10]) (ids:=[4]) rfl rfl ?_)
     exact At.conv (.cons .q (.cons .q (.cons .q (.cons .qi (.cons .qi (.cons .qi .nil)))))) (.cons .q .nil) (hK1 (s1.1,((Int.fdiv (s1.2+s1.1) (2 ^ (1:Int).toNat))+1)) H)
   · have H:=zal H hb9
     refine W.region env [] [] rfl rfl rfl .nil .nil (At.keep (ts:=[0,2,4,8,9,10]) (ids:=[4]) rfl rfl ?_)
     refine At.inb ?_
     refine At.zaE (At.keep (ts:=[0,2,4,8,9,10]) (ids:=[4]) rfl rfl ?_)
     exact At.conv (.cons .q (.cons .q (.cons .q (.cons .qi (.cons .qi (.cons .qi .nil)))))) (.cons .q .nil) (hK1 ((Int.fdiv (s1.2+s1.1) (2 ^ (1:Int).toNat)),s1.2) H)
 · have H:=zal H hb2
   refine W.exit ?_
   refine At.xthen ?_
   refine At.xthen ?_
   refine At.xhere ?_
   refine At.zai ?_
   refine W.seq ?_
   obtain ⟨hc11,H⟩:=zag H
   obtain ⟨y12,hy13,H⟩:=zah H
   refine W.region env [] [⟨.int .i64 (y12),[],0,[]⟩] rfl rfl (by kernel_rfl) (.cons hc11 (.cons id (.cons id (.cons id (.cons id (.cons id (.cons id (.cons id (.cons id .nil))))))))) (.on (fun hW=>p2_h (p0.getD (s1.2).toNat default) p1 _ (zam hy13 hW)) .nil) (At.keep (ts:=[6,7]) (ids:=[]) rfl rfl ?_)
   refine At.zai ?_
   refine W.ret ?_
   cases H
   exact At.ret env.ty rfl rfl nofun (.refl _) hval
theorem zgV (p0:Look) (p1:Look):Ctr Tryz.prog 61 [.agg [.int .i64 (p0.Source),.int .i64 (p0.Lamp),.int .i64 (p0.Night),.bool (p0.Bad),.int .i64 (p0.Known),.int .i64 (p0.Until)],.agg [.int .i64 (p1.Source),.int .i64 (p1.Lamp),.int .i64 (p1.Night),.bool (p1.Bad),.int .i64 (p1.Known),.int .i64 (p1.Until)]] (.int .i64 ((zbj p0 p1))):=by
 obtain ⟨r,H⟩:∃ r,zbj p0 p1=r:=⟨_,rfl⟩
 rw [H]
 unfold zbj at H
 refine Ctr.zap (N:=10) Tryz.func61 (by kernel_rfl) (c:=_) rfl Tryz.ntmps61 rfl (fun w0 h0 hval=>?_)
 refine W.rg env [2,3] [2,3] ?_
 refine W.sr env [] [⟨.int .i64 ((zaP p0.Source p1.Source)),[],0,[]⟩] [4] [] rfl rfl rfl .nil (.free (zeA p0.Source p1.Source) .nil) ?_
 refine W.ret ?_
 cases H
 exact At.ret env.ty rfl rfl nofun (.refl _) hval
theorem zfQ (p0:(List Batch)) {r:(List Batch)} (H:zcf p0=some r):Ctr Tryz.prog 63 [roL 3 zad p0] (roL 3 zad r):=by
 unfold zcf at H
 refine Ctr.zap (N:=8) Tryz.func63 (by kernel_rfl) (c:=_) rfl Tryz.ntmps63 rfl (fun w0 h0 hval=>?_)
 refine W.rg env [0] [] ?_
 refine W.seq ?_
 refine W.rg env [0,4] [] ?_
 refine W.zgv rfl (fun hz=>?_) ?_
 · obtain rfl:p0=[]:=List.length_eq_zero_iff.1 hz
   obtain ⟨hc1,H⟩:=zag H
   refine W.rg env [2] [] ?_
   refine W.ret ?_
   refine At.rthen ?_
   cases H
   exact At.ret env.ty rfl rfl nofun (Sim.nil _ _) hval
 · refine W.skip ?_
   refine At.zai ?_
   refine W.seq ?_
   obtain ⟨hc1,H⟩:=zag H
   refine W.region env [5] [] rfl rfl rfl (.cons (⟨by first|rfl|(simp;done)|omega|(simp;omega),by have:=hc1;first|simpa using this|(unfold room at this ⊢;simp at this ⊢;omega)⟩) .nil) .nil (At.keep (ts:=[2]) (ids:=[5]) rfl rfl ?_)
   refine At.zbk (.cons (y:=bufL 31 3 zad (([]:List Batch)++p0)) (BSim.seg (Seg.push (Seg.lit (f:=zad) (sz:=3) ([]:List Batch) rfl rfl (fun _=>rfl)) (Seg.refl zad p0))) .nil) ?_
   refine At.zai ?_
   refine W.ret ?_
   cases H
   exact At.ret env.ty rfl rfl (fun q hq=>by cases hq;exact (by first|rfl|(simp;done)|omega|(simp;omega))) (.refl _) hval
theorem zfo (p0:(List Mantle)) {r:(List Mantle)} (H:zbY p0=some r):Ctr Tryz.prog 64 [roL 6 zaa p0] (roL 6 zaa r):=by
 unfold zbY at H
 refine Ctr.zap (N:=8) Tryz.func64 (by kernel_rfl) (c:=_) rfl Tryz.ntmps64 rfl (fun w0 h0 hval=>?_)
 refine W.rg env [0] [] ?_
 refine W.seq ?_
 refine W.rg env [0,4] [] ?_
 refine W.zgv rfl (fun hz=>?_) ?_
 · obtain rfl:p0=[]:=List.length_eq_zero_iff.1 hz
   obtain ⟨hc1,H⟩:=zag H
   refine W.rg env [2] [] ?_
   refine W.ret ?_
   refine At.rthen ?_
   cases H
   exact At.ret env.ty rfl rfl nofun (Sim.nil _ _) hval
 · refine W.skip ?_
   refine At.zai ?_
   refine W.seq ?_
   obtain ⟨hc1,H⟩:=zag H
   refine W.region env [5] [] rfl rfl rfl (.cons (⟨by first|rfl|(simp;done)|omega|(simp;omega),by have:=hc1;first|simpa using this|(unfold room at this ⊢;simp at this ⊢;omega)⟩) .nil) .nil (At.keep (ts:=[2]) (ids:=[5]) rfl rfl ?_)
   refine At.zbk (.cons (y:=bufL 33 6 zaa (([]:List Mantle)++p0)) (BSim.seg (Seg.push (Seg.lit (f:=zaa) (sz:=6) ([]:List Mantle) rfl rfl (fun _=>rfl)) (Seg.refl zaa p0))) .nil) ?_
   refine At.zai ?_
   refine W.ret ?_
   cases H
   exact At.ret env.ty rfl rfl (fun q hq=>by cases hq;exact (by first|rfl|(simp;done)|omega|(simp;omega))) (.refl _) hval
theorem zgc (p0:(List Burn)) {r:(List Burn)} (H:zcz p0=some r):Ctr Tryz.prog 65 [roL 7 zaf p0] (roL 7 zaf r):=by
 unfold zcz at H
 refine Ctr.zap (N:=8) Tryz.func65 (by kernel_rfl) (c:=_) rfl Tryz.ntmps65 rfl (fun w0 h0 hval=>?_)
 refine W.rg env [0] [] ?_
 refine W.seq ?_
 refine W.rg env [0,4] [] ?_
 refine W.zgv rfl (fun hz=>?_) ?_
 · obtain rfl:p0=[]:=List.length_eq_zero_iff.1 hz
   obtain ⟨hc1,H⟩:=zag H
   refine W.rg env [2] [] ?_
   refine W.ret ?_
   refine At.rthen ?_
   cases H
   exact At.ret env.ty rfl rfl nofun (Sim.nil _ _) hval
 · refine W.skip ?_
   refine At.zai ?_
   refine W.seq ?_
   obtain ⟨hc1,H⟩:=zag H
   refine W.region env [5] [] rfl rfl rfl (.cons (⟨by first|rfl|(simp;done)|omega|(simp;omega),by have:=hc1;first|simpa using this|(unfold room at this ⊢;simp at this ⊢;omega)⟩) .nil) .nil (At.keep (ts:=[2]) (ids:=[5]) rfl rfl ?_)
   refine At.zbk (.cons (y:=bufL 35 7 zaf (([]:List Burn)++p0)) (BSim.seg (Seg.push (Seg.lit (f:=zaf) (sz:=7) ([]:List Burn) rfl rfl (fun _=>rfl)) (Seg.refl zaf p0))) .nil) ?_
   refine At.zai ?_
   refine W.ret ?_
   cases H
   exact At.ret env.ty rfl rfl (fun q hq=>by cases hq;exact (by first|rfl|(simp;done)|omega|(simp;omega))) (.refl _) hval
theorem zkO (p0:(List Look)) {r:(List Look)} (H:za5 p0=some r):Ctr Tryz.prog 67 [roL 6 zac p0] (roL 6 zac r):=by
 unfold za5 at H
 refine Ctr.zap (N:=8) Tryz.func67 (by kernel_rfl) (c:=_) rfl Tryz.ntmps67 rfl (fun w0 h0 hval=>?_)
 refine W.rg env [0] [] ?_
 refine W.seq ?_
 refine W.rg env [0,4] [] ?_
 refine W.zgv rfl (fun hz=>?_) ?_
 · obtain rfl:p0=[]:=List.length_eq_zero_iff.1 hz
   obtain ⟨hc1,H⟩:=zag H
   refine W.rg env [2] [] ?_
   refine W.ret ?_
   refine At.rthen ?_
   cases H
   exact At.ret env.ty rfl rfl nofun (Sim.nil _ _) hval
 · refine W.skip ?_
   refine At.zai ?_
   refine W.seq ?_
   obtain ⟨hc1,H⟩:=zag H
   refine W.region env [5] [] rfl rfl rfl (.cons (⟨by first|rfl|(simp;done)|omega|(simp;omega),by have:=hc1;first|simpa using this|(unfold room at this ⊢;simp at this ⊢;omega)⟩) .nil) .nil (At.keep (ts:=[2]) (ids:=[5]) rfl rfl ?_)
   refine At.zbk (.cons (y:=bufL 37 6 zac (([]:List Look)++p0)) (BSim.seg (Seg.push (Seg.lit (f:=zac) (sz:=6) ([]:List Look) rfl rfl (fun _=>rfl)) (Seg.refl zac p0))) .nil) ?_
   refine At.zai ?_
   refine W.ret ?_
   cases H
   exact At.ret env.ty rfl rfl (fun q hq=>by cases hq;exact (by first|rfl|(simp;done)|omega|(simp;omega))) (.refl _) hval
theorem zcI (p0:(List Look)) {r:(List Look)} (H:za5 p0=some r):CtrO Tryz.prog 67 [roL 6 zac p0] [] (.buf 900 r.length) [(900,bufL 37 6 zac r)]:=by
 unfold za5 at H
 refine CtrO.zap (N:=8) Tryz.func67 (by kernel_rfl) (c:=_) rfl Tryz.ntmps67 rfl (fun w0 h0 ρb hval hdom=>?_)
 refine W.rg env [0] [] ?_
 refine W.seq ?_
 refine W.rg env [0,4] [] ?_
 refine W.zgv rfl (fun hz=>?_) ?_
 · obtain rfl:p0=[]:=List.length_eq_zero_iff.1 hz
   obtain ⟨hc1,H⟩:=zag H
   refine W.rg env [2] [] ?_
   refine W.ret ?_
   refine At.rthen ?_
   cases H
   refine At.zgp 2 800 37 6 (e:=fun i=>zac (([]:List Look).getD i default)) rfl rfl ?_
   exact At.retK env.ty [800] 100 rfl rfl rfl rfl (.cons (.refl _) .nil) (.of_eq (by refine zgz ?_;first|(simp [zbg];done)|omega|(simp [zbg];omega)|rfl)) hval hdom rfl
 · refine W.skip ?_
   refine At.zai ?_
   refine W.seq ?_
   obtain ⟨hc1,H⟩:=zag H
   refine W.region env [5] [] rfl rfl rfl (.cons (⟨by first|rfl|(simp;done)|omega|(simp;omega),by have:=hc1;first|simpa using this|(unfold room at this ⊢;simp at this ⊢;omega)⟩) .nil) .nil (At.keep (ts:=[2]) (ids:=[5]) rfl rfl ?_)
   refine At.zbk (.cons (y:=bufL 37 6 zac (([]:List Look)++p0)) (BSim.seg (Seg.push (Seg.lit (f:=zac) (sz:=6) ([]:List Look) rfl rfl (fun _=>rfl)) (Seg.refl zac p0))) .nil) ?_
   refine At.zai ?_
   refine W.ret ?_
   cases H
   exact At.retK env.ty [5] 895 rfl rfl rfl rfl (.cons (.refl _) .nil) (.of_eq (by refine zgz ?_;first|(simp [zbg];done)|omega|(simp [zbg];omega)|rfl)) hval hdom rfl
theorem zfn (p0:List Look) (p1:Int) (p2:Look) {r:List Look} (H:zce p0 p1 p2=some r):CtrO Tryz.prog 66 [.buf 700 p0.length,.int .i64 p1,.buf 701 1] [(700,bufL 37 6 zac p0),(701,bufL 37 6 zac [p2])] (.buf 900 r.length) [(701,bufL 37 6 zac [p2]),(700,.dead),(900,bufL 37 6 zac r)]:=by
 unfold zce at H
 obtain ⟨h1,H⟩:=zag H
 obtain ⟨h2,H⟩:=zag H
 cases H
 exact zlz (Go.Av.enters_of Tryz.func66 (by kernel_rfl) (c:=_) rfl) zjK zjL (by kernel_rfl) (by kernel_rfl) (env.ty 37 _ rfl) rfl (by decide) zac p0 p1 p2 h1 h2
theorem zfv (fuel:Nat) (p0:Wear) (p1:Look) {r:(Wear×Int)} (H:zbH fuel p0 p1=some r):Ctr Tryz.prog 14 [.agg [roL 3 zad p0.Batches,roL 6 zaa p0.Mantles,roL 7 zaf p0.Burns,roL 6 zac p0.Looks],.agg [.int .i64 (p1.Source),.int .i64 (p1.Lamp),.int .i64 (p1.Night),.bool (p1.Bad),.int .i64 (p1.Known),.int .i64 (p1.Until)]] (.tup [.agg [roL 3 zad r.1.Batches,roL 6 zaa r.1.Mantles,roL 7 zaf r.1.Burns,roL 6 zac r.1.Looks],.int .i64 (r.2)]):=by
 unfold zbH at H
 refine Ctr.zap (N:=56) Tryz.func14 (by kernel_rfl) (c:=_) rfl Tryz.ntmps14 rfl (fun w0 h0 hval=>?_)
 refine W.rg env [2,3,4] [2,3,4] ?_
 refine W.seq ?_
 refine W.seq ?_
 obtain ⟨y1,hy2,H⟩:=zah H
 refine W.region env [] [⟨.int .i64 (y1),[],0,[]⟩] rfl rfl rfl .nil (.free (zcP p0 hy2) .nil) (At.keep (ts:=[2,3,4,6]) (ids:=[2,3,4]) rfl rfl ?_)
 refine At.zai ?_
 refine W.rg env [2,3,4,6,13] [2,3,4] ?_
 refine W.cond rfl (fun hb3=>?_) (fun hb3=>?_)
 · have H:=zam H hb3
   refine W.rg env [4,5] [4] ?_
   refine W.ret ?_
   refine At.rthen ?_
   cases H
   exact At.ret env.ty rfl rfl nofun (Sim.tupL (.cons (Sim.aggL (.cons (Sim.nil _ _) (.cons (Sim.nil _ _) (.cons (Sim.nil _ _) (.cons (Sim.nil _ _) .nil))))) (.cons (.refl _) .nil))) hval
 · have H:=zal H hb3
   refine W.skip ?_
   refine At.zai ?_
   refine W.seq ?_
   obtain ⟨y4,hy5,H⟩:=zah H
   refine W.region env [] [⟨.tup [.int .i64 (y4.1),.bool (y4.2)],[],0,[]⟩] rfl rfl rfl .nil (.free (zdD fuel p0.Looks p1 (fun x0 x1=>some (zbj x0 x1)) 61 [] [] (fun x0 x1 r h=>by cases h;exact zgV x0 x1) hy5) .nil) (At.keep (ts:=[2,3,4,7,8]) (ids:=[2,3,4]) rfl rfl ?_)
   refine At.zai ?_
   refine W.seq ?_
   refine W.block ?_
   refine W.sr env [] [⟨.int .i64 ((zay p1)),[],0,[]⟩] [2,3,4,7,23] [2,3,4] rfl rfl rfl (.cons (fun h=>by rw [h];rfl) .nil) (.free (zdd p1) .nil) ?_
   refine W.cond rfl (fun hb6=>?_) (fun hb6=>?_)
   · have H:=zam H hb6
     refine W.rg env [4,5] [4] ?_
     refine W.ret ?_
     refine At.rinb ?_
     refine At.rthen ?_
     cases H
     exact At.ret env.ty rfl rfl nofun (Sim.tupL (.cons (Sim.aggL (.cons (Sim.nil _ _) (.cons (Sim.nil _ _) (.cons (Sim.nil _ _) (.cons (Sim.nil _ _) .nil))))) (.cons (.refl _) .nil))) hval
   · have H:=zal H hb6
     refine W.rg env [2,3,4,7,31] [2,3,4] ?_
     refine W.cond rfl (fun hb7=>?_) (fun hb7=>?_)
     · have H:=zam H hb7
       refine W.rg env [4,5] [4] ?_
       refine W.ret ?_
       refine At.rinb ?_
       refine At.rthen ?_
       cases H
       exact At.ret env.ty rfl rfl nofun (Sim.tupL (.cons (Sim.aggL (.cons (Sim.nil _ _) (.cons (Sim.nil _ _) (.cons (Sim.nil _ _) (.cons (Sim.nil _ _) .nil))))) (.cons (.refl _) .nil))) hval
     · have H:=zal H hb7
       refine W.skip ?_
       refine At.inb ?_
       refine At.zai ?_
       refine W.seq ?_
       obtain ⟨y8,hy9,H⟩:=zah H
       obtain ⟨y10,hy11,H⟩:=zah H
       obtain ⟨y12,hy13,H⟩:=zah H
       refine W.region env [] [⟨roL 3 zad y8,[],0,[]⟩,⟨roL 6 zaa y10,[],0,[]⟩,⟨roL 7 zaf y12,[],0,[]⟩] rfl rfl (by kernel_rfl) .nil (.free (zfQ p0.Batches hy9) (.free (zfo p0.Mantles hy11) (.free (zgc p0.Burns hy13) .nil))) (At.keep (ts:=[2,3,4,7,9]) (ids:=[2,3,4,9]) rfl rfl ?_)
       refine At.zai ?_
       refine W.seq ?_
       obtain ⟨y14,hy15,H⟩:=zah H
       obtain ⟨y16,hy17,H⟩:=zah H
       refine W.region env [52] [⟨.buf 900 y14.length,[(900,bufL 37 6 zac y14)],50000,[]⟩,⟨.buf 54900 y16.length,[(52,bufL 37 6 zac ([p1]:List Look)),(50900,.dead),(54900,bufL 37 6 zac y16)],0,[50900,52]⟩] rfl rfl (by kernel_rfl) .nil (.free ((Ctr.ofO (zcI p0.Looks hy15))) (.free (CtrO.sim (CtrO.ren (zfn y14 y4.1 p1 hy17) [(700,50900),(701,52),(900,54900)]) (.cons .qc (.cons (.refl _) (.cons .qc .nil))) (.cons (.refl _) (.cons (BSim.seg (Seg.lit (f:=zac) (sz:=6) ([p1]:List Look) rfl rfl (fun _=>rfl))) .nil))) .nil)) (At.keep (ts:=[4,9]) (ids:=[4,9,54900]) rfl rfl ?_)
       refine At.zai ?_
       refine W.rg env [4,5] [4,54900] ?_
       refine W.ret ?_
       cases H
       exact At.ret env.ty rfl rfl (fun q hq=>by cases hq;exact (by first|rfl|(simp;done)|omega|(simp;omega))) (.refl _) hval
theorem zeO (p0:(List Look)) (p1:Look→Option Bool) (p1_g:Nat) (p1_a p1_b:List AV) (p1_h:∀ x0 r,p1 x0=some r→Ctr Tryz.prog p1_g (p1_a++([.agg [.int .i64 (x0.Source),.int .i64 (x0.Lamp),.int .i64 (x0.Night),.bool (x0.Bad),.int .i64 (x0.Known),.int .i64 (x0.Until)]]++p1_b)) (.bool (r))) {r:Int} (H:zck p0 p1=some r):Ctr Tryz.prog 160 [roL 6 zac p0,.clo (.func p1_g) p1_a p1_b] (.int .i64 (r)):=by
 unfold zck at H
 refine Ctr.zap (N:=19) Tryz.func160 (by kernel_rfl) (c:=_) rfl Tryz.ntmps160 rfl (fun w0 h0 hval=>?_)
 refine W.rg env [0,1] [] ?_
 refine W.seq ?_
 refine W.rg env [0,1,7,8] [] ?_
 refine W.block ?_
 refine At.keep (ts:=[0,1,7,8]) (ids:=[]) rfl rfl ?_
 refine W.len (t:=0) rfl (fun (hn1:p0.length≤maxLen)=>?_)
 refine W.zau H (fun i1 (s1:Unit)=>[(0,roL 6 zac p0),(1,.clo (.func p1_g) p1_a p1_b),(7,.int .i64 (((p0.length:Nat):Int))),(8,.int .i64 ((i1:Int)))]) (fun i1 (s1:Unit)=>[]) (.cons .q (.cons .q (.cons .qi (.cons .qi .nil)))) .nil (fun k1 i1 s1 hle1 H1 H2 K0 hK1=>?_)
 refine W.rg env [0,1,7,8,9] [] ?_
 refine W.seq ?_
 refine W.cond rfl (fun hb2=>?_) (fun hb2=>?_)
 · have hi1:i1<p0.length:=by have:=of_decide_eq_true hb2;omega
   have H:=H1 hi1
   refine W.skip ?_
   refine At.zai ?_
   refine W.seq ?_
   refine W.block ?_
   refine W.rg env [0,1,5,7,8] [] ?_
   refine W.seq ?_
   obtain ⟨y3,hy4,H⟩:=zah H
   refine W.region env [] [⟨.bool (y3),[],0,[]⟩] rfl rfl rfl (.cons (⟨by omega,by omega⟩:0≤(i1:Int)∧(i1:Int)<((p0.length:Nat):Int)) .nil) (.free (p1_h (p0.getD i1 default) _ hy4) .nil) (At.keep (ts:=[0,1,5,7,8,16]) (ids:=[]) rfl rfl ?_)
   refine At.zai ?_
   refine W.cond rfl (fun hb5=>?_) (fun hb5=>?_)
   · have H:=zam H hb5
     refine W.rg env [4] [] ?_
     refine W.ret ?_
     refine At.rinb ?_
     refine At.rthen ?_
     refine At.rthen ?_
     refine At.rinb ?_
     refine At.rthen ?_
     cases H
     exact At.ret env.ty rfl rfl nofun (.refl _) hval
   · have H:=zal H hb5
     refine W.skip ?_
     refine At.inb ?_
     refine At.zai ?_
     refine W.region env [] [] rfl rfl rfl (.cons (by unfold inI;have:=hn1;(try unfold maxLen at this);omega) .nil) .nil (At.keep (ts:=[0,1,7,8]) (ids:=[]) rfl rfl ?_)
     refine At.zaE (At.keep (ts:=[0,1,7,8]) (ids:=[]) rfl rfl ?_)
     exact At.conv (.cons .q (.cons .q (.cons .qi (.cons .qi .nil)))) .nil (hK1 hi1 () H)
 · have H:=H2 (by have:=of_decide_eq_false hb2;omega)
   refine W.exit ?_
   refine At.xthen ?_
   refine At.xthen ?_
   refine At.xhere ?_
   refine At.zai ?_
   refine W.rg env [4] [] ?_
   refine W.ret ?_
   cases H
   exact At.ret env.ty rfl rfl nofun (.refl _) hval
theorem zel (fuel:Nat) (p0:(List Look)) (p1:Look→Option Bool) (p1_g:Nat) (p1_a p1_b:List AV) (p1_h:∀ x0 r,p1 x0=some r→Ctr Tryz.prog p1_g (p1_a++([.agg [.int .i64 (x0.Source),.int .i64 (x0.Lamp),.int .i64 (x0.Night),.bool (x0.Bad),.int .i64 (x0.Known),.int .i64 (x0.Until)]]++p1_b)) (.bool (r))) {r:(List Look)} (H:zca fuel p0 p1=some r):CtrO Tryz.prog 118 [.buf 700 (p0).length,.clo (.func p1_g) p1_a p1_b] [(700,bufL 37 6 zac p0)] (.buf 900 r.length) [(900,bufL 37 6 zac r)]:=by
 unfold zca at H
 refine CtrO.zap (N:=42) Tryz.func118 (by kernel_rfl) (c:=_) rfl Tryz.ntmps118 rfl (fun w0 h0 ρb hval hdom=>?_)
 refine W.rg env [0,1] [700] ?_
 refine W.seq ?_
 obtain ⟨y1,hy2,H⟩:=zah H
 refine W.region env [] [⟨.int .i64 (y1),[],0,[]⟩] rfl rfl rfl (.cons (by first|rfl|(simp;done)|omega|(simp;omega)) .nil) (.free (zeO p0 p1 p1_g p1_a p1_b p1_h hy2) .nil) (At.keep (ts:=[0,1,5]) (ids:=[700]) rfl rfl ?_)
 refine At.zai ?_
 refine W.seq ?_
 refine W.rg env [0,1,5,12] [700] ?_
 refine W.cond rfl (fun hb3=>?_) (fun hb3=>?_)
 · have H:=zam H hb3
   refine W.rg env [4] [700] ?_
   refine W.ret ?_
   refine At.rthen ?_
   cases H
   exact At.retK env.ty [700] 200 rfl rfl rfl rfl (.cons (.refl _) .nil) (.of_eq (by refine zgz ?_;first|(simp [zbg];done)|omega|(simp [zbg];omega)|rfl)) hval hdom rfl
 · have H:=zal H hb3
   refine W.skip ?_
   refine At.zai ?_
   refine W.seq ?_
   obtain ⟨hc4,H⟩:=zag H
   refine W.sr env [] [] [0,1,5,6] [700] rfl rfl rfl (.cons hc4 .nil) .nil ?_
   refine W.block ?_
   refine At.keep (ts:=[0,1,5,6]) (ids:=[700]) rfl rfl ?_
   refine W.loopGo H (fun (s5:Int×Int×(List Look))=>[(0,.buf 700 (s5.2.2).length),(1,.clo (.func p1_g) p1_a p1_b),(5,.int .i64 (s5.1)),(6,.int .i64 (s5.2.1))]) (fun (s5:Int×Int×(List Look))=>[(700,bufL 37 6 zac s5.2.2)]) (.cons .qb (.cons .q (.cons .qi (.cons .qi .nil)))) (.cons .q .nil) (fun k5 s5 H K0 hK5=>?_)
   refine W.seq ?_
   refine W.sr env [] [] [0,1,5,6,19] [700] rfl rfl rfl (.cons (by first|rfl|(simp;done)|omega|(simp;omega)) .nil) .nil ?_
   refine W.cond rfl (fun hb6=>?_) (fun hb6=>?_)
   · have H:=zam H hb6
     refine W.skip ?_
     refine At.zai ?_
     refine W.seq ?_
     refine W.block ?_
     obtain ⟨hc7,H⟩:=zag H
     refine W.sr env [] [] [0,1,5,6,7] [7,700] rfl rfl rfl (.cons (⟨by first|rfl|(simp;done)|omega|(simp;omega),hc7⟩) (.cons (⟨by first|rfl|(simp;done)|omega|(simp;omega),(by have:=hc7;first|omega|(simp only [List.length_set];omega)|(simp only [Int.toNat_natCast] at *;omega)|(simp at this ⊢;omega))⟩) .nil)) .nil ?_
     refine W.seq ?_
     obtain ⟨y8,hy9,H⟩:=zah H
     refine W.region env [] [⟨.bool (y8),[],0,[]⟩] rfl rfl rfl .nil (.free (p1_h (s5.2.2.getD (s5.2.1).toNat default) _ hy9) .nil) (At.keep (ts:=[0,1,5,6,7,29]) (ids:=[7,700]) rfl rfl ?_)
     refine At.zai ?_
     refine W.cond rfl (fun hb10=>?_) (fun hb10=>?_)
     · have H:=zam H hb10
       refine W.seq ?_
       obtain ⟨hc11,H⟩:=zag H
       refine W.region env [] [] rfl rfl rfl (.cons (⟨by first|rfl|(simp;done)|omega|(simp;omega),hc11⟩) (.cons (⟨by first|rfl|(simp;done)|omega|(simp;omega),(by have:=hc11;first|omega|(simp only [List.length_set];omega)|(simp only [Int.toNat_natCast] at *;omega)|(simp at this ⊢;omega))⟩) .nil)) .nil (At.keep (ts:=[0,1,5,6]) (ids:=[700]) rfl rfl ?_)
       refine At.zbk (.cons (y:=bufL 37 6 zac (s5.2.2.set (s5.1).toNat (s5.2.2.getD (s5.2.1).toNat default))) (BSim.seg (Seg.set (Seg.refl zac _) (s5.2.2.getD (s5.2.1).toNat default) rfl)) .nil) ?_
       refine At.zai ?_
       obtain ⟨hc12,H⟩:=zag H
       refine W.region env [] [] rfl rfl rfl (.cons hc12 .nil) .nil (At.keep (ts:=[0,1,5,6]) (ids:=[700]) rfl rfl ?_)
       refine At.inb ?_
       refine At.zai ?_
       obtain ⟨hc13,H⟩:=zag H
       refine W.region env [] [] rfl rfl rfl (.cons hc13 .nil) .nil (At.keep (ts:=[0,1,5,6]) (ids:=[700]) rfl rfl ?_)
       refine At.zaE (At.keep (ts:=[0,1,5,6]) (ids:=[700]) rfl rfl ?_)
       exact At.conv (.cons .qb (.cons .q (.cons .qi (.cons .qi .nil)))) (.cons .q .nil) (hK5 ((s5.1+1),(s5.2.1+1),(s5.2.2.set (s5.1).toNat (s5.2.2.getD (s5.2.1).toNat default))) H)
     · have H:=zal H hb10
       refine W.skip ?_
       refine At.inb ?_
       refine At.zai ?_
       obtain ⟨hc14,H⟩:=zag H
       refine W.region env [] [] rfl rfl rfl (.cons hc14 .nil) .nil (At.keep (ts:=[0,1,5,6]) (ids:=[700]) rfl rfl ?_)
       refine At.zaE (At.keep (ts:=[0,1,5,6]) (ids:=[700]) rfl rfl ?_)
       exact At.conv (.cons .qb (.cons .q (.cons .qi (.cons .qi .nil)))) (.cons .q .nil) (hK5 (s5.1,(s5.2.1+1),s5.2.2) H)
   · have H:=zal H hb6
     refine W.exit ?_
     refine At.xthen ?_
     refine At.xthen ?_
     refine At.xhere ?_
     refine At.zai ?_
     refine W.seq ?_
     obtain ⟨hc15,H⟩:=zag H
     refine W.region env [] [] rfl rfl rfl (.cons (⟨by first|rfl|(simp;done)|omega|(simp;omega),hc15⟩) (.cons (⟨by first|rfl|(simp;done)|omega|(simp;omega),(by have:=hc15;omega),(by have:=hc15;omega)⟩) .nil)) .nil (At.keep (ts:=[0,5]) (ids:=[700]) rfl rfl ?_)
     refine At.zbk (.cons (y:=bufL 37 6 zac (zbg s5.2.2 ((s5.1).toNat) (s5.2.2.length - (s5.1).toNat) (fun _=>(⟨0,0,0,false,0,0⟩:Look)))) (BSim.seg (Seg.cleared (a:=(s5.1).toNat) (b:=s5.2.2.length) (Seg.refl zac _) (⟨0,0,0,false,0,0⟩:Look) rfl (by have:=hc15;omega))) .nil) ?_
     refine At.zai ?_
     obtain ⟨hc16,H⟩:=zag H
     refine W.sr env [] [] [4] [700] rfl rfl rfl (.cons (⟨by first|rfl|(simp [zgr];done)|(simp [zgr];omega),hc16⟩) .nil) .nil ?_
     refine W.ret ?_
     cases H
     refine At.shrink 4 700 850 (K:=[]) (ts:=[]) rfl rfl (by first|rfl|(simp;done)|omega|(simp;omega)) (by have:=hc16;omega) rfl rfl rfl rfl ?_
     refine At.zbk (.cons (y:=bufL 37 6 zac ((zbg s5.2.2 ((s5.1).toNat) (s5.2.2.length - (s5.1).toNat) (fun _=>(⟨0,0,0,false,0,0⟩:Look))).take ((s5.1).toNat))) (BSim.seg (Seg.first (Seg.refl zac _) (by have:=hc16;omega))) .nil) ?_
     exact At.retK env.ty [850] 50 rfl rfl rfl rfl (.cons (.refl _) .nil) (.of_eq (by refine zgz ?_;first|(simp [zbg];done)|omega|(simp [zbg];omega)|rfl)) hval hdom rfl
theorem zgx (p0:Look) (c0:Int) (c1:Wear) {r:Bool} (H:zcS p0 c0 c1=some r):Ctr Tryz.prog 157 [.agg [.int .i64 (p0.Source),.int .i64 (p0.Lamp),.int .i64 (p0.Night),.bool (p0.Bad),.int .i64 (p0.Known),.int .i64 (p0.Until)],.rp [.int .i64 (c0)],.rp [roL 3 zad c1.Batches,roL 6 zaa c1.Mantles,roL 7 zaf c1.Burns,roL 6 zac c1.Looks]] (.bool (r)):=by
 unfold zcS at H
 refine Ctr.zap (N:=22) Tryz.func157 (by kernel_rfl) (c:=_) rfl Tryz.ntmps157 rfl (fun w0 h0 hval=>?_)
 refine W.rg env [1,2,3] [3] ?_
 refine W.seq ?_
 obtain ⟨y1,hy2,H⟩:=zah H
 refine W.region env [] [⟨.bool ((zaH p0.Known p0.Until c0)),[],0,[]⟩,⟨.int .i64 (y1),[],0,[]⟩] rfl rfl rfl (.cons id (.cons id (.cons id (.cons id (.cons id (.cons id (.cons id (.cons (fun h=>by rw [h];rfl) .nil)))))))) (.free (zcv p0.Known p0.Until c0) (.on (fun hW=>zcu c1 p0.Lamp p0.Night c0 (zam hy2 hW)) .nil)) (At.keep (ts:=[4]) (ids:=[]) rfl rfl ?_)
 refine At.zai ?_
 refine W.ret ?_
 cases H
 exact At.ret env.ty rfl rfl nofun (.refl _) hval
theorem zha (fuel:Nat) (p0:Wear) (p1:Int) {r:(List Look)} (H:zek fuel p0 p1=some r):Ctr Tryz.prog 108 [.agg [roL 3 zad p0.Batches,roL 6 zaa p0.Mantles,roL 7 zaf p0.Burns,roL 6 zac p0.Looks],.int .i64 (p1)] (roL 6 zac r):=by
 unfold zek at H
 refine Ctr.zap (N:=10) Tryz.func108 (by kernel_rfl) (c:=_) rfl Tryz.ntmps108 rfl (fun w0 h0 hval=>?_)
 refine W.rg env [2,3] [2,3] ?_
 refine W.seq ?_
 refine At.zkB 2 (K:=[3]) (ts:=[2,3]) rfl rfl rfl rfl rfl (fun _ h=>h) ?_
 refine At.zkB 3 (K:=[]) (ts:=[2,3]) rfl rfl rfl rfl rfl (fun _ h=>h) ?_
 obtain ⟨y1,hy2,H⟩:=zah H
 obtain ⟨y3,hy4,H⟩:=zah H
 refine W.region env [] [⟨.buf 900 y1.length,[(900,bufL 37 6 zac y1)],8000,[]⟩,⟨.buf 900 y3.length,[(8900,.dead),(900,bufL 37 6 zac y3)],10000,[]⟩] rfl rfl (by kernel_rfl) .nil (.free ((Ctr.ofO (zcI p0.Looks hy2))) (.free (CtrO.sim (CtrO.at (zel fuel y1 (fun x0=>zcS x0 p1 p0) 157 [] ([.rp [.int .i64 (p1)],.rp [roL 3 zad p0.Batches,roL 6 zaa p0.Mantles,roL 7 zaf p0.Burns,roL 6 zac p0.Looks]]) (fun x0 r h=>zgx x0 p1 p0 h) hy4) rfl 8900) (.cons .qc (.cons (Sim.fnClo rfl) .nil)) (.cons (.refl _) .nil)) .nil)) (At.keep (ts:=[4]) (ids:=[10900]) rfl rfl ?_)
 refine At.zai ?_
 refine W.ret ?_
 cases H
 exact At.ret env.ty rfl rfl (fun q hq=>by cases hq;exact (by first|rfl|(simp;done)|omega|(simp;omega))) (.refl _) hval
theorem zfk (p0:(List Look)) (p1:Int) (p2:Int) {r:(List Look)} (H:zc4 p0 p1 p2=some r):CtrO Tryz.prog 158 [.buf 700 (p0).length,.int .i64 (p1),.int .i64 (p2)] [(700,bufL 37 6 zac p0)] (.buf 900 r.length) [(900,bufL 37 6 zac r)]:=by
 unfold zc4 at H
 refine CtrO.zap (N:=33) Tryz.func158 (by kernel_rfl) (c:=_) rfl Tryz.ntmps158 rfl (fun w0 h0 ρb hval hdom=>?_)
 refine W.rg env [0,1,2] [700] ?_
 obtain ⟨hc1,H⟩:=zag H
 refine W.sr env [] [] [0,1,2] [700] rfl rfl rfl (.cons (by first|rfl|(simp;done)|omega|(simp;omega)) (.cons (⟨by first|rfl|(simp;done)|omega|(simp;omega),hc1⟩) .nil)) .nil ?_
 refine W.seq ?_
 refine W.rg env [0,1,2,16] [700] ?_
 refine W.cond rfl (fun hb2=>?_) (fun hb2=>?_)
 · have H:=zam H hb2
   refine W.rg env [6] [700] ?_
   refine W.ret ?_
   refine At.rthen ?_
   cases H
   exact At.retK env.ty [700] 200 rfl rfl rfl rfl (.cons (.refl _) .nil) (.of_eq (by refine zgz ?_;first|(simp [zbg];done)|omega|(simp [zbg];omega)|rfl)) hval hdom rfl
 · have H:=zal H hb2
   refine W.skip ?_
   refine At.zai ?_
   refine W.sr env [] [] [0,1,2,7] [700] rfl rfl rfl (.cons (by first|rfl|(simp;done)|omega|(simp;omega)) .nil) .nil ?_
   refine W.seq ?_
   obtain ⟨hc3,H⟩:=zag H
   obtain ⟨hc4,H⟩:=zag H
   obtain ⟨hc5,H⟩:=zag H
   refine W.region env [] [] rfl rfl (by first|rfl|kernel_rfl) (.cons (⟨by first|rfl|(simp;done)|omega|(simp;omega),hc3⟩) (.cons (⟨by first|rfl|(simp;done)|omega|(simp;omega),hc4⟩) (.cons (⟨rfl,rfl,by omega,by omega,by omega⟩) .nil))) .nil (At.keep (ts:=[0,7]) (ids:=[26]) rfl rfl ?_)
   refine At.zbk (.cons (y:=znW 37 6 p0.length zac (p0.take ((p1).toNat)++p0.drop ((p2).toNat))) (BSim.kseg (Seg.moved (f:=zac) (l:=p0) ((p1).toNat) ((p2).toNat) (by omega) (by omega))) .nil) ?_
   refine At.zai ?_
   refine W.seq ?_
   obtain ⟨hc6,H⟩:=zag H
   refine W.region env [] [] rfl rfl rfl (.cons (by first|rfl|(simp;done)|omega|(simp;omega)) (.cons (⟨by first|rfl|(simp;done)|omega|(simp;omega),hc6⟩) (.cons (⟨by first|rfl|(simp;done)|omega|(simp;omega),by first|rfl|(simp;done)|omega|(simp;omega),by first|omega|(simp;omega)⟩) .nil))) .nil (At.keep (ts:=[0]) (ids:=[26]) rfl rfl ?_)
   refine At.zbk (.cons (y:=znW 37 6 p0.length zac (p0.take ((p1).toNat)++p0.drop ((p2).toNat))) (BSim.kseg (Seg.refl zac _)) .nil) ?_
   refine At.zai ?_
   refine W.rg env [6] [26] ?_
   refine W.ret ?_
   cases H
   exact At.retK env.ty [26] 874 rfl rfl rfl rfl (.cons (.bufk (.refl _)) .nil) (.of_eq (by refine zgz ?_;first|(simp [zbg];done)|omega|(simp [zbg];omega)|rfl)) hval hdom rfl
theorem zjn (p0:(List Look)) (p1:Int) {r:(List Look)} (H:zf5 p0 p1=some r):Ctr Tryz.prog 109 [roL 6 zac p0,.int .i64 (p1)] (roL 6 zac r):=by
 unfold zf5 at H
 refine Ctr.zap (N:=11) Tryz.func109 (by kernel_rfl) (c:=_) rfl Tryz.ntmps109 rfl (fun w0 h0 hval=>?_)
 refine W.rg env [0,1] [] ?_
 refine W.seq ?_
 obtain ⟨y1,hy2,H⟩:=zah H
 obtain ⟨hc3,H⟩:=zag H
 obtain ⟨y4,hy5,H⟩:=zah H
 refine W.region env [] [⟨.buf 900 y1.length,[(900,bufL 37 6 zac y1)],7000,[]⟩,⟨.buf 900 y4.length,[(7900,.dead),(900,bufL 37 6 zac y4)],11000,[]⟩] rfl rfl (by kernel_rfl) (.cons hc3 .nil) (.free ((Ctr.ofO (zcI p0 hy2))) (.free (CtrO.sim (CtrO.at (zfk y1 p1 (p1+1) hy5) rfl 7900) (.cons .qc (.cons (.refl _) (.cons (.refl _) .nil))) (.cons (.refl _) .nil)) .nil)) (At.keep (ts:=[4]) (ids:=[11900]) rfl rfl ?_)
 refine At.zai ?_
 refine W.ret ?_
 cases H
 exact At.ret env.ty rfl rfl (fun q hq=>by cases hq;exact (by first|rfl|(simp;done)|omega|(simp;omega))) (.refl _) hval
theorem zij (fuel:Nat) (p0:Wear) (p1:Int) {r:((List Int)×Int)} (H:zfe fuel p0 p1=some r):Ctr Tryz.prog 42 [.agg [roL 3 zad p0.Batches,roL 6 zaa p0.Mantles,roL 7 zaf p0.Burns,roL 6 zac p0.Looks],.int .i64 (p1)] (.tup [roL 1 zae r.1,.int .i64 (r.2)]):=by
 unfold zfe at H
 refine Ctr.zap (N:=58) Tryz.func42 (by kernel_rfl) (c:=_) rfl Tryz.ntmps42 rfl (fun w0 h0 hval=>?_)
 refine W.rg env [1,2] [2] ?_
 refine W.seq ?_
 refine W.seq ?_
 obtain ⟨y1,hy2,H⟩:=zah H
 refine W.region env [] [⟨.int .i64 (y1),[],0,[]⟩] rfl rfl rfl .nil (.free (Ctr.sim (.cons (.refl _) (.cons (Sim.lit (f:=zae) ([p1]:List Int) rfl rfl (fun _=>rfl)) .nil)) (zd6 p0 ([p1]:List Int) hy2)) .nil) (At.keep (ts:=[1,2,6]) (ids:=[2]) rfl rfl ?_)
 refine At.zai ?_
 refine W.rg env [1,2,6,18] [2] ?_
 refine W.cond rfl (fun hb3=>?_) (fun hb3=>?_)
 · have H:=zam H hb3
   refine W.rg env [4,5] [] ?_
   refine W.ret ?_
   refine At.rthen ?_
   cases H
   exact At.ret env.ty rfl rfl nofun (Sim.tupL (.cons (Sim.nil _ _) (.cons (.refl _) .nil))) hval
 · have H:=zal H hb3
   refine W.skip ?_
   refine At.zai ?_
   refine W.seq ?_
   obtain ⟨y4,hy5,H⟩:=zah H
   refine W.region env [] [⟨roL 6 zac y4,[],0,[]⟩] rfl rfl rfl .nil (.free (zha fuel p0 p1 hy5) .nil) (At.keep (ts:=[1,2,7]) (ids:=[2]) rfl rfl ?_)
   refine At.zai ?_
   refine W.seq ?_
   refine W.seq ?_
   obtain ⟨y6,hy7,H⟩:=zah H
   obtain ⟨y8,hy9,H⟩:=zah H
   refine W.region env [] [⟨.agg [roL 3 zad y6.w.Batches,roL 6 zaa y6.w.Mantles,roL 7 zaf y6.w.Burns,roL 6 zac y6.w.Looks,.int .i64 (y6.known),romL (.agg #[.slice none 0 0,.slice none 0 0,.slice none 0 0,.slice none 0 0,.slice none 0 0,.slice none 0 0]) (fun (x:mantle_coat)=>.agg [roL 3 zad x.w.Batches,roL 6 zaa x.w.Mantles,roL 7 zaf x.w.Burns,roL 6 zac x.w.Looks,roL 1 zae x.burns,roL 2 zab x.sights]) y6.coats,roL 2 zao y6.lives],[],0,[]⟩,⟨.bool (y8),[],0,[]⟩] rfl rfl rfl .nil (.free (zdc fuel p0 y4 p1 hy7) (.free (za6 y6 hy9) .nil)) (At.keep (ts:=[1,2,7,27]) (ids:=[2]) rfl rfl ?_)
   refine At.zai ?_
   refine W.cond rfl (fun hb10=>?_) (fun hb10=>?_)
   · have H:=zam H hb10
     refine W.rg env [4,5] [] ?_
     refine W.ret ?_
     refine At.rthen ?_
     cases H
     exact At.ret env.ty rfl rfl nofun (Sim.tupL (.cons (Sim.nil _ _) (.cons (.refl _) .nil))) hval
   · have H:=zal H hb10
     refine W.skip ?_
     refine At.zai ?_
     refine W.seq ?_
     obtain ⟨hc11,H⟩:=zag H
     refine W.sr env [] [] [1,2,7,8] [2] rfl rfl rfl (.cons hc11 .nil) .nil ?_
     refine W.block ?_
     refine At.keep (ts:=[1,2,7,8]) (ids:=[2]) rfl rfl ?_
     refine W.loopGo H (fun (s12:Int×(List Look))=>[(1,.int .i64 (p1)),(2,.lp 2 0),(7,roL 6 zac s12.2),(8,.int .i64 (s12.1))]) (fun (s12:Int×(List Look))=>[(2,.cells [roL 3 zad p0.Batches,roL 6 zaa p0.Mantles,roL 7 zaf p0.Burns,roL 6 zac p0.Looks])]) (.cons .qi (.cons .q (.cons .q (.cons .qi .nil)))) (.cons .q .nil) (fun k12 s12 H K0 hK12=>?_)
     refine W.seq ?_
     refine W.rg env [1,2,7,8,32] [2] ?_
     refine W.cond rfl (fun hb13=>?_) (fun hb13=>?_)
     · have H:=zam H hb13
       refine W.skip ?_
       refine At.zai ?_
       refine W.seq ?_
       refine W.block ?_
       refine W.seq ?_
       obtain ⟨y14,hy15,H⟩:=zah H
       refine W.region env [] [⟨roL 6 zac y14,[],0,[]⟩] rfl rfl rfl .nil (.free (zjn s12.2 s12.1 hy15) .nil) (At.keep (ts:=[1,2,7,8,9]) (ids:=[2]) rfl rfl ?_)
       refine At.zai ?_
       refine W.seq ?_
       obtain ⟨y16,hy17,H⟩:=zah H
       obtain ⟨y18,hy19,H⟩:=zah H
       refine W.region env [] [⟨.agg [roL 3 zad y16.w.Batches,roL 6 zaa y16.w.Mantles,roL 7 zaf y16.w.Burns,roL 6 zac y16.w.Looks,.int .i64 (y16.known),romL (.agg #[.slice none 0 0,.slice none 0 0,.slice none 0 0,.slice none 0 0,.slice none 0 0,.slice none 0 0]) (fun (x:mantle_coat)=>.agg [roL 3 zad x.w.Batches,roL 6 zaa x.w.Mantles,roL 7 zaf x.w.Burns,roL 6 zac x.w.Looks,roL 1 zae x.burns,roL 2 zab x.sights]) y16.coats,roL 2 zao y16.lives],[],0,[]⟩,⟨.bool (y18),[],0,[]⟩] rfl rfl rfl .nil (.free (zdc fuel p0 y14 p1 hy17) (.free (za6 y16 hy19) .nil)) (At.keep (ts:=[1,2,7,8,9,43]) (ids:=[2]) rfl rfl ?_)
       refine At.zai ?_
       refine W.cond rfl (fun hb20=>?_) (fun hb20=>?_)
       · have H:=zam H hb20
         refine W.region env [] [] rfl rfl rfl .nil .nil (At.keep (ts:=[1,2,7,8]) (ids:=[2]) rfl rfl ?_)
         refine At.inb ?_
         refine At.zai ?_
         obtain ⟨hc21,H⟩:=zag H
         refine W.region env [] [] rfl rfl rfl (.cons hc21 .nil) .nil (At.keep (ts:=[1,2,7,8]) (ids:=[2]) rfl rfl ?_)
         refine At.zaE (At.keep (ts:=[1,2,7,8]) (ids:=[2]) rfl rfl ?_)
         exact At.conv (.cons .qi (.cons .q (.cons .q (.cons .qi .nil)))) (.cons .q .nil) (hK12 ((s12.1 - 1),y14) H)
       · have H:=zal H hb20
         refine W.skip ?_
         refine At.inb ?_
         refine At.zai ?_
         obtain ⟨hc22,H⟩:=zag H
         refine W.region env [] [] rfl rfl rfl (.cons hc22 .nil) .nil (At.keep (ts:=[1,2,7,8]) (ids:=[2]) rfl rfl ?_)
         refine At.zaE (At.keep (ts:=[1,2,7,8]) (ids:=[2]) rfl rfl ?_)
         exact At.conv (.cons .qi (.cons .q (.cons .q (.cons .qi .nil)))) (.cons .q .nil) (hK12 ((s12.1 - 1),s12.2) H)
     · have H:=zal H hb13
       refine W.exit ?_
       refine At.xthen ?_
       refine At.xthen ?_
       refine At.xhere ?_
       refine At.zai ?_
       refine W.rg env [7,10] [] ?_
       refine W.seq ?_
       refine W.rg env [10,45,46,47] [] ?_
       refine W.block ?_
       refine At.zgp 10 510 3 1 (e:=fun i=>zae (([]:List Int).getD i default)) rfl rfl ?_
       refine At.keep (ts:=[10,45,46,47]) (ids:=[510]) rfl rfl ?_
       refine W.len (t:=45) rfl (fun (hn23:s12.2.length≤maxLen)=>?_)
       refine W.zau H (fun i23 (s23:(List Int))=>[(10,.buf 510 (s23).length),(45,roL 6 zac s12.2),(46,.int .i64 (((s12.2.length:Nat):Int))),(47,.int .i64 ((i23:Int)))]) (fun i23 (s23:(List Int))=>[(510,bufL 3 1 zae s23)]) (.cons .qb (.cons .q (.cons .qi (.cons .qi .nil)))) (.cons .q .nil) (fun k23 i23 s23 hle23 H1 H2 K0 hK23=>?_)
       refine W.rg env [10,45,46,47,48] [510] ?_
       refine W.seq ?_
       refine W.cond rfl (fun hb24=>?_) (fun hb24=>?_)
       · have hi23:i23<s12.2.length:=by have:=of_decide_eq_true hb24;omega
         have H:=H1 hi23
         refine W.skip ?_
         refine At.zai ?_
         refine W.seq ?_
         refine W.block ?_
         refine W.sr env [] [] [10,12,45,46,47] [12,510] rfl rfl rfl (.cons (⟨by omega,by omega⟩:0≤(i23:Int)∧(i23:Int)<((s12.2.length:Nat):Int)) .nil) .nil ?_
         obtain ⟨hc25,H⟩:=zag H
         refine W.region env [] [] rfl rfl rfl (.cons (⟨by first|rfl|(simp;done)|omega|(simp;omega),by have:=hc25;first|simpa using this|(unfold room at this ⊢;simp at this ⊢;omega)⟩) .nil) .nil (At.keep (ts:=[10,45,46,47]) (ids:=[510]) rfl rfl ?_)
         refine At.zbk (.cons (y:=bufL 3 1 zae (s23++([(s12.2.getD i23 default).Source]:List Int))) (BSim.seg (Seg.push (Seg.refl zae _) (Seg.lit (f:=zae) (sz:=1) ([(s12.2.getD i23 default).Source]:List Int) rfl rfl (fun _=>rfl)))) .nil) ?_
         refine At.inb ?_
         refine At.zai ?_
         refine W.region env [] [] rfl rfl rfl (.cons (by unfold inI;have:=hn23;(try unfold maxLen at this);omega) .nil) .nil (At.keep (ts:=[10,45,46,47]) (ids:=[510]) rfl rfl ?_)
         refine At.zaE (At.keep (ts:=[10,45,46,47]) (ids:=[510]) rfl rfl ?_)
         exact At.conv (.cons .qb (.cons .q (.cons .qi (.cons .qi .nil)))) (.cons .q .nil) (hK23 hi23 (s23++([(s12.2.getD i23 default).Source]:List Int)) H)
       · have H:=H2 (by have:=of_decide_eq_false hb24;omega)
         refine W.exit ?_
         refine At.xthen ?_
         refine At.xthen ?_
         refine At.xhere ?_
         refine At.zai ?_
         refine W.rg env [4,5] [510] ?_
         refine W.ret ?_
         cases H
         exact At.ret env.ty rfl rfl (fun q hq=>by cases hq;exact (by first|rfl|(simp;done)|omega|(simp;omega))) (.refl _) hval
theorem zdO (fuel:Nat) (p0:(List Int)) (p1:(List Int)) {r:Bool} (H:zci fuel p0 p1=some r):Ctr Tryz.prog 44 [roL 1 zae p0,roL 1 zae p1] (.bool (r)):=by
 unfold zci at H
 refine Ctr.zap (N:=31) Tryz.func44 (by kernel_rfl) (c:=_) rfl Tryz.ntmps44 rfl (fun w0 h0 hval=>?_)
 refine W.rg env [0,1] [] ?_
 refine W.rg env [0,1,5] [] ?_
 refine W.seq ?_
 refine W.rg env [0,1,5,6] [] ?_
 refine W.block ?_
 refine At.keep (ts:=[0,1,5,6]) (ids:=[]) rfl rfl ?_
 refine W.loopGo H (fun (s1:Bool×Int)=>[(0,roL 1 zae p0),(1,roL 1 zae p1),(5,.bool (s1.1)),(6,.int .i64 (s1.2))]) (fun (s1:Bool×Int)=>[]) (.cons .q (.cons .q (.cons .q (.cons .qi .nil)))) .nil (fun k1 s1 H K0 hK1=>?_)
 refine W.seq ?_
 refine W.sr env [] [] [0,1,5,6,18] [] rfl rfl rfl (.cons id .nil) .nil ?_
 refine W.cond rfl (fun hb2=>?_) (fun hb2=>?_)
 · have H:=zam H hb2
   refine W.skip ?_
   refine At.zai ?_
   refine W.seq ?_
   refine W.block ?_
   obtain ⟨hc3,H⟩:=zag H
   obtain ⟨hc4,H⟩:=zag H
   refine W.region env [] [] rfl rfl (by first|rfl|kernel_rfl) (.cons hc3 (.cons hc4 .nil)) .nil (At.keep (ts:=[0,1,5,6]) (ids:=[]) rfl rfl ?_)
   refine At.inb ?_
   refine At.zai ?_
   obtain ⟨hc5,H⟩:=zag H
   refine W.region env [] [] rfl rfl rfl (.cons hc5 .nil) .nil (At.keep (ts:=[0,1,5,6]) (ids:=[]) rfl rfl ?_)
   refine At.zaE (At.keep (ts:=[0,1,5,6]) (ids:=[]) rfl rfl ?_)
   exact At.conv (.cons .q (.cons .q (.cons .q (.cons .qi .nil)))) .nil (hK1 ((decide ((p0.getD (s1.2).toNat default)=(p1.getD (s1.2).toNat default))),(s1.2+1)) H)
 · have H:=zal H hb2
   refine W.exit ?_
   refine At.xthen ?_
   refine At.xthen ?_
   refine At.xhere ?_
   refine At.zai ?_
   refine W.rg env [4] [] ?_
   refine W.ret ?_
   cases H
   exact At.ret env.ty rfl rfl nofun (.refl _) hval
theorem ze1 (fuel:Nat) (post:Bool→Option Unit) {r:Unit} (H:zcH fuel post=some r):CtrN Tryz.prog 13 [] (fun (y:Bool)=>.bool (y)) (fun y=>post y=some r):=by
 unfold zcH at H
 refine CtrN.zap (N:=148) Tryz.func13 (by kernel_rfl) (c:=_) rfl Tryz.ntmps13 rfl (fun w0 h0 hval=>?_)
 refine W.rg env [] [] ?_
 refine W.sr env [] [⟨.agg [roL 3 zad ((zan).Batches),roL 6 zaa ((zan).Mantles),roL 7 zaf ((zan).Burns),roL 6 zac ((zan).Looks)],[],0,[]⟩] [1] [1] rfl rfl rfl .nil (.free (zeT) .nil) ?_
 refine W.seq ?_
 refine W.region env [] [] rfl rfl rfl .nil .nil (At.keep (ts:=[1,2]) (ids:=[1]) rfl rfl ?_)
 refine At.slot (t:=2) (v:=roL 1 zae ([10,11,12]:List Int)) (Sim.lit (f:=zae) ([10,11,12]:List Int) rfl rfl (fun _=>rfl)) ?_
 refine At.zai ?_
 refine W.seq ?_
 obtain ⟨y1,hy2,H⟩:=zah H
 refine W.region env [] [⟨.tup [.agg [.int .i64 (y1.1.Lo),.int .i64 (y1.1.Hi)],.int .i64 (y1.2)],[],0,[]⟩] rfl rfl rfl .nil (.free (zj5 fuel (zan) 10 2 5 hy2) .nil) (At.keep (ts:=[1,2,3,4]) (ids:=[1,3]) rfl rfl ?_)
 refine At.zai ?_
 refine W.seq ?_
 obtain ⟨y3,hy4,H⟩:=zah H
 refine W.region env [] [⟨.tup [.agg [.int .i64 (y3.1.Lo),.int .i64 (y3.1.Hi)],.int .i64 (y3.2)],[],0,[]⟩] rfl rfl rfl .nil (.free (zjo fuel (zan) 1 5 hy4) .nil) (At.keep (ts:=[1,2,3,4,5,6]) (ids:=[1,3,5]) rfl rfl ?_)
 refine At.zai ?_
 refine W.seq ?_
 obtain ⟨y5,hy6,H⟩:=zah H
 refine W.region env [] [⟨.tup [.int .i64 (y5.1),.int .i64 (y5.2)],[],0,[]⟩] rfl rfl rfl .nil (.free (zfV fuel (zan) 10 2 4 hy6) .nil) (At.keep (ts:=[1,2,3,4,5,6,7,8]) (ids:=[1,3,5]) rfl rfl ?_)
 refine At.zai ?_
 refine W.seq ?_
 obtain ⟨y7,hy8,H⟩:=zah H
 refine W.region env [] [⟨.tup [.int .i64 (y7.1),.int .i64 (y7.2)],[],0,[]⟩] rfl rfl rfl .nil (.free (zfV fuel (zan) 10 1 5 hy8) .nil) (At.keep (ts:=[1,2,3,4,5,6,7,8,9,10]) (ids:=[1,3,5]) rfl rfl ?_)
 refine At.zai ?_
 refine W.seq ?_
 obtain ⟨y9,hy10,H⟩:=zah H
 refine W.region env [] [⟨.tup [.agg [.int .i64 (y9.1.Lo),.int .i64 (y9.1.Hi)],.int .i64 (y9.2)],[],0,[]⟩] rfl rfl rfl .nil (.free (zg7 fuel (zan) ([10,11,12]:List Int) 2 4 hy10) .nil) (At.keep (ts:=[1,2,3,4,5,6,7,8,9,10,11,12]) (ids:=[1,3,5,11]) rfl rfl ?_)
 refine At.zai ?_
 refine W.seq ?_
 obtain ⟨y11,hy12,H⟩:=zah H
 refine W.region env [] [⟨.tup [.agg [.int .i64 (y11.1.Lo),.int .i64 (y11.1.Hi)],.int .i64 (y11.2)],[],0,[]⟩] rfl rfl rfl .nil (.free (zg7 fuel (zan) ([10,11,12]:List Int) 2 5 hy12) .nil) (At.keep (ts:=[1,2,3,4,5,6,7,8,9,10,11,12,13,14]) (ids:=[1,3,5,11,13]) rfl rfl ?_)
 refine At.zai ?_
 refine W.seq ?_
 refine W.zlY env [] 2 [] [] rfl rfl rfl rfl rfl rfl (fun _=>rfl) rfl .nil .nil (fun _=>.nil) (fun _=>.nil) (fun _=>rfl) (zgU fuel (zan) ([10,11,12]:List Int) 2 4 0 false _ H) (fun y13 H=>?_)
 refine At.keep (ts:=[1,3,4,5,6,7,8,9,10,11,12,13,14,15,16]) (ids:=[1,3,5,11,13]) rfl rfl ?_
 refine At.zai ?_
 refine W.seq ?_
 obtain ⟨y14,hy15,H⟩:=zah H
 refine W.region env [] [⟨.tup [.agg [roL 3 zad y14.1.Batches,roL 6 zaa y14.1.Mantles,roL 7 zaf y14.1.Burns,roL 6 zac y14.1.Looks],.int .i64 (y14.2)],[],0,[]⟩] rfl rfl rfl .nil (.free (zfv fuel (zan) (⟨24,10,3,false,0,0⟩:Look) hy15) .nil) (At.keep (ts:=[3,4,5,6,7,8,9,10,11,12,13,14,15,16,17,18]) (ids:=[3,5,11,13,17]) rfl rfl ?_)
 refine At.zai ?_
 refine W.seq ?_
 obtain ⟨y16,hy17,H⟩:=zah H
 refine W.region env [] [⟨.tup [roL 1 zae y16.1,.int .i64 (y16.2)],[],0,[]⟩] rfl rfl rfl .nil (.free (zij fuel y14.1 5 hy17) .nil) (At.keep (ts:=[3,4,5,6,7,8,9,10,11,12,13,14,15,16,18,19,20]) (ids:=[3,5,11,13]) rfl rfl ?_)
 refine At.zai ?_
 refine W.sr env [] [] [3,5,7,9,11,13,15,19,21] [3,5,11,13] rfl rfl rfl (.cons id (.cons id (.cons id (.cons id (.cons id (.cons id (.cons id (.cons id (.cons id (.cons id (.cons id (.cons id (.cons id (.cons id (.cons id (.cons id .nil)))))))))))))))) .nil ?_
 refine W.sr env [] [] [7,9,15,19,21,22] [] rfl rfl rfl (.cons id (.cons id (.cons id (.cons id (.cons id (.cons id (.cons id (.cons id (.cons id .nil))))))))) .nil ?_
 refine W.seq ?_
 obtain ⟨y18,hy19,H⟩:=zah H
 obtain ⟨y20,hy21,H⟩:=zah H
 refine W.region env [] [⟨.bool (y18),[],0,[]⟩,⟨.bool (y20),[],0,[]⟩] rfl rfl rfl (.cons id (.cons id (.cons id (.cons id (.cons id (.cons id (.cons id (.cons id (.cons id (.cons id (.cons id .nil))))))))))) (.on (fun hW=>Ctr.sim (.cons (.refl _) (.cons (Sim.lit (f:=zae) ([10]:List Int) rfl rfl (fun _=>rfl)) .nil)) (zdO fuel y13.1 ([10]:List Int) (zam hy19 hW))) (.on (fun hW=>Ctr.sim (.cons (.refl _) (.cons (Sim.lit (f:=zae) ([22,24]:List Int) rfl rfl (fun _=>rfl)) .nil)) (zdO fuel y16.1 ([22,24]:List Int) (zam hy21 hW))) .nil)) (At.keep (ts:=[0]) (ids:=[]) rfl rfl ?_)
 refine At.zai ?_
 refine W.ret ?_
 exact At.retN env.ty ((((((((((((((decide (y1.2=0)) && (decide (y3.2=0))) && (decide (y5.2=0))) && (decide (y7.2=0))) && (decide (y9.2=0))) && (decide (y11.2=0))) && (decide (y13.2=0))) && (decide (y14.2=0))) && (decide (y16.2=0))) && (((((decide (y1.1.Lo=1300)) && (decide (y1.1.Hi=1600))) && ((decide (y3.1.Lo=1000)) && (decide (y3.1.Hi=1599)))) && ((decide (y9.1.Lo=0)) && (decide (y9.1.Hi=2)))) && ((decide (y11.1.Lo=1)) && (decide (y11.1.Hi=2))))) && (decide (y5.1=2))) && (decide (y7.1=0))) && y18) && y20) H rfl rfl nofun (.refl _) hval
theorem zfS (fuel:Nat) {r:Bool} (H:zda fuel=some r):Ctr Tryz.prog 13 [] (.bool r):=by
 obtain ⟨u,H2,hr⟩:=zlu H
 subst hr
 exact CtrN.one (ze1 fuel _ H2) zl1
theorem za1 (p0:Int) (p1:Int) (p2:Int):Ctr Tryz.prog 83 [.int .i64 (p0),.int .i64 (p1),.int .i64 (p2)] (.bool ((zaq p0 p1 p2))):=by
 obtain ⟨r,H⟩:∃ r,zaq p0 p1 p2=r:=⟨_,rfl⟩
 rw [H]
 unfold zaq at H
 refine Ctr.zap (N:=15) Tryz.func83 (by kernel_rfl) (c:=_) rfl Tryz.ntmps83 rfl (fun w0 h0 hval=>?_)
 refine W.rg env [0,1,2] [] ?_
 refine W.sr env [] [] [6] [] rfl rfl rfl (.cons id (.cons id (.cons id .nil))) .nil ?_
 refine W.ret ?_
 cases H
 exact At.ret env.ty rfl rfl nofun (.refl _) hval
theorem zcE (p0:Batch):Ctr Tryz.prog 20 [.agg [.int .i64 (p0.Id),.int .i64 (p0.Life.Lo),.int .i64 (p0.Life.Hi)]] (.int .i64 ((zar p0))):=by
 obtain ⟨r,H⟩:∃ r,zar p0=r:=⟨_,rfl⟩
 rw [H]
 unfold zar at H
 refine Ctr.zap (N:=23) Tryz.func20 (by kernel_rfl) (c:=_) rfl Tryz.ntmps20 rfl (fun w0 h0 hval=>?_)
 refine W.rg env [1] [1] ?_
 refine W.seq ?_
 refine W.sr env [] [⟨.bool ((zaq p0.Id 1 99)),[],0,[]⟩,⟨.bool ((zaq p0.Life.Lo 0 p0.Life.Hi)),[],0,[]⟩] [22] [] rfl rfl rfl (.cons id (.cons id (.cons id (.cons id (.cons id (.cons id (.cons id (.cons (fun h=>by rw [h];rfl) (.cons id (.cons id (.cons id (.cons (fun h=>by rw [h];rfl) .nil)))))))))))) (.free (za1 p0.Id 1 99) (.on (fun hW=>za1 p0.Life.Lo 0 p0.Life.Hi) .nil)) ?_
 refine W.cond rfl (fun hb1=>?_) (fun hb1=>?_)
 · have H:=zam H hb1
   refine W.rg env [2] [] ?_
   refine W.ret ?_
   refine At.rthen ?_
   cases H
   exact At.ret env.ty rfl rfl nofun (.refl _) hval
 · have H:=zal H hb1
   refine W.skip ?_
   refine At.zai ?_
   refine W.rg env [2] [] ?_
   refine W.ret ?_
   cases H
   exact At.ret env.ty rfl rfl nofun (.refl _) hval
theorem zde (p0:Int):Ctr Tryz.prog 143 [.int .i64 (p0)] (.bool ((zaB p0))):=by
 obtain ⟨r,H⟩:∃ r,zaB p0=r:=⟨_,rfl⟩
 rw [H]
 unfold zaB at H
 refine Ctr.zap (N:=5) Tryz.func143 (by kernel_rfl) (c:=_) rfl Tryz.ntmps143 rfl (fun w0 h0 hval=>?_)
 refine W.rg env [0] [] ?_
 refine W.sr env [] [⟨.bool ((zaq p0 0 100000)),[],0,[]⟩] [2] [] rfl rfl rfl .nil (.free (za1 p0 0 100000) .nil) ?_
 refine W.ret ?_
 cases H
 exact At.ret env.ty rfl rfl nofun (.refl _) hval
theorem zcc (p0:(Arr5 Int)) {r:Bool} (H:zaZ p0=some r):Ctr Tryz.prog 87 [.agg [.int .i64 (p0.x0),.int .i64 (p0.x1),.int .i64 (p0.x2),.int .i64 (p0.x3),.int .i64 (p0.x4)]] (.bool (r)):=by
 unfold zaZ at H
 refine Ctr.zap (N:=34) Tryz.func87 (by kernel_rfl) (c:=_) rfl Tryz.ntmps87 rfl (fun w0 h0 hval=>?_)
 refine W.rg env [1] [1] ?_
 obtain ⟨hc1,H⟩:=zag H
 refine W.sr env [] [⟨.bool ((zaq p0.x0 1 99999)),[],0,[]⟩,⟨.bool ((zaq p0.x1 1 999)),[],0,[]⟩,⟨.bool ((zaB p0.x2)),[],0,[]⟩,⟨.bool ((zaB p0.x3)),[],0,[]⟩,⟨.bool ((zaq p0.x4 (p0.x3+1) 100000)),[],0,[]⟩] [2] [] rfl rfl rfl (.cons (by decide) (.cons (fun _=>by decide) (.cons id (.cons id (.cons id (.cons (fun _=>by decide) (.cons id (.cons id (.cons id (.cons (fun _=>by decide) (.cons id (.cons id (.cons id (.cons (fun _=>by decide) (.cons id (.cons id (.cons id (.cons (fun _=>by decide) (.cons id (.cons (fun _=>by decide) (.cons id (.cons hc1 (.cons id (.cons id (.cons id (.cons id (.cons (fun hW h=>by revert hW h;first|(simp +contextual;done)|grind) (.cons id .nil)))))))))))))))))))))))))))) (.free (za1 p0.x0 1 99999) (.on (fun hW=>za1 p0.x1 1 999) (.on (fun hW=>zde p0.x2) (.on (fun hW=>zde p0.x3) (.on (fun hW=>za1 p0.x4 (p0.x3+1) 100000) .nil))))) ?_
 refine W.ret ?_
 cases H
 exact At.ret env.ty rfl rfl nofun (.refl _) hval
theorem zcw (p0:Mantle) {r:Int} (H:zaQ p0=some r):Ctr Tryz.prog 22 [.agg [.int .i64 (p0.Source),.int .i64 (p0.Lamp),.int .i64 (p0.Batch),.int .i64 (p0.Night),.int .i64 (p0.Known),.int .i64 (p0.Until)]] (.int .i64 (r)):=by
 unfold zaQ at H
 refine Ctr.zap (N:=22) Tryz.func22 (by kernel_rfl) (c:=_) rfl Tryz.ntmps22 rfl (fun w0 h0 hval=>?_)
 refine W.rg env [1] [1] ?_
 refine W.seq ?_
 refine W.seq ?_
 obtain ⟨y1,hy2,H⟩:=zah H
 refine W.region env [] [⟨.bool (y1),[],0,[]⟩,⟨.bool ((zaq p0.Batch 1 99)),[],0,[]⟩] rfl rfl rfl (.cons id (.cons id (.cons id (.cons (fun h=>by rw [h];rfl) .nil)))) (.free (zcc (⟨p0.Source,p0.Lamp,p0.Night,p0.Known,p0.Until⟩:(Arr5 Int)) hy2) (.on (fun hW=>za1 p0.Batch 1 99) .nil)) (At.keep (ts:=[21]) (ids:=[]) rfl rfl ?_)
 refine At.zai ?_
 refine W.cond rfl (fun hb3=>?_) (fun hb3=>?_)
 · have H:=zam H hb3
   refine W.rg env [2] [] ?_
   refine W.ret ?_
   refine At.rthen ?_
   cases H
   exact At.ret env.ty rfl rfl nofun (.refl _) hval
 · have H:=zal H hb3
   refine W.skip ?_
   refine At.zai ?_
   refine W.rg env [2] [] ?_
   refine W.ret ?_
   cases H
   exact At.ret env.ty rfl rfl nofun (.refl _) hval
theorem zey (fuel:Nat) (p0:Wear) (p1:Int) {r:Bool} (H:zbe fuel p0 p1=some r):Ctr Tryz.prog 80 [.agg [roL 3 zad p0.Batches,roL 6 zaa p0.Mantles,roL 7 zaf p0.Burns,roL 6 zac p0.Looks],.int .i64 (p1)] (.bool (r)):=by
 unfold zbe at H
 refine Ctr.zap (N:=21) Tryz.func80 (by kernel_rfl) (c:=_) rfl Tryz.ntmps80 rfl (fun w0 h0 hval=>?_)
 refine W.rg env [1,2] [2] ?_
 refine W.seq ?_
 refine W.rg env [1,2,5] [2] ?_
 refine W.block ?_
 refine At.keep (ts:=[1,2,5]) (ids:=[2]) rfl rfl ?_
 refine W.loopGo H (fun (s1:Int)=>[(1,.int .i64 (p1)),(2,.lp 2 0),(5,.int .i64 (s1))]) (fun (s1:Int)=>[(2,.cells [roL 3 zad p0.Batches,roL 6 zaa p0.Mantles,roL 7 zaf p0.Burns,roL 6 zac p0.Looks])]) (.cons .qi (.cons .q (.cons .qi .nil))) (.cons .q .nil) (fun k1 s1 H K0 hK1=>?_)
 refine W.seq ?_
 refine W.rg env [1,2,5,10] [2] ?_
 refine W.cond rfl (fun hb2=>?_) (fun hb2=>?_)
 · have H:=zam H hb2
   refine W.skip ?_
   refine At.zai ?_
   refine W.seq ?_
   refine W.block ?_
   obtain ⟨hc3,H⟩:=zag H
   refine W.sr env [] [] [1,2,5,20] [2] rfl rfl rfl (.cons hc3 .nil) .nil ?_
   refine W.cond rfl (fun hb4=>?_) (fun hb4=>?_)
   · have H:=zam H hb4
     refine W.rg env [4] [] ?_
     refine W.ret ?_
     refine At.rinb ?_
     refine At.rthen ?_
     refine At.rthen ?_
     refine At.rinb ?_
     refine At.rthen ?_
     cases H
     exact At.ret env.ty rfl rfl nofun (.refl _) hval
   · have H:=zal H hb4
     refine W.skip ?_
     refine At.inb ?_
     refine At.zai ?_
     obtain ⟨hc5,H⟩:=zag H
     refine W.region env [] [] rfl rfl rfl (.cons hc5 .nil) .nil (At.keep (ts:=[1,2,5]) (ids:=[2]) rfl rfl ?_)
     refine At.zaE (At.keep (ts:=[1,2,5]) (ids:=[2]) rfl rfl ?_)
     exact At.conv (.cons .qi (.cons .q (.cons .qi .nil))) (.cons .q .nil) (hK1 (s1+1) H)
 · have H:=zal H hb2
   refine W.exit ?_
   refine At.xthen ?_
   refine At.xthen ?_
   refine At.xhere ?_
   refine At.zai ?_
   refine W.rg env [4] [] ?_
   refine W.ret ?_
   cases H
   exact At.ret env.ty rfl rfl nofun (.refl _) hval
theorem zcQ (p0:Burn) {r:Int} (H:zaW p0=some r):Ctr Tryz.prog 24 [.agg [.int .i64 (p0.Source),.int .i64 (p0.Lamp),.int .i64 (p0.Night),.int .i64 (p0.Minutes.Lo),.int .i64 (p0.Minutes.Hi),.int .i64 (p0.Known),.int .i64 (p0.Until)]] (.int .i64 (r)):=by
 unfold zaW at H
 refine Ctr.zap (N:=32) Tryz.func24 (by kernel_rfl) (c:=_) rfl Tryz.ntmps24 rfl (fun w0 h0 hval=>?_)
 refine W.rg env [1] [1] ?_
 refine W.seq ?_
 refine W.seq ?_
 obtain ⟨y1,hy2,H⟩:=zah H
 refine W.region env [] [⟨.bool (y1),[],0,[]⟩,⟨.bool ((zaq p0.Minutes.Lo 0 p0.Minutes.Hi)),[],0,[]⟩] rfl rfl rfl (.cons id (.cons id (.cons id (.cons id (.cons id (.cons id (.cons id (.cons (fun h=>by rw [h];rfl) (.cons id (.cons id (.cons id (.cons (fun h=>by rw [h];rfl) .nil)))))))))))) (.free (zcc (⟨p0.Source,p0.Lamp,p0.Night,p0.Known,p0.Until⟩:(Arr5 Int)) hy2) (.on (fun hW=>za1 p0.Minutes.Lo 0 p0.Minutes.Hi) .nil)) (At.keep (ts:=[31]) (ids:=[]) rfl rfl ?_)
 refine At.zai ?_
 refine W.cond rfl (fun hb3=>?_) (fun hb3=>?_)
 · have H:=zam H hb3
   refine W.rg env [2] [] ?_
   refine W.ret ?_
   refine At.rthen ?_
   cases H
   exact At.ret env.ty rfl rfl nofun (.refl _) hval
 · have H:=zal H hb3
   refine W.skip ?_
   refine At.zai ?_
   refine W.rg env [2] [] ?_
   refine W.ret ?_
   cases H
   exact At.ret env.ty rfl rfl nofun (.refl _) hval
theorem zbL (p0:Look) {r:Int} (H:zaM p0=some r):Ctr Tryz.prog 26 [.agg [.int .i64 (p0.Source),.int .i64 (p0.Lamp),.int .i64 (p0.Night),.bool (p0.Bad),.int .i64 (p0.Known),.int .i64 (p0.Until)]] (.int .i64 (r)):=by
 unfold zaM at H
 refine Ctr.zap (N:=16) Tryz.func26 (by kernel_rfl) (c:=_) rfl Tryz.ntmps26 rfl (fun w0 h0 hval=>?_)
 refine W.rg env [1] [1] ?_
 refine W.seq ?_
 refine W.seq ?_
 obtain ⟨y1,hy2,H⟩:=zah H
 refine W.region env [] [⟨.bool (y1),[],0,[]⟩] rfl rfl rfl .nil (.free (zcc (⟨p0.Source,p0.Lamp,p0.Night,p0.Known,p0.Until⟩:(Arr5 Int)) hy2) .nil) (At.keep (ts:=[15]) (ids:=[]) rfl rfl ?_)
 refine At.zai ?_
 refine W.cond rfl (fun hb3=>?_) (fun hb3=>?_)
 · have H:=zam H hb3
   refine W.rg env [2] [] ?_
   refine W.ret ?_
   refine At.rthen ?_
   cases H
   exact At.ret env.ty rfl rfl nofun (.refl _) hval
 · have H:=zal H hb3
   refine W.skip ?_
   refine At.zai ?_
   refine W.rg env [2] [] ?_
   refine W.ret ?_
   cases H
   exact At.ret env.ty rfl rfl nofun (.refl _) hval
theorem zdE (fuel:Nat) (p0:Wear) {r:Int} (H:zaN fuel p0=some r):Ctr Tryz.prog 18 [.agg [roL 3 zad p0.Batches,roL 6 zaa p0.Mantles,roL 7 zaf p0.Burns,roL 6 zac p0.Looks]] (.int .i64 (r)):=by
 unfold zaN at H
 refine Ctr.zap (N:=176) Tryz.func18 (by kernel_rfl) (c:=_) rfl Tryz.ntmps18 rfl (fun w0 h0 hval=>?_)
 refine W.rg env [1] [1] ?_
 refine W.seq ?_
 refine W.sr env [] [] [1,28] [1] rfl rfl rfl (.cons id (.cons id (.cons id (.cons (fun h=>by rw [h];rfl) (.cons id (.cons id (.cons id (.cons (fun h=>by rw [h];rfl) (.cons id (.cons id (.cons id (.cons (fun h=>by rw [h];rfl) .nil)))))))))))) .nil ?_
 refine W.cond rfl (fun hb1=>?_) (fun hb1=>?_)
 · have H:=zam H hb1
   refine W.rg env [2] [] ?_
   refine W.ret ?_
   refine At.rthen ?_
   cases H
   exact At.ret env.ty rfl rfl nofun (.refl _) hval
 · have H:=zal H hb1
   refine W.skip ?_
   refine At.zai ?_
   refine W.seq ?_
   refine W.rg env [1,3] [1] ?_
   refine W.block ?_
   refine At.keep (ts:=[1,3]) (ids:=[1]) rfl rfl ?_
   refine W.loopGo H (fun (s2:Int)=>[(1,.lp 1 0),(3,.int .i64 (s2))]) (fun (s2:Int)=>[(1,.cells [roL 3 zad p0.Batches,roL 6 zaa p0.Mantles,roL 7 zaf p0.Burns,roL 6 zac p0.Looks])]) (.cons .q (.cons .qi .nil)) (.cons .q .nil) (fun k2 s2 H K0 hK2=>?_)
   refine W.seq ?_
   refine W.rg env [1,3,33] [1] ?_
   refine W.cond rfl (fun hb3=>?_) (fun hb3=>?_)
   · have H:=zam H hb3
     refine W.skip ?_
     refine At.zai ?_
     refine W.seq ?_
     refine W.block ?_
     obtain ⟨hc4,H⟩:=zag H
     obtain ⟨hc5,H⟩:=zag H
     obtain ⟨hc6,H⟩:=zag H
     obtain ⟨hc7,H⟩:=zag H
     refine W.sr env [] [⟨.int .i64 ((zar (p0.Batches.getD (s2).toNat default))),[],0,[]⟩] [1,3,62] [1] rfl rfl (by kernel_rfl) (.cons hc4 (.cons id (.cons id (.cons id (.cons hc5 (.cons id (.cons hc6 (.cons id (.cons id (.cons id (.cons id (.cons id (.cons hc7 (.cons id (.cons id (.cons id (.cons id (.cons id (.cons id (.cons id (.cons (fun hW h=>by revert hW h;first|(simp +contextual;done)|grind) (.cons (fun h=>by rw [h];rfl) .nil)))))))))))))))))))))) (.free (zcE (p0.Batches.getD (s2).toNat default)) .nil) ?_
     refine W.cond rfl (fun hb8=>?_) (fun hb8=>?_)
     · have H:=zam H hb8
       refine W.rg env [2] [] ?_
       refine W.ret ?_
       refine At.rinb ?_
       refine At.rthen ?_
       refine At.rthen ?_
       refine At.rinb ?_
       refine At.rthen ?_
       cases H
       exact At.ret env.ty rfl rfl nofun (.refl _) hval
     · have H:=zal H hb8
       refine W.skip ?_
       refine At.inb ?_
       refine At.zai ?_
       obtain ⟨hc9,H⟩:=zag H
       refine W.region env [] [] rfl rfl rfl (.cons hc9 .nil) .nil (At.keep (ts:=[1,3]) (ids:=[1]) rfl rfl ?_)
       refine At.zaE (At.keep (ts:=[1,3]) (ids:=[1]) rfl rfl ?_)
       exact At.conv (.cons .q (.cons .qi .nil)) (.cons .q .nil) (hK2 (s2+1) H)
   · have H:=zal H hb3
     refine W.exit ?_
     refine At.xthen ?_
     refine At.xthen ?_
     refine At.xhere ?_
     refine At.zai ?_
     refine W.seq ?_
     refine W.rg env [1,4] [1] ?_
     refine W.block ?_
     refine At.keep (ts:=[1,4]) (ids:=[1]) rfl rfl ?_
     refine W.loopGo H (fun (s10:Int)=>[(1,.lp 1 0),(4,.int .i64 (s10))]) (fun (s10:Int)=>[(1,.cells [roL 3 zad p0.Batches,roL 6 zaa p0.Mantles,roL 7 zaf p0.Burns,roL 6 zac p0.Looks])]) (.cons .q (.cons .qi .nil)) (.cons .q .nil) (fun k10 s10 H K0 hK10=>?_)
     refine W.seq ?_
     refine W.rg env [1,4,67] [1] ?_
     refine W.cond rfl (fun hb11=>?_) (fun hb11=>?_)
     · have H:=zam H hb11
       refine W.skip ?_
       refine At.zai ?_
       refine W.seq ?_
       refine W.block ?_
       refine W.seq ?_
       obtain ⟨hc12,H⟩:=zag H
       obtain ⟨y13,hy14,H⟩:=zah H
       obtain ⟨hc15,H⟩:=zag H
       obtain ⟨y16,hy17,H⟩:=zah H
       obtain ⟨hc18,H⟩:=zag H
       obtain ⟨hc19,H⟩:=zag H
       obtain ⟨hc20,H⟩:=zag H
       refine W.region env [] [⟨.int .i64 (y13),[],0,[]⟩,⟨.bool (y16),[],0,[]⟩] rfl rfl (by kernel_rfl) (.cons hc12 (.cons id (.cons hc15 (.cons id (.cons id (.cons id (.cons id (.cons id (.cons id (.cons id (.cons (fun h=>by rw [h];rfl) (.cons id (.cons id (.cons id (.cons hc18 (.cons id (.cons hc19 (.cons id (.cons id (.cons id (.cons id (.cons id (.cons hc20 (.cons id (.cons id (.cons id (.cons id (.cons id (.cons id (.cons id (.cons (fun hW h=>by revert hW h;first|(simp +contextual;done)|grind) (.cons (fun h=>by rw [h];rfl) .nil)))))))))))))))))))))))))))))))) (.free (zcw (p0.Mantles.getD (s10).toNat default) hy14) (.on (fun hW=>zey fuel p0 ((p0.Mantles.getD (s10).toNat default).Batch) (zam hy17 hW)) .nil)) (At.keep (ts:=[1,4,107]) (ids:=[1]) rfl rfl ?_)
       refine At.zai ?_
       refine W.cond rfl (fun hb21=>?_) (fun hb21=>?_)
       · have H:=zam H hb21
         refine W.rg env [2] [] ?_
         refine W.ret ?_
         refine At.rinb ?_
         refine At.rthen ?_
         refine At.rthen ?_
         refine At.rinb ?_
         refine At.rthen ?_
         cases H
         exact At.ret env.ty rfl rfl nofun (.refl _) hval
       · have H:=zal H hb21
         refine W.skip ?_
         refine At.inb ?_
         refine At.zai ?_
         obtain ⟨hc22,H⟩:=zag H
         refine W.region env [] [] rfl rfl rfl (.cons hc22 .nil) .nil (At.keep (ts:=[1,4]) (ids:=[1]) rfl rfl ?_)
         refine At.zaE (At.keep (ts:=[1,4]) (ids:=[1]) rfl rfl ?_)
         exact At.conv (.cons .q (.cons .qi .nil)) (.cons .q .nil) (hK10 (s10+1) H)
     · have H:=zal H hb11
       refine W.exit ?_
       refine At.xthen ?_
       refine At.xthen ?_
       refine At.xhere ?_
       refine At.zai ?_
       refine W.seq ?_
       refine W.rg env [1,5] [1] ?_
       refine W.block ?_
       refine At.keep (ts:=[1,5]) (ids:=[1]) rfl rfl ?_
       refine W.loopGo H (fun (s23:Int)=>[(1,.lp 1 0),(5,.int .i64 (s23))]) (fun (s23:Int)=>[(1,.cells [roL 3 zad p0.Batches,roL 6 zaa p0.Mantles,roL 7 zaf p0.Burns,roL 6 zac p0.Looks])]) (.cons .q (.cons .qi .nil)) (.cons .q .nil) (fun k23 s23 H K0 hK23=>?_)
       refine W.seq ?_
       refine W.rg env [1,5,112] [1] ?_
       refine W.cond rfl (fun hb24=>?_) (fun hb24=>?_)
       · have H:=zam H hb24
         refine W.skip ?_
         refine At.zai ?_
         refine W.seq ?_
         refine W.block ?_
         refine W.seq ?_
         obtain ⟨hc25,H⟩:=zag H
         obtain ⟨y26,hy27,H⟩:=zah H
         obtain ⟨hc28,H⟩:=zag H
         obtain ⟨hc29,H⟩:=zag H
         obtain ⟨hc30,H⟩:=zag H
         refine W.region env [] [⟨.int .i64 (y26),[],0,[]⟩] rfl rfl (by kernel_rfl) (.cons hc25 (.cons id (.cons id (.cons id (.cons hc28 (.cons id (.cons hc29 (.cons id (.cons id (.cons id (.cons id (.cons id (.cons hc30 (.cons id (.cons id (.cons id (.cons id (.cons id (.cons id (.cons id (.cons (fun hW h=>by revert hW h;first|(simp +contextual;done)|grind) (.cons (fun h=>by rw [h];rfl) .nil)))))))))))))))))))))) (.free (zcQ (p0.Burns.getD (s23).toNat default) hy27) .nil) (At.keep (ts:=[1,5,141]) (ids:=[1]) rfl rfl ?_)
         refine At.zai ?_
         refine W.cond rfl (fun hb31=>?_) (fun hb31=>?_)
         · have H:=zam H hb31
           refine W.rg env [2] [] ?_
           refine W.ret ?_
           refine At.rinb ?_
           refine At.rthen ?_
           refine At.rthen ?_
           refine At.rinb ?_
           refine At.rthen ?_
           cases H
           exact At.ret env.ty rfl rfl nofun (.refl _) hval
         · have H:=zal H hb31
           refine W.skip ?_
           refine At.inb ?_
           refine At.zai ?_
           obtain ⟨hc32,H⟩:=zag H
           refine W.region env [] [] rfl rfl rfl (.cons hc32 .nil) .nil (At.keep (ts:=[1,5]) (ids:=[1]) rfl rfl ?_)
           refine At.zaE (At.keep (ts:=[1,5]) (ids:=[1]) rfl rfl ?_)
           exact At.conv (.cons .q (.cons .qi .nil)) (.cons .q .nil) (hK23 (s23+1) H)
       · have H:=zal H hb24
         refine W.exit ?_
         refine At.xthen ?_
         refine At.xthen ?_
         refine At.xhere ?_
         refine At.zai ?_
         refine W.seq ?_
         refine W.rg env [1,6] [1] ?_
         refine W.block ?_
         refine At.keep (ts:=[1,6]) (ids:=[1]) rfl rfl ?_
         refine W.loopGo H (fun (s33:Int)=>[(1,.lp 1 0),(6,.int .i64 (s33))]) (fun (s33:Int)=>[(1,.cells [roL 3 zad p0.Batches,roL 6 zaa p0.Mantles,roL 7 zaf p0.Burns,roL 6 zac p0.Looks])]) (.cons .q (.cons .qi .nil)) (.cons .q .nil) (fun k33 s33 H K0 hK33=>?_)
         refine W.seq ?_
         refine W.rg env [1,6,146] [1] ?_
         refine W.cond rfl (fun hb34=>?_) (fun hb34=>?_)
         · have H:=zam H hb34
           refine W.skip ?_
           refine At.zai ?_
           refine W.seq ?_
           refine W.block ?_
           refine W.seq ?_
           obtain ⟨hc35,H⟩:=zag H
           obtain ⟨y36,hy37,H⟩:=zah H
           obtain ⟨hc38,H⟩:=zag H
           obtain ⟨hc39,H⟩:=zag H
           obtain ⟨hc40,H⟩:=zag H
           refine W.region env [] [⟨.int .i64 (y36),[],0,[]⟩] rfl rfl (by kernel_rfl) (.cons hc35 (.cons id (.cons id (.cons id (.cons hc38 (.cons id (.cons hc39 (.cons id (.cons id (.cons id (.cons id (.cons id (.cons hc40 (.cons id (.cons id (.cons id (.cons id (.cons id (.cons id (.cons id (.cons (fun hW h=>by revert hW h;first|(simp +contextual;done)|grind) (.cons (fun h=>by rw [h];rfl) .nil)))))))))))))))))))))) (.free (zbL (p0.Looks.getD (s33).toNat default) hy37) .nil) (At.keep (ts:=[1,6,175]) (ids:=[1]) rfl rfl ?_)
           refine At.zai ?_
           refine W.cond rfl (fun hb41=>?_) (fun hb41=>?_)
           · have H:=zam H hb41
             refine W.rg env [2] [] ?_
             refine W.ret ?_
             refine At.rinb ?_
             refine At.rthen ?_
             refine At.rthen ?_
             refine At.rinb ?_
             refine At.rthen ?_
             cases H
             exact At.ret env.ty rfl rfl nofun (.refl _) hval
           · have H:=zal H hb41
             refine W.skip ?_
             refine At.inb ?_
             refine At.zai ?_
             obtain ⟨hc42,H⟩:=zag H
             refine W.region env [] [] rfl rfl rfl (.cons hc42 .nil) .nil (At.keep (ts:=[1,6]) (ids:=[1]) rfl rfl ?_)
             refine At.zaE (At.keep (ts:=[1,6]) (ids:=[1]) rfl rfl ?_)
             exact At.conv (.cons .q (.cons .qi .nil)) (.cons .q .nil) (hK33 (s33+1) H)
         · have H:=zal H hb34
           refine W.exit ?_
           refine At.xthen ?_
           refine At.xthen ?_
           refine At.xhere ?_
           refine At.zai ?_
           refine W.rg env [2] [] ?_
           refine W.ret ?_
           cases H
           exact At.ret env.ty rfl rfl nofun (.refl _) hval
theorem zfR (p0:Wear) {r:Wear} (H:zcj p0=some r):Ctr Tryz.prog 68 [.agg [roL 3 zad p0.Batches,roL 6 zaa p0.Mantles,roL 7 zaf p0.Burns,roL 6 zac p0.Looks]] (.agg [roL 3 zad r.Batches,roL 6 zaa r.Mantles,roL 7 zaf r.Burns,roL 6 zac r.Looks]):=by
 unfold zcj at H
 refine Ctr.zap (N:=20) Tryz.func68 (by kernel_rfl) (c:=_) rfl Tryz.ntmps68 rfl (fun w0 h0 hval=>?_)
 refine W.rg env [1,2] [1,2] ?_
 refine W.seq ?_
 obtain ⟨hc1,H⟩:=zag H
 obtain ⟨hc2,H⟩:=zag H
 obtain ⟨hc3,H⟩:=zag H
 obtain ⟨hc4,H⟩:=zag H
 refine W.region env [3,7,11,15] [] rfl rfl (by first|rfl|kernel_rfl) (.cons (⟨by first|rfl|(simp;done)|omega|(simp;omega),by have:=hc1;first|simpa using this|(unfold room at this ⊢;simp at this ⊢;omega)⟩) (.cons (⟨by first|rfl|(simp;done)|omega|(simp;omega),by have:=hc2;first|simpa using this|(unfold room at this ⊢;simp at this ⊢;omega)⟩) (.cons (⟨by first|rfl|(simp;done)|omega|(simp;omega),by have:=hc3;first|simpa using this|(unfold room at this ⊢;simp at this ⊢;omega)⟩) (.cons (⟨by first|rfl|(simp;done)|omega|(simp;omega),by have:=hc4;first|simpa using this|(unfold room at this ⊢;simp at this ⊢;omega)⟩) .nil)))) .nil (At.keep (ts:=[2]) (ids:=[2,3,7,11,15]) rfl rfl ?_)
 refine At.zbk (.cons (.refl _) (.cons (y:=bufL 31 3 zad (([]:List Batch)++p0.Batches)) (BSim.seg (Seg.push (Seg.lit (f:=zad) (sz:=3) ([]:List Batch) rfl rfl (fun _=>rfl)) (Seg.refl zad p0.Batches))) (.cons (y:=bufL 33 6 zaa (([]:List Mantle)++p0.Mantles)) (BSim.seg (Seg.push (Seg.lit (f:=zaa) (sz:=6) ([]:List Mantle) rfl rfl (fun _=>rfl)) (Seg.refl zaa p0.Mantles))) (.cons (y:=bufL 35 7 zaf (([]:List Burn)++p0.Burns)) (BSim.seg (Seg.push (Seg.lit (f:=zaf) (sz:=7) ([]:List Burn) rfl rfl (fun _=>rfl)) (Seg.refl zaf p0.Burns))) (.cons (y:=bufL 37 6 zac (([]:List Look)++p0.Looks)) (BSim.seg (Seg.push (Seg.lit (f:=zac) (sz:=6) ([]:List Look) rfl rfl (fun _=>rfl)) (Seg.refl zac p0.Looks))) .nil))))) ?_
 refine At.zai ?_
 refine W.ret ?_
 cases H
 exact At.ret env.ty rfl rfl (fun q hq=>by cases hq;exact (by (repeat' apply And.intro) <;> first|rfl|(simp;done)|omega|(simp;omega))) (.refl _) hval
theorem ze0 (fuel:Nat) (p0:Wear) (p1:Look) {r:(Wear×Int)} (H:za0 fuel p0 p1=some r):Ctr Tryz.prog 15 [.agg [roL 3 zad p0.Batches,roL 6 zaa p0.Mantles,roL 7 zaf p0.Burns,roL 6 zac p0.Looks],.agg [.int .i64 (p1.Source),.int .i64 (p1.Lamp),.int .i64 (p1.Night),.bool (p1.Bad),.int .i64 (p1.Known),.int .i64 (p1.Until)]] (.tup [.agg [roL 3 zad r.1.Batches,roL 6 zaa r.1.Mantles,roL 7 zaf r.1.Burns,roL 6 zac r.1.Looks],.int .i64 (r.2)]):=by
 unfold za0 at H
 refine Ctr.zap (N:=68) Tryz.func15 (by kernel_rfl) (c:=_) rfl Tryz.ntmps15 rfl (fun w0 h0 hval=>?_)
 refine W.rg env [2,3,4] [2,3,4] ?_
 refine W.seq ?_
 refine W.seq ?_
 obtain ⟨y1,hy2,H⟩:=zah H
 refine W.region env [] [⟨.int .i64 (y1),[],0,[]⟩] rfl rfl rfl .nil (.free (zdE fuel p0 hy2) .nil) (At.keep (ts:=[2,3,4,11]) (ids:=[2,3,4]) rfl rfl ?_)
 refine At.zai ?_
 refine W.cond rfl (fun hb3=>?_) (fun hb3=>?_)
 · have H:=zam H hb3
   refine W.rg env [4,5] [4] ?_
   refine W.ret ?_
   refine At.rthen ?_
   cases H
   exact At.ret env.ty rfl rfl nofun (Sim.tupL (.cons (Sim.aggL (.cons (Sim.nil _ _) (.cons (Sim.nil _ _) (.cons (Sim.nil _ _) (.cons (Sim.nil _ _) .nil))))) (.cons (.refl _) .nil))) hval
 · have H:=zal H hb3
   refine W.skip ?_
   refine At.zai ?_
   refine W.seq ?_
   refine W.seq ?_
   obtain ⟨y4,hy5,H⟩:=zah H
   refine W.region env [] [⟨.int .i64 (y4),[],0,[]⟩] rfl rfl rfl .nil (.free (zbL p1 hy5) .nil) (At.keep (ts:=[2,3,4,15]) (ids:=[2,3,4]) rfl rfl ?_)
   refine At.zai ?_
   refine W.cond rfl (fun hb6=>?_) (fun hb6=>?_)
   · have H:=zam H hb6
     refine W.rg env [4,5] [4] ?_
     refine W.ret ?_
     refine At.rthen ?_
     cases H
     exact At.ret env.ty rfl rfl nofun (Sim.tupL (.cons (Sim.aggL (.cons (Sim.nil _ _) (.cons (Sim.nil _ _) (.cons (Sim.nil _ _) (.cons (Sim.nil _ _) .nil))))) (.cons (.refl _) .nil))) hval
   · have H:=zal H hb6
     refine W.skip ?_
     refine At.zai ?_
     refine W.rg env [2,3,4,6] [2,3,4] ?_
     refine W.seq ?_
     refine W.rg env [2,3,4,6,7] [2,3,4] ?_
     refine W.block ?_
     refine At.keep (ts:=[2,3,4,6,7]) (ids:=[2,3,4]) rfl rfl ?_
     refine W.loopGo H (fun (s7:Int×Int)=>[(2,.lp 2 0),(3,.lp 3 0),(4,.lp 4 0),(6,.int .i64 (s7.1)),(7,.int .i64 (s7.2))]) (fun (s7:Int×Int)=>[(2,.cells [roL 3 zad p0.Batches,roL 6 zaa p0.Mantles,roL 7 zaf p0.Burns,roL 6 zac p0.Looks]),(3,.cells [.int .i64 (p1.Source),.int .i64 (p1.Lamp),.int .i64 (p1.Night),.bool (p1.Bad),.int .i64 (p1.Known),.int .i64 (p1.Until)]),(4,.cells [.nilS,.nilS,.nilS,.nilS])]) (.cons .q (.cons .q (.cons .q (.cons .qi (.cons .qi .nil))))) (.cons .q (.cons .q (.cons (BSim.cells (.cons (by first|exact Sim.refl _|exact Sim.nil _ _) (.cons (by first|exact Sim.refl _|exact Sim.nil _ _) (.cons (by first|exact Sim.refl _|exact Sim.nil _ _) (.cons (by first|exact Sim.refl _|exact Sim.nil _ _) .nil))))) .nil))) (fun k7 s7 H K0 hK7=>?_)
     refine W.seq ?_
     refine W.rg env [2,3,4,6,7,21] [2,3,4] ?_
     refine W.cond rfl (fun hb8=>?_) (fun hb8=>?_)
     · have H:=zam H hb8
       refine W.skip ?_
       refine At.zai ?_
       refine W.seq ?_
       refine W.block ?_
       refine W.seq ?_
       obtain ⟨hc9,H⟩:=zag H
       refine W.sr env [] [] [2,3,4,6,7,32] [2,3,4] rfl rfl (by first|rfl|kernel_rfl) (.cons hc9 .nil) .nil ?_
       refine W.cond rfl (fun hb10=>?_) (fun hb10=>?_)
       · have H:=zam H hb10
         refine W.rg env [4,5] [4] ?_
         refine W.ret ?_
         refine At.rthen ?_
         refine At.rinb ?_
         refine At.rthen ?_
         refine At.rthen ?_
         refine At.rinb ?_
         refine At.rthen ?_
         cases H
         exact At.ret env.ty rfl rfl nofun (Sim.tupL (.cons (Sim.aggL (.cons (Sim.nil _ _) (.cons (Sim.nil _ _) (.cons (Sim.nil _ _) (.cons (Sim.nil _ _) .nil))))) (.cons (.refl _) .nil))) hval
       · have H:=zal H hb10
         refine W.skip ?_
         refine At.zai ?_
         obtain ⟨hc11,H⟩:=zag H
         refine W.sr env [] [] [2,3,4,6,7,42] [2,3,4] rfl rfl (by first|rfl|kernel_rfl) (.cons hc11 .nil) .nil ?_
         refine W.cond rfl (fun hb12=>?_) (fun hb12=>?_)
         · have H:=zam H hb12
           obtain ⟨hc13,H⟩:=zag H
           refine W.region env [] [] rfl rfl rfl (.cons hc13 .nil) .nil (At.keep (ts:=[2,3,4,6,7]) (ids:=[2,3,4]) rfl rfl ?_)
           refine At.inb ?_
           refine At.zai ?_
           obtain ⟨hc14,H⟩:=zag H
           refine W.region env [] [] rfl rfl rfl (.cons hc14 .nil) .nil (At.keep (ts:=[2,3,4,6,7]) (ids:=[2,3,4]) rfl rfl ?_)
           refine At.zaE (At.keep (ts:=[2,3,4,6,7]) (ids:=[2,3,4]) rfl rfl ?_)
           exact At.conv (.cons .q (.cons .q (.cons .q (.cons .qi (.cons .qi .nil))))) (.cons .q (.cons .q (.cons (BSim.cells (.cons (by first|exact Sim.refl _|exact Sim.nil _ _) (.cons (by first|exact Sim.refl _|exact Sim.nil _ _) (.cons (by first|exact Sim.refl _|exact Sim.nil _ _) (.cons (by first|exact Sim.refl _|exact Sim.nil _ _) .nil))))) .nil))) (hK7 ((s7.2+1),(s7.2+1)) H)
         · have H:=zal H hb12
           refine W.skip ?_
           refine At.inb ?_
           refine At.zai ?_
           obtain ⟨hc15,H⟩:=zag H
           refine W.region env [] [] rfl rfl rfl (.cons hc15 .nil) .nil (At.keep (ts:=[2,3,4,6,7]) (ids:=[2,3,4]) rfl rfl ?_)
           refine At.zaE (At.keep (ts:=[2,3,4,6,7]) (ids:=[2,3,4]) rfl rfl ?_)
           exact At.conv (.cons .q (.cons .q (.cons .q (.cons .qi (.cons .qi .nil))))) (.cons .q (.cons .q (.cons (BSim.cells (.cons (by first|exact Sim.refl _|exact Sim.nil _ _) (.cons (by first|exact Sim.refl _|exact Sim.nil _ _) (.cons (by first|exact Sim.refl _|exact Sim.nil _ _) (.cons (by first|exact Sim.refl _|exact Sim.nil _ _) .nil))))) .nil))) (hK7 (s7.1,(s7.2+1)) H)
     · have H:=zal H hb8
       refine W.exit ?_
       refine At.xthen ?_
       refine At.xthen ?_
       refine At.xhere ?_
       refine At.zai ?_
       refine W.seq ?_
       refine W.rg env [2,3,4,6,48] [2,3,4] ?_
       refine W.cond rfl (fun hb16=>?_) (fun hb16=>?_)
       · have H:=zam H hb16
         refine W.rg env [4,5] [4] ?_
         refine W.ret ?_
         refine At.rthen ?_
         cases H
         exact At.ret env.ty rfl rfl nofun (Sim.tupL (.cons (Sim.aggL (.cons (Sim.nil _ _) (.cons (Sim.nil _ _) (.cons (Sim.nil _ _) (.cons (Sim.nil _ _) .nil))))) (.cons (.refl _) .nil))) hval
       · have H:=zal H hb16
         refine W.skip ?_
         refine At.zai ?_
         refine W.seq ?_
         obtain ⟨y17,hy18,H⟩:=zah H
         refine W.region env [] [⟨.agg [roL 3 zad y17.Batches,roL 6 zaa y17.Mantles,roL 7 zaf y17.Burns,roL 6 zac y17.Looks],[],0,[]⟩] rfl rfl rfl .nil (.free (zfR p0 hy18) .nil) (At.keep (ts:=[2,3,4,6,8]) (ids:=[2,3,4,8]) rfl rfl ?_)
         refine At.zai ?_
         refine W.seq ?_
         obtain ⟨hc19,H⟩:=zag H
         obtain ⟨hc20,H⟩:=zag H
         obtain ⟨hc21,H⟩:=zag H
         obtain ⟨hc22,H⟩:=zag H
         obtain ⟨hc23,H⟩:=zag H
         refine W.region env [52] [] rfl rfl (by first|rfl|kernel_rfl) (.cons hc19 (.cons (⟨by first|rfl|(simp;done)|omega|(simp;omega),by have:=hc20;first|simpa using this|(unfold room at this ⊢;simp at this ⊢;omega)⟩) (.cons (⟨by first|rfl|(simp;done)|omega|(simp;omega),by have:=hc21;first|simpa using this|(unfold room at this ⊢;simp at this ⊢;omega)⟩) (.cons hc22 (.cons (⟨by first|rfl|(simp;done)|omega|(simp;omega),by have:=hc23;first|simpa using this|(unfold room at this ⊢;simp at this ⊢;omega)⟩) .nil))))) .nil (At.keep (ts:=[4,8]) (ids:=[4,8,52]) rfl rfl ?_)
         refine At.zbk (.cons (.refl _) (.cons (.refl _) (.cons (y:=bufL 37 6 zac (((([]:List Look)++(p0.Looks.take (s7.1).toNat))++([p1]:List Look))++(p0.Looks.drop (s7.1).toNat))) (BSim.seg (Seg.push (Seg.push (Seg.push (Seg.lit (f:=zac) (sz:=6) ([]:List Look) rfl rfl (fun _=>rfl)) (Seg.take zac p0.Looks ((s7.1).toNat) (by omega))) (Seg.lit (f:=zac) (sz:=6) ([p1]:List Look) rfl rfl (fun _=>rfl))) (Seg.drop zac p0.Looks ((s7.1).toNat)))) .nil))) ?_
         refine At.zai ?_
         refine W.rg env [4,5] [4,52] ?_
         refine W.ret ?_
         cases H
         exact At.ret env.ty rfl rfl (fun q hq=>by cases hq;exact (by first|rfl|(simp;done)|omega|(simp;omega))) (.refl _) hval
theorem zez (fuel:Nat) (p0:Wear) (p1:Wear) {r:Bool} (H:zbf fuel p0 p1=some r):Ctr Tryz.prog 16 [.agg [roL 3 zad p0.Batches,roL 6 zaa p0.Mantles,roL 7 zaf p0.Burns,roL 6 zac p0.Looks],.agg [roL 3 zad p1.Batches,roL 6 zaa p1.Mantles,roL 7 zaf p1.Burns,roL 6 zac p1.Looks]] (.bool (r)):=by
 unfold zbf at H
 refine Ctr.zap (N:=129) Tryz.func16 (by kernel_rfl) (c:=_) rfl Tryz.ntmps16 rfl (fun w0 h0 hval=>?_)
 refine W.rg env [2,3] [2,3] ?_
 refine W.sr env [] [] [2,3,5] [2,3] rfl rfl rfl (.cons id (.cons id (.cons id (.cons id (.cons id (.cons id (.cons id (.cons id (.cons id (.cons id (.cons id (.cons id (.cons id (.cons id (.cons id (.cons id (.cons id (.cons id (.cons id (.cons id (.cons id .nil))))))))))))))))))))) .nil ?_
 refine W.seq ?_
 refine W.rg env [2,3,5,6] [2,3] ?_
 refine W.block ?_
 refine At.keep (ts:=[2,3,5,6]) (ids:=[2,3]) rfl rfl ?_
 refine W.loopGo H (fun (s1:Bool×Int)=>[(2,.lp 2 0),(3,.lp 3 0),(5,.bool (s1.1)),(6,.int .i64 (s1.2))]) (fun (s1:Bool×Int)=>[(2,.cells [roL 3 zad p0.Batches,roL 6 zaa p0.Mantles,roL 7 zaf p0.Burns,roL 6 zac p0.Looks]),(3,.cells [roL 3 zad p1.Batches,roL 6 zaa p1.Mantles,roL 7 zaf p1.Burns,roL 6 zac p1.Looks])]) (.cons .q (.cons .q (.cons .q (.cons .qi .nil)))) (.cons .q (.cons .q .nil)) (fun k1 s1 H K0 hK1=>?_)
 refine W.seq ?_
 refine W.sr env [] [] [2,3,5,6,51] [2,3] rfl rfl rfl (.cons id .nil) .nil ?_
 refine W.cond rfl (fun hb2=>?_) (fun hb2=>?_)
 · have H:=zam H hb2
   refine W.skip ?_
   refine At.zai ?_
   refine W.seq ?_
   refine W.block ?_
   obtain ⟨hc3,H⟩:=zag H
   obtain ⟨hc4,H⟩:=zag H
   refine W.region env [] [] rfl rfl (by first|rfl|kernel_rfl) (.cons hc3 (.cons hc4 .nil)) .nil (At.keep (ts:=[2,3,5,6]) (ids:=[2,3]) rfl rfl ?_)
   refine At.inb ?_
   refine At.zai ?_
   obtain ⟨hc5,H⟩:=zag H
   refine W.region env [] [] rfl rfl rfl (.cons hc5 .nil) .nil (At.keep (ts:=[2,3,5,6]) (ids:=[2,3]) rfl rfl ?_)
   refine At.zaE (At.keep (ts:=[2,3,5,6]) (ids:=[2,3]) rfl rfl ?_)
   exact At.conv (.cons .q (.cons .q (.cons .q (.cons .qi .nil)))) (.cons .q (.cons .q .nil)) (hK1 (((decide ((p0.Batches.getD (s1.2).toNat default).Id=(p1.Batches.getD (s1.2).toNat default).Id)) && ((decide ((p0.Batches.getD (s1.2).toNat default).Life.Lo=(p1.Batches.getD (s1.2).toNat default).Life.Lo)) && (decide ((p0.Batches.getD (s1.2).toNat default).Life.Hi=(p1.Batches.getD (s1.2).toNat default).Life.Hi)))),(s1.2+1)) H)
 · have H:=zal H hb2
   refine W.exit ?_
   refine At.xthen ?_
   refine At.xthen ?_
   refine At.xhere ?_
   refine At.zai ?_
   refine W.seq ?_
   refine W.rg env [2,3,5,7] [2,3] ?_
   refine W.block ?_
   refine At.keep (ts:=[2,3,5,7]) (ids:=[2,3]) rfl rfl ?_
   refine W.loopGo H (fun (s6:Bool×Int)=>[(2,.lp 2 0),(3,.lp 3 0),(5,.bool (s6.1)),(7,.int .i64 (s6.2))]) (fun (s6:Bool×Int)=>[(2,.cells [roL 3 zad p0.Batches,roL 6 zaa p0.Mantles,roL 7 zaf p0.Burns,roL 6 zac p0.Looks]),(3,.cells [roL 3 zad p1.Batches,roL 6 zaa p1.Mantles,roL 7 zaf p1.Burns,roL 6 zac p1.Looks])]) (.cons .q (.cons .q (.cons .q (.cons .qi .nil)))) (.cons .q (.cons .q .nil)) (fun k6 s6 H K0 hK6=>?_)
   refine W.seq ?_
   refine W.sr env [] [] [2,3,5,7,72] [2,3] rfl rfl rfl (.cons id .nil) .nil ?_
   refine W.cond rfl (fun hb7=>?_) (fun hb7=>?_)
   · have H:=zam H hb7
     refine W.skip ?_
     refine At.zai ?_
     refine W.seq ?_
     refine W.block ?_
     obtain ⟨hc8,H⟩:=zag H
     obtain ⟨hc9,H⟩:=zag H
     refine W.region env [] [] rfl rfl (by first|rfl|kernel_rfl) (.cons hc8 (.cons hc9 .nil)) .nil (At.keep (ts:=[2,3,5,7]) (ids:=[2,3]) rfl rfl ?_)
     refine At.inb ?_
     refine At.zai ?_
     obtain ⟨hc10,H⟩:=zag H
     refine W.region env [] [] rfl rfl rfl (.cons hc10 .nil) .nil (At.keep (ts:=[2,3,5,7]) (ids:=[2,3]) rfl rfl ?_)
     refine At.zaE (At.keep (ts:=[2,3,5,7]) (ids:=[2,3]) rfl rfl ?_)
     exact At.conv (.cons .q (.cons .q (.cons .q (.cons .qi .nil)))) (.cons .q (.cons .q .nil)) (hK6 (((decide ((p0.Mantles.getD (s6.2).toNat default).Source=(p1.Mantles.getD (s6.2).toNat default).Source)) && ((decide ((p0.Mantles.getD (s6.2).toNat default).Lamp=(p1.Mantles.getD (s6.2).toNat default).Lamp)) && ((decide ((p0.Mantles.getD (s6.2).toNat default).Batch=(p1.Mantles.getD (s6.2).toNat default).Batch)) && ((decide ((p0.Mantles.getD (s6.2).toNat default).Night=(p1.Mantles.getD (s6.2).toNat default).Night)) && ((decide ((p0.Mantles.getD (s6.2).toNat default).Known=(p1.Mantles.getD (s6.2).toNat default).Known)) && (decide ((p0.Mantles.getD (s6.2).toNat default).Until=(p1.Mantles.getD (s6.2).toNat default).Until))))))),(s6.2+1)) H)
   · have H:=zal H hb7
     refine W.exit ?_
     refine At.xthen ?_
     refine At.xthen ?_
     refine At.xhere ?_
     refine At.zai ?_
     refine W.seq ?_
     refine W.rg env [2,3,5,8] [2,3] ?_
     refine W.block ?_
     refine At.keep (ts:=[2,3,5,8]) (ids:=[2,3]) rfl rfl ?_
     refine W.loopGo H (fun (s11:Bool×Int)=>[(2,.lp 2 0),(3,.lp 3 0),(5,.bool (s11.1)),(8,.int .i64 (s11.2))]) (fun (s11:Bool×Int)=>[(2,.cells [roL 3 zad p0.Batches,roL 6 zaa p0.Mantles,roL 7 zaf p0.Burns,roL 6 zac p0.Looks]),(3,.cells [roL 3 zad p1.Batches,roL 6 zaa p1.Mantles,roL 7 zaf p1.Burns,roL 6 zac p1.Looks])]) (.cons .q (.cons .q (.cons .q (.cons .qi .nil)))) (.cons .q (.cons .q .nil)) (fun k11 s11 H K0 hK11=>?_)
     refine W.seq ?_
     refine W.sr env [] [] [2,3,5,8,93] [2,3] rfl rfl rfl (.cons id .nil) .nil ?_
     refine W.cond rfl (fun hb12=>?_) (fun hb12=>?_)
     · have H:=zam H hb12
       refine W.skip ?_
       refine At.zai ?_
       refine W.seq ?_
       refine W.block ?_
       obtain ⟨hc13,H⟩:=zag H
       obtain ⟨hc14,H⟩:=zag H
       refine W.region env [] [] rfl rfl (by first|rfl|kernel_rfl) (.cons hc13 (.cons hc14 .nil)) .nil (At.keep (ts:=[2,3,5,8]) (ids:=[2,3]) rfl rfl ?_)
       refine At.inb ?_
       refine At.zai ?_
       obtain ⟨hc15,H⟩:=zag H
       refine W.region env [] [] rfl rfl rfl (.cons hc15 .nil) .nil (At.keep (ts:=[2,3,5,8]) (ids:=[2,3]) rfl rfl ?_)
       refine At.zaE (At.keep (ts:=[2,3,5,8]) (ids:=[2,3]) rfl rfl ?_)
       exact At.conv (.cons .q (.cons .q (.cons .q (.cons .qi .nil)))) (.cons .q (.cons .q .nil)) (hK11 (((decide ((p0.Burns.getD (s11.2).toNat default).Source=(p1.Burns.getD (s11.2).toNat default).Source)) && ((decide ((p0.Burns.getD (s11.2).toNat default).Lamp=(p1.Burns.getD (s11.2).toNat default).Lamp)) && ((decide ((p0.Burns.getD (s11.2).toNat default).Night=(p1.Burns.getD (s11.2).toNat default).Night)) && (((decide ((p0.Burns.getD (s11.2).toNat default).Minutes.Lo=(p1.Burns.getD (s11.2).toNat default).Minutes.Lo)) && (decide ((p0.Burns.getD (s11.2).toNat default).Minutes.Hi=(p1.Burns.getD (s11.2).toNat default).Minutes.Hi))) && ((decide ((p0.Burns.getD (s11.2).toNat default).Known=(p1.Burns.getD (s11.2).toNat default).Known)) && (decide ((p0.Burns.getD (s11.2).toNat default).Until=(p1.Burns.getD (s11.2).toNat default).Until))))))),(s11.2+1)) H)
     · have H:=zal H hb12
       refine W.exit ?_
       refine At.xthen ?_
       refine At.xthen ?_
       refine At.xhere ?_
       refine At.zai ?_
       refine W.seq ?_
       refine W.rg env [2,3,5,9] [2,3] ?_
       refine W.block ?_
       refine At.keep (ts:=[2,3,5,9]) (ids:=[2,3]) rfl rfl ?_
       refine W.loopGo H (fun (s16:Bool×Int)=>[(2,.lp 2 0),(3,.lp 3 0),(5,.bool (s16.1)),(9,.int .i64 (s16.2))]) (fun (s16:Bool×Int)=>[(2,.cells [roL 3 zad p0.Batches,roL 6 zaa p0.Mantles,roL 7 zaf p0.Burns,roL 6 zac p0.Looks]),(3,.cells [roL 3 zad p1.Batches,roL 6 zaa p1.Mantles,roL 7 zaf p1.Burns,roL 6 zac p1.Looks])]) (.cons .q (.cons .q (.cons .q (.cons .qi .nil)))) (.cons .q (.cons .q .nil)) (fun k16 s16 H K0 hK16=>?_)
       refine W.seq ?_
       refine W.sr env [] [] [2,3,5,9,114] [2,3] rfl rfl rfl (.cons id .nil) .nil ?_
       refine W.cond rfl (fun hb17=>?_) (fun hb17=>?_)
       · have H:=zam H hb17
         refine W.skip ?_
         refine At.zai ?_
         refine W.seq ?_
         refine W.block ?_
         obtain ⟨hc18,H⟩:=zag H
         obtain ⟨hc19,H⟩:=zag H
         refine W.region env [] [] rfl rfl (by first|rfl|kernel_rfl) (.cons hc18 (.cons hc19 .nil)) .nil (At.keep (ts:=[2,3,5,9]) (ids:=[2,3]) rfl rfl ?_)
         refine At.inb ?_
         refine At.zai ?_
         obtain ⟨hc20,H⟩:=zag H
         refine W.region env [] [] rfl rfl rfl (.cons hc20 .nil) .nil (At.keep (ts:=[2,3,5,9]) (ids:=[2,3]) rfl rfl ?_)
         refine At.zaE (At.keep (ts:=[2,3,5,9]) (ids:=[2,3]) rfl rfl ?_)
         exact At.conv (.cons .q (.cons .q (.cons .q (.cons .qi .nil)))) (.cons .q (.cons .q .nil)) (hK16 (((decide ((p0.Looks.getD (s16.2).toNat default).Source=(p1.Looks.getD (s16.2).toNat default).Source)) && ((decide ((p0.Looks.getD (s16.2).toNat default).Lamp=(p1.Looks.getD (s16.2).toNat default).Lamp)) && ((decide ((p0.Looks.getD (s16.2).toNat default).Night=(p1.Looks.getD (s16.2).toNat default).Night)) && (((p0.Looks.getD (s16.2).toNat default).Bad == (p1.Looks.getD (s16.2).toNat default).Bad) && ((decide ((p0.Looks.getD (s16.2).toNat default).Known=(p1.Looks.getD (s16.2).toNat default).Known)) && (decide ((p0.Looks.getD (s16.2).toNat default).Until=(p1.Looks.getD (s16.2).toNat default).Until))))))),(s16.2+1)) H)
       · have H:=zal H hb17
         refine W.exit ?_
         refine At.xthen ?_
         refine At.xthen ?_
         refine At.xhere ?_
         refine At.zai ?_
         refine W.rg env [4] [] ?_
         refine W.ret ?_
         cases H
         exact At.ret env.ty rfl rfl nofun (.refl _) hval
theorem zdT (fuel:Nat) (p0:Wear) (p1:gasolierlaw06_One) {r:Bool} (H:zaK fuel p0 p1=some r):Ctr Tryz.prog 3 [.agg [roL 3 zad p0.Batches,roL 6 zaa p0.Mantles,roL 7 zaf p0.Burns,roL 6 zac p0.Looks],.agg [.int .i64 (p1.Batch.Id),.int .i64 (p1.Batch.Life.Lo),.int .i64 (p1.Batch.Life.Hi),.int .i64 (p1.Mantle.Source),.int .i64 (p1.Mantle.Lamp),.int .i64 (p1.Mantle.Batch),.int .i64 (p1.Mantle.Night),.int .i64 (p1.Mantle.Known),.int .i64 (p1.Mantle.Until),.int .i64 (p1.Burn.Source),.int .i64 (p1.Burn.Lamp),.int .i64 (p1.Burn.Night),.int .i64 (p1.Burn.Minutes.Lo),.int .i64 (p1.Burn.Minutes.Hi),.int .i64 (p1.Burn.Known),.int .i64 (p1.Burn.Until),.int .i64 (p1.Look.Source),.int .i64 (p1.Look.Lamp),.int .i64 (p1.Look.Night),.bool (p1.Look.Bad),.int .i64 (p1.Look.Known),.int .i64 (p1.Look.Until)]] (.bool (r)):=by
 unfold zaK at H
 refine Ctr.zap (N:=81) Tryz.func3 (by kernel_rfl) (c:=_) rfl Tryz.ntmps3 rfl (fun w0 h0 hval=>?_)
 refine W.rg env [2,3] [2,3] ?_
 refine W.seq ?_
 obtain ⟨y1,hy2,H⟩:=zah H
 refine W.region env [] [⟨.bool (y1),[],0,[]⟩] rfl rfl rfl .nil (.free (zfS 20000 hy2) .nil) (At.keep (ts:=[2,3,5]) (ids:=[2,3]) rfl rfl ?_)
 refine At.zai ?_
 refine W.seq ?_
 obtain ⟨y3,hy4,H⟩:=zah H
 refine W.region env [] [⟨.tup [.agg [roL 3 zad y3.1.Batches,roL 6 zaa y3.1.Mantles,roL 7 zaf y3.1.Burns,roL 6 zac y3.1.Looks],.int .i64 (y3.2)],[],0,[]⟩] rfl rfl rfl .nil (.free (zfv fuel p0 p1.Look hy4) .nil) (At.keep (ts:=[2,3,5,6,7]) (ids:=[2,3,6]) rfl rfl ?_)
 refine At.zai ?_
 refine W.seq ?_
 obtain ⟨y5,hy6,H⟩:=zah H
 refine W.region env [] [⟨.tup [.agg [roL 3 zad y5.1.Batches,roL 6 zaa y5.1.Mantles,roL 7 zaf y5.1.Burns,roL 6 zac y5.1.Looks],.int .i64 (y5.2)],[],0,[]⟩] rfl rfl rfl .nil (.free (ze0 fuel p0 p1.Look hy6) .nil) (At.keep (ts:=[2,3,5,6,7,8,9]) (ids:=[2,3,6,8]) rfl rfl ?_)
 refine At.zai ?_
 refine W.seq ?_
 obtain ⟨y7,hy8,H⟩:=zah H
 refine W.region env [] [⟨.bool (y7),[],0,[]⟩] rfl rfl rfl .nil (.free (zez fuel y3.1 y5.1 hy8) .nil) (At.keep (ts:=[2,3,5,7,9,10]) (ids:=[2,3]) rfl rfl ?_)
 refine At.zai ?_
 refine W.seq ?_
 obtain ⟨y9,hy10,H⟩:=zah H
 obtain ⟨y11,hy12,H⟩:=zah H
 obtain ⟨y13,hy14,H⟩:=zah H
 obtain ⟨y15,hy16,H⟩:=zah H
 obtain ⟨y17,hy18,H⟩:=zah H
 refine W.region env [] [⟨.int .i64 (y9),[],0,[]⟩,⟨.int .i64 (y11),[],0,[]⟩,⟨.int .i64 ((zaz p1.Batch)),[],0,[]⟩,⟨.int .i64 ((zar p1.Batch)),[],0,[]⟩,⟨.int .i64 ((zax p1.Mantle)),[],0,[]⟩,⟨.int .i64 (y13),[],0,[]⟩,⟨.int .i64 ((zaD p1.Burn)),[],0,[]⟩,⟨.int .i64 (y15),[],0,[]⟩,⟨.int .i64 ((zay p1.Look)),[],0,[]⟩,⟨.int .i64 (y17),[],0,[]⟩] rfl rfl (by kernel_rfl) (.cons id (.cons id (.cons id (.cons id (.cons id (.cons id (.cons id (.cons id (.cons id (.cons id (.cons id (.cons id (.cons id (.cons id (.cons id (.cons id (.cons id (.cons id (.cons id (.cons id (.cons id (.cons id (.cons id (.cons id (.cons id (.cons id (.cons id (.cons id (.cons id (.cons id (.cons id (.cons id (.cons id (.cons id (.cons id (.cons id (.cons id .nil))))))))))))))))))))))))))))))))))))) (.on (fun hW=>zcP p0 (zam hy10 hW)) (.on (fun hW=>zdE fuel p0 (zam hy12 hW)) (.on (fun hW=>zd8 p1.Batch) (.on (fun hW=>zcE p1.Batch) (.on (fun hW=>zdN p1.Mantle) (.on (fun hW=>zcw p1.Mantle (zam hy14 hW)) (.on (fun hW=>zee p1.Burn) (.on (fun hW=>zcQ p1.Burn (zam hy16 hW)) (.on (fun hW=>zdd p1.Look) (.on (fun hW=>zbL p1.Look (zam hy18 hW)) .nil)))))))))) (At.keep (ts:=[4]) (ids:=[]) rfl rfl ?_)
 refine At.zai ?_
 refine W.ret ?_
 cases H
 exact At.ret env.ty rfl rfl nofun (.refl _) hval
end Go.Sp
