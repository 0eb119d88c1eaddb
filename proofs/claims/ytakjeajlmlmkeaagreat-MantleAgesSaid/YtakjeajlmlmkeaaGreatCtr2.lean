/- Printed by gen.py: contracts, part 2. -/
import Derived.Test.YtakjeajlmlmkeaaGreatCtr1
set_option linter.all false
set_option maxRecDepth 100000
set_option maxHeartbeats 1000000
namespace Go.Sp
open Go Go.Av Go.Proofs
theorem ze7 (fuel:Nat) (p0:Wear) (p1:(List Int)) (p2:Int) (p3:Int) (p4:Int) {r:(mantle_lot×Int)} (H:zdB fuel p0 p1 p2 p3 p4=some r):Ctr Tryz.prog 95 [.agg [roL 3 zac p0.Batches,roL 6 zaa p0.Mantles,roL 7 zaf p0.Burns,roL 6 zab p0.Looks],roL 1 zae p1,.int .i64 (p2),.int .i64 (p3),.int .i64 (p4)] (.tup [.agg [roL 3 zac r.1.closet.w.Batches,roL 6 zaa r.1.closet.w.Mantles,roL 7 zaf r.1.closet.w.Burns,roL 6 zab r.1.closet.w.Looks,.int .i64 (r.1.closet.known),romL (.agg #[.slice none 0 0,.slice none 0 0,.slice none 0 0,.slice none 0 0,.slice none 0 0,.slice none 0 0]) (fun (x:mantle_coat)=>.agg [roL 3 zac x.w.Batches,roL 6 zaa x.w.Mantles,roL 7 zaf x.w.Burns,roL 6 zab x.w.Looks,roL 1 zae x.burns,roL 2 zad x.sights]) r.1.closet.coats,roL 2 zaq r.1.closet.lives,roL 1 zae r.1.lamps,roL 1 zae r.1.mantles,.int .i64 (r.1.night)],.int .i64 (r.2)]):=by
 unfold zdB at H
 refine Ctr.zao (N:=34) Tryz.func95 (by kernel_rfl) (c:=_) rfl Tryz.ntmps95 rfl (fun w0 h0 hval=>?_)
 refine W.rg env [1,2,3,4,5,10] [5,10] ?_
 refine W.seq ?_
 obtain ⟨y1,hy2,H⟩:=zah H
 refine W.region env [] [⟨.tup [.agg [roL 3 zac y1.1.closet.w.Batches,roL 6 zaa y1.1.closet.w.Mantles,roL 7 zaf y1.1.closet.w.Burns,roL 6 zab y1.1.closet.w.Looks,.int .i64 (y1.1.closet.known),romL (.agg #[.slice none 0 0,.slice none 0 0,.slice none 0 0,.slice none 0 0,.slice none 0 0,.slice none 0 0]) (fun (x:mantle_coat)=>.agg [roL 3 zac x.w.Batches,roL 6 zaa x.w.Mantles,roL 7 zaf x.w.Burns,roL 6 zab x.w.Looks,roL 1 zae x.burns,roL 2 zad x.sights]) y1.1.closet.coats,roL 2 zaq y1.1.closet.lives,roL 1 zae y1.1.lamps,roL 1 zae y1.1.mantles,.int .i64 (y1.1.night)],.int .i64 (y1.2)],[],0,[]⟩] rfl rfl rfl .nil (.free (zjB fuel p0 p1 p2 p3 p4 hy2) .nil) (At.keep (ts:=[10,12,13]) (ids:=[10,12]) rfl rfl ?_)
 refine At.zai ?_
 refine W.seq ?_
 refine W.seq ?_
 obtain ⟨y3,hy4,H⟩:=zah H
 refine W.region env [] [⟨.bool (y3),[],0,[]⟩] rfl rfl rfl (.cons id (.cons id (.cons id (.cons id .nil)))) (.on (fun hW=>zbf y1.1.closet (zal hy4 hW)) .nil) (At.keep (ts:=[10,12,13,30]) (ids:=[10,12]) rfl rfl ?_)
 refine At.zai ?_
 refine W.cond rfl (fun hb5=>?_) (fun hb5=>?_)
 · have H:=zal H hb5
   refine W.rg env [10,11] [10] ?_
   refine W.ret ?_
   refine At.rthen ?_
   cases H
   exact At.ret env.ty rfl rfl nofun (Sim.tupL (.cons (Sim.aggL (.cons (Sim.nil _ _) (.cons (Sim.nil _ _) (.cons (Sim.nil _ _) (.cons (Sim.nil _ _) (.cons (.refl _) (.cons (Sim.zg0 (zs:=[.slice none 0 0,.slice none 0 0,.slice none 0 0,.slice none 0 0,.slice none 0 0,.slice none 0 0]) rfl (Sim.aggL (.cons (Sim.nil _ _) (.cons (Sim.nil _ _) (.cons (Sim.nil _ _) (.cons (Sim.nil _ _) (.cons (Sim.nil _ _) (.cons (Sim.nil _ _) .nil)))))))) (.cons (Sim.nil _ _) (.cons (Sim.nil _ _) (.cons (Sim.nil _ _) (.cons (.refl _) .nil))))))))))) (.cons (.refl _) .nil))) hval
 · have H:=zaj H hb5
   refine W.skip ?_
   refine At.zai ?_
   refine W.rg env [10,11] [10] ?_
   refine W.ret ?_
   cases H
   exact At.ret env.ty rfl rfl nofun (.refl _) hval
theorem zdb (p0:mantle_lot) {r:Range} (H:zcf p0=some r):Ctr Tryz.prog 96 [.agg [roL 3 zac p0.closet.w.Batches,roL 6 zaa p0.closet.w.Mantles,roL 7 zaf p0.closet.w.Burns,roL 6 zab p0.closet.w.Looks,.int .i64 (p0.closet.known),romL (.agg #[.slice none 0 0,.slice none 0 0,.slice none 0 0,.slice none 0 0,.slice none 0 0,.slice none 0 0]) (fun (x:mantle_coat)=>.agg [roL 3 zac x.w.Batches,roL 6 zaa x.w.Mantles,roL 7 zaf x.w.Burns,roL 6 zab x.w.Looks,roL 1 zae x.burns,roL 2 zad x.sights]) p0.closet.coats,roL 2 zaq p0.closet.lives,roL 1 zae p0.lamps,roL 1 zae p0.mantles,.int .i64 (p0.night)]] (.agg [.int .i64 (r.Lo),.int .i64 (r.Hi)]):=by
 unfold zcf at H
 refine Ctr.zao (N:=37) Tryz.func96 (by kernel_rfl) (c:=_) rfl Tryz.ntmps96 rfl (fun w0 h0 hval=>?_)
 refine W.rg env [1,2] [1,2] ?_
 refine W.rg env [1,2,3] [1,2,3] ?_
 refine W.seq ?_
 refine W.rg env [1,2,3,7,8,9] [1,2,3] ?_
 refine W.block ?_
 refine At.keep (ts:=[1,2,3,7,8,9]) (ids:=[1,2,3]) rfl rfl ?_
 refine W.len (t:=7) rfl (fun (hn1:p0.mantles.length≤maxLen)=>?_)
 refine W.zax H (fun i1 (s1:Range)=>[(1,.lp 1 0),(2,.lp 2 0),(3,.lp 3 0),(7,roL 1 zae p0.mantles),(8,.int .i64 (((p0.mantles.length:Nat):Int))),(9,.int .i64 ((i1:Int)))]) (fun i1 (s1:Range)=>[(1,.cells [roL 3 zac p0.closet.w.Batches,roL 6 zaa p0.closet.w.Mantles,roL 7 zaf p0.closet.w.Burns,roL 6 zab p0.closet.w.Looks,.int .i64 (p0.closet.known),romL (.agg #[.slice none 0 0,.slice none 0 0,.slice none 0 0,.slice none 0 0,.slice none 0 0,.slice none 0 0]) (fun (x:mantle_coat)=>.agg [roL 3 zac x.w.Batches,roL 6 zaa x.w.Mantles,roL 7 zaf x.w.Burns,roL 6 zab x.w.Looks,roL 1 zae x.burns,roL 2 zad x.sights]) p0.closet.coats,roL 2 zaq p0.closet.lives,roL 1 zae p0.lamps,roL 1 zae p0.mantles,.int .i64 (p0.night)]),(2,.cells [.int .i64 (0),.int .i64 (0)]),(3,.cells [.int .i64 (s1.Lo),.int .i64 (s1.Hi)])]) (.cons .q (.cons .q (.cons .q (.cons .q (.cons .qi (.cons .qi .nil)))))) (.cons .q (.cons .q (.cons .q .nil))) (fun k1 i1 s1 hle1 H1 H2 K0 hK1=>?_)
 refine W.rg env [1,2,3,7,8,9,10] [1,2,3] ?_
 refine W.seq ?_
 refine W.cond rfl (fun hb2=>?_) (fun hb2=>?_)
 · have hi1:i1<p0.mantles.length:=by have:=of_decide_eq_true hb2;omega
   have H:=H1 hi1
   refine W.skip ?_
   refine At.zai ?_
   refine W.seq ?_
   refine W.block ?_
   refine W.sr env [] [] [1,2,3,5,7,8,9] [1,2,3] rfl rfl rfl (.cons (⟨by omega,by omega⟩:0≤(i1:Int)∧(i1:Int)<((p0.mantles.length:Nat):Int)) .nil) .nil ?_
   refine W.seq ?_
   obtain ⟨y3,hy4,H⟩:=zah H
   refine W.region env [] [⟨.int .i64 (y3),[],0,[]⟩] rfl rfl rfl .nil (.free (zby p0.closet (p0.mantles.getD i1 default) p0.night hy4) .nil) (At.keep (ts:=[1,2,3,7,8,9,18]) (ids:=[1,2,3]) rfl rfl ?_)
   refine At.zai ?_
   refine W.block ?_
   refine W.rg env [1,2,3,7,8,9,18,19] [1,2,3] ?_
   refine W.cond rfl (fun hb5=>?_) (fun hb5=>?_)
   · have H:=zal H hb5
     obtain ⟨hc6,H⟩:=zag H
     refine W.sr env [] [] [1,2,3,7,8,9] [1,2,3] rfl rfl rfl (.cons hc6 .nil) .nil ?_
     obtain ⟨hc7,H⟩:=zag H
     refine W.region env [] [] rfl rfl rfl (.cons hc7 .nil) .nil (At.keep (ts:=[1,2,3,7,8,9]) (ids:=[1,2,3]) rfl rfl ?_)
     refine At.inb ?_
     refine At.inb ?_
     refine At.zai ?_
     refine W.region env [] [] rfl rfl rfl (.cons (by unfold inI;have:=hn1;(try unfold maxLen at this);omega) .nil) .nil (At.keep (ts:=[1,2,3,7,8,9]) (ids:=[1,2,3]) rfl rfl ?_)
     refine At.zaE (At.keep (ts:=[1,2,3,7,8,9]) (ids:=[1,2,3]) rfl rfl ?_)
     exact At.conv (.cons .q (.cons .q (.cons .q (.cons .q (.cons .qi (.cons .qi .nil)))))) (.cons .q (.cons .q (.cons .q .nil))) (hK1 hi1 (⟨(s1.Lo+1),(s1.Hi+1)⟩:Range) H)
   · have H:=zaj H hb5
     refine W.rg env [1,2,3,7,8,9,29] [1,2,3] ?_
     refine W.cond rfl (fun hb8=>?_) (fun hb8=>?_)
     · have H:=zal H hb8
       obtain ⟨hc9,H⟩:=zag H
       refine W.region env [] [] rfl rfl rfl (.cons hc9 .nil) .nil (At.keep (ts:=[1,2,3,7,8,9]) (ids:=[1,2,3]) rfl rfl ?_)
       refine At.inb ?_
       refine At.inb ?_
       refine At.zai ?_
       refine W.region env [] [] rfl rfl rfl (.cons (by unfold inI;have:=hn1;(try unfold maxLen at this);omega) .nil) .nil (At.keep (ts:=[1,2,3,7,8,9]) (ids:=[1,2,3]) rfl rfl ?_)
       refine At.zaE (At.keep (ts:=[1,2,3,7,8,9]) (ids:=[1,2,3]) rfl rfl ?_)
       exact At.conv (.cons .q (.cons .q (.cons .q (.cons .q (.cons .qi (.cons .qi .nil)))))) (.cons .q (.cons .q (.cons .q .nil))) (hK1 hi1 (⟨s1.Lo,(s1.Hi+1)⟩:Range) H)
     · have H:=zaj H hb8
       refine W.skip ?_
       refine At.inb ?_
       refine At.inb ?_
       refine At.zai ?_
       refine W.region env [] [] rfl rfl rfl (.cons (by unfold inI;have:=hn1;(try unfold maxLen at this);omega) .nil) .nil (At.keep (ts:=[1,2,3,7,8,9]) (ids:=[1,2,3]) rfl rfl ?_)
       refine At.zaE (At.keep (ts:=[1,2,3,7,8,9]) (ids:=[1,2,3]) rfl rfl ?_)
       exact At.conv (.cons .q (.cons .q (.cons .q (.cons .q (.cons .qi (.cons .qi .nil)))))) (.cons .q (.cons .q (.cons .q .nil))) (hK1 hi1 s1 H)
 · have H:=H2 (by have:=of_decide_eq_false hb2;omega)
   refine W.exit ?_
   refine At.xthen ?_
   refine At.xthen ?_
   refine At.xhere ?_
   refine At.zai ?_
   refine W.rg env [2] [2] ?_
   refine W.ret ?_
   cases H
   exact At.ret env.ty rfl rfl nofun (.refl _) hval
theorem zig (fuel:Nat) (p0:Wear) (p1:(List Int)) (p2:Int) (p3:Int) {r:(Range×Int)} (H:zgx fuel p0 p1 p2 p3=some r):Ctr Tryz.prog 33 [.agg [roL 3 zac p0.Batches,roL 6 zaa p0.Mantles,roL 7 zaf p0.Burns,roL 6 zab p0.Looks],roL 1 zae p1,.int .i64 (p2),.int .i64 (p3)] (.tup [.agg [.int .i64 (r.1.Lo),.int .i64 (r.1.Hi)],.int .i64 (r.2)]):=by
 unfold zgx at H
 refine Ctr.zao (N:=26) Tryz.func33 (by kernel_rfl) (c:=_) rfl Tryz.ntmps33 rfl (fun w0 h0 hval=>?_)
 refine W.rg env [1,2,3,4,8] [4,8] ?_
 refine W.seq ?_
 obtain ⟨y1,hy2,H⟩:=zah H
 refine W.region env [] [⟨.tup [.agg [roL 3 zac y1.1.closet.w.Batches,roL 6 zaa y1.1.closet.w.Mantles,roL 7 zaf y1.1.closet.w.Burns,roL 6 zab y1.1.closet.w.Looks,.int .i64 (y1.1.closet.known),romL (.agg #[.slice none 0 0,.slice none 0 0,.slice none 0 0,.slice none 0 0,.slice none 0 0,.slice none 0 0]) (fun (x:mantle_coat)=>.agg [roL 3 zac x.w.Batches,roL 6 zaa x.w.Mantles,roL 7 zaf x.w.Burns,roL 6 zab x.w.Looks,roL 1 zae x.burns,roL 2 zad x.sights]) y1.1.closet.coats,roL 2 zaq y1.1.closet.lives,roL 1 zae y1.1.lamps,roL 1 zae y1.1.mantles,.int .i64 (y1.1.night)],.int .i64 (y1.2)],[],0,[]⟩] rfl rfl rfl .nil (.free (ze7 fuel p0 p1 p2 p3 0 hy2) .nil) (At.keep (ts:=[8,10,11]) (ids:=[8,10]) rfl rfl ?_)
 refine At.zai ?_
 refine W.seq ?_
 refine W.rg env [8,10,11,21] [8,10] ?_
 refine W.cond rfl (fun hb3=>?_) (fun hb3=>?_)
 · have H:=zal H hb3
   refine W.rg env [8,9] [8] ?_
   refine W.ret ?_
   refine At.rthen ?_
   cases H
   exact At.ret env.ty rfl rfl nofun (.refl _) hval
 · have H:=zaj H hb3
   refine W.skip ?_
   refine At.zai ?_
   refine W.seq ?_
   obtain ⟨y4,hy5,H⟩:=zah H
   refine W.region env [] [⟨.agg [.int .i64 (y4.Lo),.int .i64 (y4.Hi)],[],0,[]⟩] rfl rfl rfl .nil (.free (zdb y1.1 hy5) .nil) (At.keep (ts:=[8,9]) (ids:=[8]) rfl rfl ?_)
   refine At.zai ?_
   refine W.ret ?_
   cases H
   exact At.ret env.ty rfl rfl nofun (.refl _) hval
theorem zdH (p0:mantle_lot) {r:(List Int)} (H:zcm p0=some r):Ctr Tryz.prog 124 [.agg [roL 3 zac p0.closet.w.Batches,roL 6 zaa p0.closet.w.Mantles,roL 7 zaf p0.closet.w.Burns,roL 6 zab p0.closet.w.Looks,.int .i64 (p0.closet.known),romL (.agg #[.slice none 0 0,.slice none 0 0,.slice none 0 0,.slice none 0 0,.slice none 0 0,.slice none 0 0]) (fun (x:mantle_coat)=>.agg [roL 3 zac x.w.Batches,roL 6 zaa x.w.Mantles,roL 7 zaf x.w.Burns,roL 6 zab x.w.Looks,roL 1 zae x.burns,roL 2 zad x.sights]) p0.closet.coats,roL 2 zaq p0.closet.lives,roL 1 zae p0.lamps,roL 1 zae p0.mantles,.int .i64 (p0.night)]] (roL 1 zae r):=by
 unfold zcm at H
 refine Ctr.zao (N:=27) Tryz.func124 (by kernel_rfl) (c:=_) rfl Tryz.ntmps124 rfl (fun w0 h0 hval=>?_)
 refine W.rg env [1] [1] ?_
 refine W.rg env [1,3] [1] ?_
 refine W.seq ?_
 refine W.rg env [1,3,7,8,9] [1] ?_
 refine W.block ?_
 refine At.zfR 3 503 3 1 (e:=fun i=>zae (([]:List Int).getD i default)) rfl rfl ?_
 refine At.keep (ts:=[1,3,7,8,9]) (ids:=[1,503]) rfl rfl ?_
 refine W.len (t:=7) rfl (fun (hn1:p0.mantles.length≤maxLen)=>?_)
 refine W.zax H (fun i1 (s1:(List Int))=>[(1,.lp 1 0),(3,.buf 503 (s1).length),(7,roL 1 zae p0.mantles),(8,.int .i64 (((p0.mantles.length:Nat):Int))),(9,.int .i64 ((i1:Int)))]) (fun i1 (s1:(List Int))=>[(1,.cells [roL 3 zac p0.closet.w.Batches,roL 6 zaa p0.closet.w.Mantles,roL 7 zaf p0.closet.w.Burns,roL 6 zab p0.closet.w.Looks,.int .i64 (p0.closet.known),romL (.agg #[.slice none 0 0,.slice none 0 0,.slice none 0 0,.slice none 0 0,.slice none 0 0,.slice none 0 0]) (fun (x:mantle_coat)=>.agg [roL 3 zac x.w.Batches,roL 6 zaa x.w.Mantles,roL 7 zaf x.w.Burns,roL 6 zab x.w.Looks,roL 1 zae x.burns,roL 2 zad x.sights]) p0.closet.coats,roL 2 zaq p0.closet.lives,roL 1 zae p0.lamps,roL 1 zae p0.mantles,.int .i64 (p0.night)]),(503,bufL 3 1 zae s1)]) (.cons .q (.cons .qb (.cons .q (.cons .qi (.cons .qi .nil))))) (.cons .q (.cons .q .nil)) (fun k1 i1 s1 hle1 H1 H2 K0 hK1=>?_)
 refine W.rg env [1,3,7,8,9,10] [1,503] ?_
 refine W.seq ?_
 refine W.cond rfl (fun hb2=>?_) (fun hb2=>?_)
 · have hi1:i1<p0.mantles.length:=by have:=of_decide_eq_true hb2;omega
   have H:=H1 hi1
   refine W.skip ?_
   refine At.zai ?_
   refine W.seq ?_
   refine W.block ?_
   refine W.sr env [] [] [1,3,4,5,7,8,9] [1,503] rfl rfl rfl (.cons (⟨by omega,by omega⟩:0≤(i1:Int)∧(i1:Int)<((p0.mantles.length:Nat):Int)) .nil) .nil ?_
   refine W.seq ?_
   obtain ⟨y3,hy4,H⟩:=zah H
   refine W.region env [] [⟨.int .i64 (y3),[],0,[]⟩] rfl rfl rfl .nil (.free (zby p0.closet (p0.mantles.getD i1 default) p0.night hy4) .nil) (At.keep (ts:=[1,3,4,7,8,9,20]) (ids:=[1,503]) rfl rfl ?_)
   refine At.zai ?_
   refine W.cond rfl (fun hb5=>?_) (fun hb5=>?_)
   · have H:=zal H hb5
     obtain ⟨hc6,H⟩:=zag H
     refine W.region env [] [] rfl rfl rfl (.cons (⟨by first|rfl|(simp;done)|omega|(simp;omega),by have:=hc6;first|simpa using this|(unfold room at this ⊢;simp at this ⊢;omega)⟩) .nil) .nil (At.keep (ts:=[1,3,7,8,9]) (ids:=[1,503]) rfl rfl ?_)
     refine At.zbJ (.cons (.refl _) (.cons (y:=bufL 3 1 zae (s1++([(i1:Int)]:List Int))) (BSim.seg (Seg.push (Seg.refl zae _) (Seg.lit (f:=zae) (sz:=1) ([(i1:Int)]:List Int) rfl rfl (fun _=>rfl)))) .nil)) ?_
     refine At.inb ?_
     refine At.zai ?_
     refine W.region env [] [] rfl rfl rfl (.cons (by unfold inI;have:=hn1;(try unfold maxLen at this);omega) .nil) .nil (At.keep (ts:=[1,3,7,8,9]) (ids:=[1,503]) rfl rfl ?_)
     refine At.zaE (At.keep (ts:=[1,3,7,8,9]) (ids:=[1,503]) rfl rfl ?_)
     exact At.conv (.cons .q (.cons .qb (.cons .q (.cons .qi (.cons .qi .nil))))) (.cons .q (.cons .q .nil)) (hK1 hi1 (s1++([(i1:Int)]:List Int)) H)
   · have H:=zaj H hb5
     refine W.skip ?_
     refine At.inb ?_
     refine At.zai ?_
     refine W.region env [] [] rfl rfl rfl (.cons (by unfold inI;have:=hn1;(try unfold maxLen at this);omega) .nil) .nil (At.keep (ts:=[1,3,7,8,9]) (ids:=[1,503]) rfl rfl ?_)
     refine At.zaE (At.keep (ts:=[1,3,7,8,9]) (ids:=[1,503]) rfl rfl ?_)
     exact At.conv (.cons .q (.cons .qb (.cons .q (.cons .qi (.cons .qi .nil))))) (.cons .q (.cons .q .nil)) (hK1 hi1 s1 H)
 · have H:=H2 (by have:=of_decide_eq_false hb2;omega)
   refine W.exit ?_
   refine At.xthen ?_
   refine At.xthen ?_
   refine At.xhere ?_
   refine At.zai ?_
   refine W.rg env [2] [503] ?_
   refine W.ret ?_
   cases H
   exact At.ret env.ty rfl rfl (fun q hq=>by cases hq;exact (by first|rfl|(simp;done)|omega|(simp;omega))) (.refl _) hval
theorem zlK (p0:(List Range)) {r:(List Range)} (H:zcd p0=some r):Ctr Tryz.prog 196 [roL 2 zaq p0] (roL 2 zaq r):=by
 unfold zcd at H
 refine Ctr.zao (N:=8) Tryz.func196 (by kernel_rfl) (c:=_) rfl Tryz.ntmps196 rfl (fun w0 h0 hval=>?_)
 refine W.rg env [0] [] ?_
 refine W.seq ?_
 refine W.rg env [0,4] [] ?_
 refine W.zhr rfl (fun hz=>?_) ?_
 · obtain rfl:p0=[]:=List.length_eq_zero_iff.1 hz
   obtain ⟨hc1,H⟩:=zag H
   refine W.rg env [2] [] ?_
   refine W.ret ?_
   refine At.rthen ?_
   cases H
   exact At.ret env.ty rfl rfl nofun (Sim.nil _ _) hval
 · refine W.skip ?_
   refine At.zai ?_
   refine W.seq ?_
   obtain ⟨hc1,H⟩:=zag H
   refine W.region env [5] [] rfl rfl rfl (.cons (⟨by first|rfl|(simp;done)|omega|(simp;omega),by have:=hc1;first|simpa using this|(unfold room at this ⊢;simp at this ⊢;omega)⟩) .nil) .nil (At.keep (ts:=[2]) (ids:=[5]) rfl rfl ?_)
   refine At.zbJ (.cons (y:=bufL 29 2 zaq (([]:List Range)++p0)) (BSim.seg (Seg.push (Seg.lit (f:=zaq) (sz:=2) ([]:List Range) rfl rfl (fun _=>rfl)) (Seg.refl zaq p0))) .nil) ?_
   refine At.zai ?_
   refine W.ret ?_
   cases H
   exact At.ret env.ty rfl rfl (fun q hq=>by cases hq;exact (by first|rfl|(simp;done)|omega|(simp;omega))) (.refl _) hval
theorem zf8 (p0:(List Range)) {r:(List Range)} (H:zcd p0=some r):CtrO Tryz.prog 196 [roL 2 zaq p0] [] (.buf 900 r.length) [(900,bufL 29 2 zaq r)]:=by
 unfold zcd at H
 refine CtrO.zao (N:=8) Tryz.func196 (by kernel_rfl) (c:=_) rfl Tryz.ntmps196 rfl (fun w0 h0 ρb hval hdom=>?_)
 refine W.rg env [0] [] ?_
 refine W.seq ?_
 refine W.rg env [0,4] [] ?_
 refine W.zhr rfl (fun hz=>?_) ?_
 · obtain rfl:p0=[]:=List.length_eq_zero_iff.1 hz
   obtain ⟨hc1,H⟩:=zag H
   refine W.rg env [2] [] ?_
   refine W.ret ?_
   refine At.rthen ?_
   cases H
   refine At.zfR 2 800 29 2 (e:=fun i=>zaq (([]:List Range).getD i default)) rfl rfl ?_
   exact At.retK env.ty [800] 100 rfl rfl rfl rfl (.cons (.refl _) .nil) (.of_eq (by refine zhx ?_;first|(simp [zbx];done)|omega|(simp [zbx];omega)|rfl)) hval hdom rfl
 · refine W.skip ?_
   refine At.zai ?_
   refine W.seq ?_
   obtain ⟨hc1,H⟩:=zag H
   refine W.region env [5] [] rfl rfl rfl (.cons (⟨by first|rfl|(simp;done)|omega|(simp;omega),by have:=hc1;first|simpa using this|(unfold room at this ⊢;simp at this ⊢;omega)⟩) .nil) .nil (At.keep (ts:=[2]) (ids:=[5]) rfl rfl ?_)
   refine At.zbJ (.cons (y:=bufL 29 2 zaq (([]:List Range)++p0)) (BSim.seg (Seg.push (Seg.lit (f:=zaq) (sz:=2) ([]:List Range) rfl rfl (fun _=>rfl)) (Seg.refl zaq p0))) .nil) ?_
   refine At.zai ?_
   refine W.ret ?_
   cases H
   exact At.retK env.ty [5] 895 rfl rfl rfl rfl (.cons (.refl _) .nil) (.of_eq (by refine zhx ?_;first|(simp [zbx];done)|omega|(simp [zbx];omega)|rfl)) hval hdom rfl
theorem zeu (p0:mantle_closet) (p1:Int) (p2:Range) {r:mantle_closet} (H:zcr p0 p1 p2=some r):CtrO Tryz.prog 150 [.agg [roL 3 zac p0.w.Batches,roL 6 zaa p0.w.Mantles,roL 7 zaf p0.w.Burns,roL 6 zab p0.w.Looks,.int .i64 (p0.known),.mp 90000,.buf 90001 (p0.lives).length],.int .i64 (p1),.agg [.int .i64 (p2.Lo),.int .i64 (p2.Hi)]] [(90000,mapL (.agg #[.slice none 0 0,.slice none 0 0,.slice none 0 0,.slice none 0 0,.slice none 0 0,.slice none 0 0]) (fun (x:mantle_coat)=>.agg [roL 3 zac x.w.Batches,roL 6 zaa x.w.Mantles,roL 7 zaf x.w.Burns,roL 6 zab x.w.Looks,roL 1 zae x.burns,roL 2 zad x.sights]) p0.coats),(90001,bufL 29 2 zaq p0.lives)] (.tup []) [(90000,mapL (.agg #[.slice none 0 0,.slice none 0 0,.slice none 0 0,.slice none 0 0,.slice none 0 0,.slice none 0 0]) (fun (x:mantle_coat)=>.agg [roL 3 zac x.w.Batches,roL 6 zaa x.w.Mantles,roL 7 zaf x.w.Burns,roL 6 zab x.w.Looks,roL 1 zae x.burns,roL 2 zad x.sights]) r.coats),(90001,bufL 29 2 zaq r.lives)]:=by
 unfold zcr at H
 refine CtrL.zao (N:=17) Tryz.func150 (by kernel_rfl) (c:=_) rfl Tryz.ntmps150 rfl rfl (fun w0 h0 ρb hval hdom hent=>?_)
 refine W.rg env [1,3,5] [3,5,90000,90001] ?_
 obtain ⟨hc1,H⟩:=zag H
 obtain ⟨hc2,H⟩:=zag H
 refine W.region env [] [⟨.agg [.int .i64 ((zaW (p0.lives.getD (p1).toNat default) p2).Lo),.int .i64 ((zaW (p0.lives.getD (p1).toNat default) p2).Hi)],[],0,[]⟩] rfl rfl (by kernel_rfl) (.cons (⟨by first|rfl|(simp;done)|omega|(simp;omega),hc1⟩) (.cons (⟨by first|rfl|(simp;done)|omega|(simp;omega),(by have:=hc1;first|omega|(simp only [List.length_set];omega)|(simp only [Int.toNat_natCast] at *;omega)|(simp at this ⊢;omega))⟩) (.cons (⟨by first|rfl|(simp;done)|omega|(simp;omega),hc2⟩) (.cons (⟨by first|rfl|(simp;done)|omega|(simp;omega),(by have:=hc2;first|omega|(simp only [List.length_set];omega)|(simp only [Int.toNat_natCast] at *;omega)|(simp at this ⊢;omega))⟩) .nil)))) (.free (zfu (p0.lives.getD (p1).toNat default) p2) .nil) (At.keep (ts:=[]) (ids:=[90000,90001]) rfl rfl ?_)
 refine At.zbJ (.cons (.refl _) (.cons (y:=bufL 29 2 zaq (p0.lives.set (p1).toNat (zaW (p0.lives.getD (p1).toNat default) p2))) (BSim.seg (Seg.set (Seg.refl zaq _) (zaW (p0.lives.getD (p1).toNat default) p2) rfl)) .nil)) ?_
 refine At.zdA ?_
 cases H
 exact At.retL env.ty [90000,90001] rfl rfl rfl rfl (.cons (.refl _) (.cons (.refl _) .nil)) (.refl _) hval hdom hent rfl rfl
theorem zdc (p0:mantle_lot) (p1:(List Int)) (p2:Bool) {r:mantle_lot} (H:zcg p0 p1 p2=some r):Ctr Tryz.prog 169 [.agg [roL 3 zac p0.closet.w.Batches,roL 6 zaa p0.closet.w.Mantles,roL 7 zaf p0.closet.w.Burns,roL 6 zab p0.closet.w.Looks,.int .i64 (p0.closet.known),romL (.agg #[.slice none 0 0,.slice none 0 0,.slice none 0 0,.slice none 0 0,.slice none 0 0,.slice none 0 0]) (fun (x:mantle_coat)=>.agg [roL 3 zac x.w.Batches,roL 6 zaa x.w.Mantles,roL 7 zaf x.w.Burns,roL 6 zab x.w.Looks,roL 1 zae x.burns,roL 2 zad x.sights]) p0.closet.coats,roL 2 zaq p0.closet.lives,roL 1 zae p0.lamps,roL 1 zae p0.mantles,.int .i64 (p0.night)],roL 1 zae p1,.bool (p2)] (.agg [roL 3 zac r.closet.w.Batches,roL 6 zaa r.closet.w.Mantles,roL 7 zaf r.closet.w.Burns,roL 6 zab r.closet.w.Looks,.int .i64 (r.closet.known),romL (.agg #[.slice none 0 0,.slice none 0 0,.slice none 0 0,.slice none 0 0,.slice none 0 0,.slice none 0 0]) (fun (x:mantle_coat)=>.agg [roL 3 zac x.w.Batches,roL 6 zaa x.w.Mantles,roL 7 zaf x.w.Burns,roL 6 zab x.w.Looks,roL 1 zae x.burns,roL 2 zad x.sights]) r.closet.coats,roL 2 zaq r.closet.lives,roL 1 zae r.lamps,roL 1 zae r.mantles,.int .i64 (r.night)]):=by
 unfold zcg at H
 refine Ctr.zao (N:=77) Tryz.func169 (by kernel_rfl) (c:=_) rfl Tryz.ntmps169 rfl (fun w0 h0 hval=>?_)
 refine W.rg env [1,2,3,6] [3,6] ?_
 refine W.rg env [1,2,3,6,7] [3,6,7] ?_
 refine W.seq ?_
 refine W.region env [] [] rfl rfl rfl .nil .nil (At.keep (ts:=[1,2,3,6,7]) (ids:=[3,6,7,14]) rfl rfl ?_)
 refine At.zbJ (.cons (.refl _) (.cons (.refl _) (.cons (.refl _) (.cons (y:=mapL (.agg #[.slice none 0 0,.slice none 0 0,.slice none 0 0,.slice none 0 0,.slice none 0 0,.slice none 0 0]) (fun (x:mantle_coat)=>.agg [roL 3 zac x.w.Batches,roL 6 zaa x.w.Mantles,roL 7 zaf x.w.Burns,roL 6 zab x.w.Looks,roL 1 zae x.burns,roL 2 zad x.sights]) (Mp.empty:Mp mantle_coat)) (BSim.zob (f:=(fun (x:mantle_coat)=>.agg [roL 3 zac x.w.Batches,roL 6 zaa x.w.Mantles,roL 7 zaf x.w.Burns,roL 6 zab x.w.Looks,roL 1 zae x.burns,roL 2 zad x.sights])) (zhc.empty (f:=(fun (x:mantle_coat)=>.agg [roL 3 zac x.w.Batches,roL 6 zaa x.w.Mantles,roL 7 zaf x.w.Burns,roL 6 zab x.w.Looks,roL 1 zae x.burns,roL 2 zad x.sights])) (Sim.aggL (.cons (Sim.nil _ _) (.cons (Sim.nil _ _) (.cons (Sim.nil _ _) (.cons (Sim.nil _ _) (.cons (Sim.nil _ _) (.cons (Sim.nil _ _) .nil))))))))) .nil)))) ?_
 refine At.zai ?_
 refine W.seq ?_
 refine W.rg env [1,2,3,6,7,20] [3,6,7,14,20] ?_
 refine W.block ?_
 refine At.keep (ts:=[1,2,3,6,7,20]) (ids:=[20,3,6,7,14]) rfl rfl ?_
 refine At.zkn 20 rfl (fun left hleft=>?_)
 refine At.keep (ts:=[1,2,3,6,7,20]) (ids:=[20,3,6,7,14]) rfl rfl ?_
 refine W.zko (S:=List Int) 20 (fun k=>(fun (x:mantle_coat)=>.agg [roL 3 zac x.w.Batches,roL 6 zaa x.w.Mantles,roL 7 zaf x.w.Burns,roL 6 zab x.w.Looks,roL 1 zae x.burns,roL 2 zad x.sights]) ((p0.closet.coats.get k).getD default)) (fun left (s1:List Int)=>left=s1∧left.Nodup∧(∀ k,k∈left→(p0.closet.coats.get k).isSome=true)∧left.length≤p0.closet.coats.card) (fun _=>[(1,roL 1 zae p1),(2,.bool (p2)),(3,.lp 3 0),(6,.lp 6 0),(7,.lp 7 0),(20,.lp 20 0)]) (fun s1=>[(3,.cells [roL 3 zac p0.closet.w.Batches,roL 6 zaa p0.closet.w.Mantles,roL 7 zaf p0.closet.w.Burns,roL 6 zab p0.closet.w.Looks,.int .i64 (p0.closet.known),romL (.agg #[.slice none 0 0,.slice none 0 0,.slice none 0 0,.slice none 0 0,.slice none 0 0,.slice none 0 0]) (fun (x:mantle_coat)=>.agg [roL 3 zac x.w.Batches,roL 6 zaa x.w.Mantles,roL 7 zaf x.w.Burns,roL 6 zab x.w.Looks,roL 1 zae x.burns,roL 2 zad x.sights]) p0.closet.coats,roL 2 zaq p0.closet.lives,roL 1 zae p0.lamps,roL 1 zae p0.mantles,.int .i64 (p0.night)]),(6,.cells [.nilS,.nilS,.nilS,.nilS,.int .i64 (0),.nilMap,.nilS,.nilS,.nilS,.int .i64 (0)]),(7,.cells [roL 3 zac p0.closet.w.Batches,roL 6 zaa p0.closet.w.Mantles,roL 7 zaf p0.closet.w.Burns,roL 6 zab p0.closet.w.Looks,.int .i64 (p0.closet.known),.mp 14,roL 2 zaq p0.closet.lives,roL 1 zae p0.lamps,roL 1 zae p0.mantles,.int .i64 (p0.night)]),(14,ziy (.agg #[.slice none 0 0,.slice none 0 0,.slice none 0 0,.slice none 0 0,.slice none 0 0,.slice none 0 0]) (fun (x:mantle_coat)=>.agg [roL 3 zac x.w.Batches,roL 6 zaa x.w.Mantles,roL 7 zaf x.w.Burns,roL 6 zab x.w.Looks,roL 1 zae x.burns,roL 2 zad x.sights]) p0.closet.coats s1)]) (s0:=left) ⟨rfl,hleft.1,fun k hk=>(hleft.2.2 k).2 hk,Nat.le_of_eq hleft.2.1⟩ (.cons (.refl _) (.cons (.refl _) (.cons (.refl _) (.cons (.refl _) (.cons (.refl _) (.cons (.refl _) .nil)))))) (.cons (.refl _) (.cons (.refl _) (.cons (.refl _) (.cons (.refl _) (.cons (BSim.zoU hleft) .nil))))) (fun left1 s1 HJ1 K hK1=>?_)
 obtain ⟨hs1,hnd1,hkd1,hlen1⟩:=HJ1
 subst hs1
 refine W.seq ?_
 refine W.next rfl rfl rfl rfl rfl rfl rfl rfl rfl rfl rfl (fun hz=>?_) (fun q1 left2 hp1=>?_)
 · subst hz
   refine At.keep (ts:=[1,2,3,6,7,20,22]) (ids:=[20,3,6,7,14]) rfl rfl ?_
   refine At.zbJ (.cons (.refl _) (.cons (.refl _) (.cons (.refl _) (.cons (.refl _) (.cons BSim.zqt .nil))))) ?_
   refine At.zai ?_
   refine W.seq ?_
   refine W.cond rfl (fun hb3=>by cases hb3) (fun hb3=>?_)
   refine W.exit ?_
   refine At.xthen ?_
   refine At.xthen ?_
   refine At.xhere ?_
   refine At.zai ?_
   refine W.seq ?_
   obtain ⟨y4,hy5,H⟩:=zah H
   refine W.region env [] [⟨.buf 900 y4.length,[(900,bufL 29 2 zaq y4)],35000,[]⟩] rfl rfl (by kernel_rfl) .nil (.free ((Ctr.ofO (zf8 p0.closet.lives hy5))) .nil) (At.keep (ts:=[1,2,3,6,7]) (ids:=[3,6,7,14,35900]) rfl rfl ?_)
   refine At.zai ?_
   refine W.seq ?_
   refine W.rg env [2,3,6,7,37,38,39] [3,6,7,14,35900] ?_
   refine W.block ?_
   refine At.keep (ts:=[2,3,6,7,37,38,39]) (ids:=[3,6,7,14,35900]) rfl rfl ?_
   refine W.len (t:=37) rfl (fun (hn6:p1.length≤maxLen)=>?_)
   refine W.zax H (fun i6 (s6:(List Range)×(Mp mantle_coat))=>[(2,.bool (p2)),(3,.lp 3 0),(6,.lp 6 0),(7,.lp 7 0),(37,roL 1 zae p1),(38,.int .i64 (((p1.length:Nat):Int))),(39,.int .i64 ((i6:Int)))]) (fun i6 (s6:(List Range)×(Mp mantle_coat))=>[(3,.cells [roL 3 zac p0.closet.w.Batches,roL 6 zaa p0.closet.w.Mantles,roL 7 zaf p0.closet.w.Burns,roL 6 zab p0.closet.w.Looks,.int .i64 (p0.closet.known),romL (.agg #[.slice none 0 0,.slice none 0 0,.slice none 0 0,.slice none 0 0,.slice none 0 0,.slice none 0 0]) (fun (x:mantle_coat)=>.agg [roL 3 zac x.w.Batches,roL 6 zaa x.w.Mantles,roL 7 zaf x.w.Burns,roL 6 zab x.w.Looks,roL 1 zae x.burns,roL 2 zad x.sights]) p0.closet.coats,roL 2 zaq p0.closet.lives,roL 1 zae p0.lamps,roL 1 zae p0.mantles,.int .i64 (p0.night)]),(6,.cells [.nilS,.nilS,.nilS,.nilS,.int .i64 (0),.nilMap,.nilS,.nilS,.nilS,.int .i64 (0)]),(7,.cells [roL 3 zac p0.closet.w.Batches,roL 6 zaa p0.closet.w.Mantles,roL 7 zaf p0.closet.w.Burns,roL 6 zab p0.closet.w.Looks,.int .i64 (p0.closet.known),.mp 14,.buf 35900 (s6.1).length,roL 1 zae p0.lamps,roL 1 zae p0.mantles,.int .i64 (p0.night)]),(14,mapL (.agg #[.slice none 0 0,.slice none 0 0,.slice none 0 0,.slice none 0 0,.slice none 0 0,.slice none 0 0]) (fun (x:mantle_coat)=>.agg [roL 3 zac x.w.Batches,roL 6 zaa x.w.Mantles,roL 7 zaf x.w.Burns,roL 6 zab x.w.Looks,roL 1 zae x.burns,roL 2 zad x.sights]) s6.2),(35900,bufL 29 2 zaq s6.1)]) (.cons .q (.cons .q (.cons .q (.cons .q (.cons .q (.cons .qi (.cons .qi .nil))))))) (.cons .q (.cons (BSim.cells (.cons (by first|exact Sim.refl _|exact Sim.nil _ _) (.cons (by first|exact Sim.refl _|exact Sim.nil _ _) (.cons (by first|exact Sim.refl _|exact Sim.nil _ _) (.cons (by first|exact Sim.refl _|exact Sim.nil _ _) (.cons .q (.cons .q (.cons (by first|exact Sim.refl _|exact Sim.nil _ _) (.cons (by first|exact Sim.refl _|exact Sim.nil _ _) (.cons (by first|exact Sim.refl _|exact Sim.nil _ _) (.cons .q .nil))))))))))) (.cons (BSim.cells (.cons .q (.cons .q (.cons .q (.cons .q (.cons .q (.cons .q (.cons .qc (.cons .q (.cons .q (.cons .q .nil))))))))))) (.cons .q (.cons .q .nil))))) (fun k6 i6 s6 hle6 H1 H2 K0 hK6=>?_)
   refine W.rg env [2,3,6,7,37,38,39,40] [3,6,7,14,35900] ?_
   refine W.seq ?_
   refine W.cond rfl (fun hb7=>?_) (fun hb7=>?_)
   · have hi6:i6<p1.length:=by have:=of_decide_eq_true hb7;omega
     have H:=H1 hi6
     refine W.skip ?_
     refine At.zai ?_
     refine W.seq ?_
     refine W.block ?_
     refine W.sr env [] [] [2,3,6,7,11,37,38,39] [3,6,7,14,35900] rfl rfl rfl (.cons (⟨by omega,by omega⟩:0≤(i6:Int)∧(i6:Int)<((p1.length:Nat):Int)) .nil) .nil ?_
     obtain ⟨hc8,H⟩:=zag H
     refine W.sr env [] [] [2,3,6,7,12,37,38,39] [3,6,7,14,35900] rfl rfl rfl (.cons hc8 .nil) .nil ?_
     refine W.seq ?_
     obtain ⟨y9,hy10,H⟩:=zah H
     refine W.region env [] [⟨.agg [roL 3 zac y9.w.Batches,roL 6 zaa y9.w.Mantles,roL 7 zaf y9.w.Burns,roL 6 zab y9.w.Looks,roL 1 zae y9.burns,roL 2 zad y9.sights],[],0,[]⟩] rfl rfl (by kernel_rfl) (.cons rfl .nil) (.free (zdp ((s6.2.get (p0.mantles.getD ((p1.getD i6 default)).toNat default)).getD default) (⟨p0.night,p2⟩:mantle_sight) hy10) .nil) (At.keep (ts:=[2,3,6,7,12,37,38,39]) (ids:=[3,6,7,14,35900]) rfl rfl ?_)
     refine At.zbJ (.cons (.refl _) (.cons (.refl _) (.cons (.refl _) (.cons (y:=mapL (.agg #[.slice none 0 0,.slice none 0 0,.slice none 0 0,.slice none 0 0,.slice none 0 0,.slice none 0 0]) (fun (x:mantle_coat)=>.agg [roL 3 zac x.w.Batches,roL 6 zaa x.w.Mantles,roL 7 zaf x.w.Burns,roL 6 zab x.w.Looks,roL 1 zae x.burns,roL 2 zad x.sights]) (s6.2.set (p0.mantles.getD ((p1.getD i6 default)).toNat default) y9)) (BSim.mseg (f:=(fun (x:mantle_coat)=>.agg [roL 3 zac x.w.Batches,roL 6 zaa x.w.Mantles,roL 7 zaf x.w.Burns,roL 6 zab x.w.Looks,roL 1 zae x.burns,roL 2 zad x.sights])) (MSeg.set (MSeg.refl (fun (x:mantle_coat)=>.agg [roL 3 zac x.w.Batches,roL 6 zaa x.w.Mantles,roL 7 zaf x.w.Burns,roL 6 zab x.w.Looks,roL 1 zae x.burns,roL 2 zad x.sights]) _) y9 rfl)) (.cons (.refl _) .nil))))) ?_
     refine At.zai ?_
     obtain ⟨y11,hy12,H⟩:=zah H
     obtain ⟨y13,hy14,H⟩:=zah H
     obtain ⟨y15,hy16,H⟩:=zah H
     obtain ⟨hc17,H⟩:=zag H
     refine W.region env [] [⟨.int .i64 (y11),[],0,[]⟩,⟨.agg [.int .i64 (y13.Lo),.int .i64 (y13.Hi)],[],0,[]⟩,⟨.tup [],[(14,mapL (.agg #[.slice none 0 0,.slice none 0 0,.slice none 0 0,.slice none 0 0,.slice none 0 0,.slice none 0 0]) (fun (x:mantle_coat)=>.agg [roL 3 zac x.w.Batches,roL 6 zaa x.w.Mantles,roL 7 zaf x.w.Burns,roL 6 zab x.w.Looks,roL 1 zae x.burns,roL 2 zad x.sights]) y15.coats),(35900,bufL 29 2 zaq y15.lives)],0,[14,35900]⟩] rfl rfl (by kernel_rfl) (.cons (by first|rfl|(simp;done)|omega|(simp;omega)) (.cons rfl .nil)) (.free (zcJ (⟨p0.closet.w,p0.closet.known,(s6.2.set (p0.mantles.getD ((p1.getD i6 default)).toNat default) y9),s6.1⟩:mantle_closet) (p0.mantles.getD ((p1.getD i6 default)).toNat default) hy12) (.free (zdd (((s6.2.set (p0.mantles.getD ((p1.getD i6 default)).toNat default) y9).get (p0.mantles.getD ((p1.getD i6 default)).toNat default)).getD default) hy14) (.free (CtrO.sim (CtrO.ren (zeu (⟨p0.closet.w,p0.closet.known,(s6.2.set (p0.mantles.getD ((p1.getD i6 default)).toNat default) y9),s6.1⟩:mantle_closet) y11 y13 hy16) [(90000,14),(90001,35900)]) (.cons (Sim.aggL (.cons (.refl _) (.cons (.refl _) (.cons (.refl _) (.cons (.refl _) (.cons (.refl _) (.cons (.refl _) (.cons .qc .nil)))))))) (.cons (.refl _) (.cons (.refl _) .nil))) (.cons (.refl _) (.cons (.refl _) .nil))) .nil))) (At.keep (ts:=[2,3,6,7,37,38,39]) (ids:=[3,6,7,14,35900]) rfl rfl ?_)
     refine At.inb ?_
     refine At.zai ?_
     refine W.region env [] [] rfl rfl rfl (.cons (by unfold inI;have:=hn6;(try unfold maxLen at this);omega) .nil) .nil (At.keep (ts:=[2,3,6,7,37,38,39]) (ids:=[3,6,7,14,35900]) rfl rfl ?_)
     refine At.zaE (At.keep (ts:=[2,3,6,7,37,38,39]) (ids:=[3,6,7,14,35900]) rfl rfl ?_)
     exact At.conv (.cons .q (.cons .q (.cons .q (.cons .q (.cons .q (.cons .qi (.cons .qi .nil))))))) (.cons .q (.cons (BSim.cells (.cons (by first|exact Sim.refl _|exact Sim.nil _ _) (.cons (by first|exact Sim.refl _|exact Sim.nil _ _) (.cons (by first|exact Sim.refl _|exact Sim.nil _ _) (.cons (by first|exact Sim.refl _|exact Sim.nil _ _) (.cons .q (.cons .q (.cons (by first|exact Sim.refl _|exact Sim.nil _ _) (.cons (by first|exact Sim.refl _|exact Sim.nil _ _) (.cons (by first|exact Sim.refl _|exact Sim.nil _ _) (.cons .q .nil))))))))))) (.cons (BSim.cells (.cons .q (.cons .q (.cons .q (.cons .q (.cons .q (.cons .q (.cons .qc (.cons .q (.cons .q (.cons .q .nil))))))))))) (.cons .q (.cons .q .nil))))) (hK6 hi6 (y15.lives,y15.coats) H)
   · have H:=H2 (by have:=of_decide_eq_false hb7;omega)
     refine W.exit ?_
     refine At.xthen ?_
     refine At.xthen ?_
     refine At.xhere ?_
     refine At.zai ?_
     refine W.rg env [6] [6,14,35900] ?_
     refine W.ret ?_
     cases H
     exact At.ret env.ty rfl rfl (fun q hq=>by cases hq;exact (by first|rfl|(simp;done)|omega|(simp;omega))) (.refl _) hval
 · refine At.zai ?_
   refine W.seq ?_
   refine W.cond rfl (fun hb2=>?_) (fun hb2=>by cases hb2)
   refine W.skip ?_
   refine At.zai ?_
   refine W.block ?_
   refine W.rg env [1,2,3,6,7,8,9,20] [3,6,7,9,14,20] ?_
   refine W.region env [] [] rfl rfl rfl .nil .nil (At.keep (ts:=[1,2,3,6,7,20]) (ids:=[3,6,7,14,20]) rfl rfl ?_)
   refine At.inb ?_
   refine At.zaE (At.keep (ts:=[1,2,3,6,7,20]) (ids:=[20,3,6,7,14]) rfl rfl ?_)
   exact At.conv (.cons (.refl _) (.cons (.refl _) (.cons (.refl _) (.cons (.refl _) (.cons (.refl _) (.cons (.refl _) .nil)))))) (.cons (.refl _) (.cons (.refl _) (.cons (.refl _) (.cons (.refl _) (.cons (BSim.zpO (f:=(fun (x:mantle_coat)=>.agg [roL 3 zac x.w.Batches,roL 6 zaa x.w.Mantles,roL 7 zaf x.w.Burns,roL 6 zab x.w.Looks,roL 1 zae x.burns,roL 2 zad x.sights])) hp1 hnd1 (hkd1 _ (hp1.mem_iff.2 (List.mem_cons_self ..))) hlen1) .nil))))) (hK1 _ left2 left2 hp1 ⟨rfl,(List.nodup_cons.1 (hp1.nodup_iff.1 hnd1)).2,fun k hk=>hkd1 k (hp1.mem_iff.2 (List.mem_cons_of_mem _ hk)),by have:=hp1.length_eq;simp at this;omega⟩)
theorem zcY (p0:mantle_lot) (p1:(List Int)) (p2:Bool) {r:Int} (H:zb3 p0 p1 p2=some r):Ctr Tryz.prog 165 [.agg [roL 3 zac p0.closet.w.Batches,roL 6 zaa p0.closet.w.Mantles,roL 7 zaf p0.closet.w.Burns,roL 6 zab p0.closet.w.Looks,.int .i64 (p0.closet.known),romL (.agg #[.slice none 0 0,.slice none 0 0,.slice none 0 0,.slice none 0 0,.slice none 0 0,.slice none 0 0]) (fun (x:mantle_coat)=>.agg [roL 3 zac x.w.Batches,roL 6 zaa x.w.Mantles,roL 7 zaf x.w.Burns,roL 6 zab x.w.Looks,roL 1 zae x.burns,roL 2 zad x.sights]) p0.closet.coats,roL 2 zaq p0.closet.lives,roL 1 zae p0.lamps,roL 1 zae p0.mantles,.int .i64 (p0.night)],roL 1 zae p1,.bool (p2)] (.int .i64 (r)):=by
 unfold zb3 at H
 refine Ctr.zao (N:=37) Tryz.func165 (by kernel_rfl) (c:=_) rfl Tryz.ntmps165 rfl (fun w0 h0 hval=>?_)
 refine W.rg env [1,2,3] [3] ?_
 refine W.seq ?_
 obtain ⟨y1,hy2,H⟩:=zah H
 refine W.region env [] [⟨.agg [roL 3 zac y1.closet.w.Batches,roL 6 zaa y1.closet.w.Mantles,roL 7 zaf y1.closet.w.Burns,roL 6 zab y1.closet.w.Looks,.int .i64 (y1.closet.known),romL (.agg #[.slice none 0 0,.slice none 0 0,.slice none 0 0,.slice none 0 0,.slice none 0 0,.slice none 0 0]) (fun (x:mantle_coat)=>.agg [roL 3 zac x.w.Batches,roL 6 zaa x.w.Mantles,roL 7 zaf x.w.Burns,roL 6 zab x.w.Looks,roL 1 zae x.burns,roL 2 zad x.sights]) y1.closet.coats,roL 2 zaq y1.closet.lives,roL 1 zae y1.lamps,roL 1 zae y1.mantles,.int .i64 (y1.night)],[],0,[]⟩] rfl rfl rfl .nil (.free (zdc p0 p1 p2 hy2) .nil) (At.keep (ts:=[3,7]) (ids:=[3,7]) rfl rfl ?_)
 refine At.zai ?_
 refine W.rg env [3,7,8] [3,7] ?_
 refine W.seq ?_
 refine W.seq ?_
 obtain ⟨y3,hy4,H⟩:=zah H
 refine W.region env [] [⟨roL 1 zae y3,[],0,[]⟩] rfl rfl rfl .nil (.free (zdH p0 hy4) .nil) (At.keep (ts:=[3,7,8,16,17,18]) (ids:=[3,7]) rfl rfl ?_)
 refine At.zai ?_
 refine W.block ?_
 refine At.keep (ts:=[3,7,8,16,17,18]) (ids:=[3,7]) rfl rfl ?_
 refine W.len (t:=16) rfl (fun (hn5:y3.length≤maxLen)=>?_)
 refine W.zax H (fun i5 (s5:Int)=>[(3,.lp 3 0),(7,.lp 7 0),(8,.int .i64 (s5)),(16,roL 1 zae y3),(17,.int .i64 (((y3.length:Nat):Int))),(18,.int .i64 ((i5:Int)))]) (fun i5 (s5:Int)=>[(3,.cells [roL 3 zac p0.closet.w.Batches,roL 6 zaa p0.closet.w.Mantles,roL 7 zaf p0.closet.w.Burns,roL 6 zab p0.closet.w.Looks,.int .i64 (p0.closet.known),romL (.agg #[.slice none 0 0,.slice none 0 0,.slice none 0 0,.slice none 0 0,.slice none 0 0,.slice none 0 0]) (fun (x:mantle_coat)=>.agg [roL 3 zac x.w.Batches,roL 6 zaa x.w.Mantles,roL 7 zaf x.w.Burns,roL 6 zab x.w.Looks,roL 1 zae x.burns,roL 2 zad x.sights]) p0.closet.coats,roL 2 zaq p0.closet.lives,roL 1 zae p0.lamps,roL 1 zae p0.mantles,.int .i64 (p0.night)]),(7,.cells [roL 3 zac y1.closet.w.Batches,roL 6 zaa y1.closet.w.Mantles,roL 7 zaf y1.closet.w.Burns,roL 6 zab y1.closet.w.Looks,.int .i64 (y1.closet.known),romL (.agg #[.slice none 0 0,.slice none 0 0,.slice none 0 0,.slice none 0 0,.slice none 0 0,.slice none 0 0]) (fun (x:mantle_coat)=>.agg [roL 3 zac x.w.Batches,roL 6 zaa x.w.Mantles,roL 7 zaf x.w.Burns,roL 6 zab x.w.Looks,roL 1 zae x.burns,roL 2 zad x.sights]) y1.closet.coats,roL 2 zaq y1.closet.lives,roL 1 zae y1.lamps,roL 1 zae y1.mantles,.int .i64 (y1.night)])]) (.cons .q (.cons .q (.cons .qi (.cons .q (.cons .qi (.cons .qi .nil)))))) (.cons .q (.cons .q .nil)) (fun k5 i5 s5 hle5 H1 H2 K0 hK5=>?_)
 refine W.rg env [3,7,8,16,17,18,19] [3,7] ?_
 refine W.seq ?_
 refine W.cond rfl (fun hb6=>?_) (fun hb6=>?_)
 · have hi5:i5<y3.length:=by have:=of_decide_eq_true hb6;omega
   have H:=H1 hi5
   refine W.skip ?_
   refine At.zai ?_
   refine W.seq ?_
   refine W.block ?_
   refine W.sr env [] [] [3,7,8,10,16,17,18] [3,7] rfl rfl rfl (.cons (⟨by omega,by omega⟩:0≤(i5:Int)∧(i5:Int)<((y3.length:Nat):Int)) .nil) .nil ?_
   refine W.seq ?_
   obtain ⟨hc7,H⟩:=zag H
   obtain ⟨y8,hy9,H⟩:=zah H
   refine W.region env [] [⟨.int .i64 (y8),[],0,[]⟩] rfl rfl (by kernel_rfl) (.cons hc7 .nil) (.free (zby y1.closet (p0.mantles.getD ((y3.getD i5 default)).toNat default) p0.night hy9) .nil) (At.keep (ts:=[3,7,8,16,17,18,32]) (ids:=[3,7]) rfl rfl ?_)
   refine At.zai ?_
   refine W.cond rfl (fun hb10=>?_) (fun hb10=>?_)
   · have H:=zal H hb10
     obtain ⟨hc11,H⟩:=zag H
     refine W.region env [] [] rfl rfl rfl (.cons hc11 .nil) .nil (At.keep (ts:=[3,7,8,16,17,18]) (ids:=[3,7]) rfl rfl ?_)
     refine At.inb ?_
     refine At.zai ?_
     refine W.region env [] [] rfl rfl rfl (.cons (by unfold inI;have:=hn5;(try unfold maxLen at this);omega) .nil) .nil (At.keep (ts:=[3,7,8,16,17,18]) (ids:=[3,7]) rfl rfl ?_)
     refine At.zaE (At.keep (ts:=[3,7,8,16,17,18]) (ids:=[3,7]) rfl rfl ?_)
     exact At.conv (.cons .q (.cons .q (.cons .qi (.cons .q (.cons .qi (.cons .qi .nil)))))) (.cons .q (.cons .q .nil)) (hK5 hi5 (s5+1) H)
   · have H:=zaj H hb10
     refine W.skip ?_
     refine At.inb ?_
     refine At.zai ?_
     refine W.region env [] [] rfl rfl rfl (.cons (by unfold inI;have:=hn5;(try unfold maxLen at this);omega) .nil) .nil (At.keep (ts:=[3,7,8,16,17,18]) (ids:=[3,7]) rfl rfl ?_)
     refine At.zaE (At.keep (ts:=[3,7,8,16,17,18]) (ids:=[3,7]) rfl rfl ?_)
     exact At.conv (.cons .q (.cons .q (.cons .qi (.cons .q (.cons .qi (.cons .qi .nil)))))) (.cons .q (.cons .q .nil)) (hK5 hi5 s5 H)
 · have H:=H2 (by have:=of_decide_eq_false hb6;omega)
   refine W.exit ?_
   refine At.xthen ?_
   refine At.xthen ?_
   refine At.xhere ?_
   refine At.zai ?_
   refine W.rg env [6] [] ?_
   refine W.ret ?_
   cases H
   exact At.ret env.ty rfl rfl nofun (.refl _) hval
theorem zg8 (p0:mantle_lot) (p1:Int) (p2:Bool) {r:(List (List Int))} (H:zdM p0 p1 p2=some r):Ctr Tryz.prog 163 [.agg [roL 3 zac p0.closet.w.Batches,roL 6 zaa p0.closet.w.Mantles,roL 7 zaf p0.closet.w.Burns,roL 6 zab p0.closet.w.Looks,.int .i64 (p0.closet.known),romL (.agg #[.slice none 0 0,.slice none 0 0,.slice none 0 0,.slice none 0 0,.slice none 0 0,.slice none 0 0]) (fun (x:mantle_coat)=>.agg [roL 3 zac x.w.Batches,roL 6 zaa x.w.Mantles,roL 7 zaf x.w.Burns,roL 6 zab x.w.Looks,roL 1 zae x.burns,roL 2 zad x.sights]) p0.closet.coats,roL 2 zaq p0.closet.lives,roL 1 zae p0.lamps,roL 1 zae p0.mantles,.int .i64 (p0.night)],.int .i64 (p1),.bool (p2)] (roL 1 zcl r):=by
 unfold zdM at H
 refine Ctr.zao (N:=135) Tryz.func163 (by kernel_rfl) (c:=_) rfl Tryz.ntmps163 rfl (fun w0 h0 hval=>?_)
 refine W.rg env [1,2,3] [3] ?_
 refine W.rg env [1,2,3,7] [3] ?_
 refine W.seq ?_
 refine W.seq ?_
 obtain ⟨y1,hy2,H⟩:=zah H
 refine W.region env [] [⟨roL 1 zae y1,[],0,[]⟩] rfl rfl rfl .nil (.free (zdH p0 hy2) .nil) (At.keep (ts:=[1,2,3,7,22,23,24]) (ids:=[3]) rfl rfl ?_)
 refine At.zai ?_
 refine W.block ?_
 refine At.zfR 7 507 3 1 (e:=fun i=>zae (([]:List Int).getD i default)) rfl rfl ?_
 refine At.keep (ts:=[1,2,3,7,22,23,24]) (ids:=[3,507]) rfl rfl ?_
 refine W.len (t:=22) rfl (fun (hn3:y1.length≤maxLen)=>?_)
 refine W.zax H (fun i3 (s3:(List Int))=>[(1,.int .i64 (p1)),(2,.bool (p2)),(3,.lp 3 0),(7,.buf 507 (s3).length),(22,roL 1 zae y1),(23,.int .i64 (((y1.length:Nat):Int))),(24,.int .i64 ((i3:Int)))]) (fun i3 (s3:(List Int))=>[(3,.cells [roL 3 zac p0.closet.w.Batches,roL 6 zaa p0.closet.w.Mantles,roL 7 zaf p0.closet.w.Burns,roL 6 zab p0.closet.w.Looks,.int .i64 (p0.closet.known),romL (.agg #[.slice none 0 0,.slice none 0 0,.slice none 0 0,.slice none 0 0,.slice none 0 0,.slice none 0 0]) (fun (x:mantle_coat)=>.agg [roL 3 zac x.w.Batches,roL 6 zaa x.w.Mantles,roL 7 zaf x.w.Burns,roL 6 zab x.w.Looks,roL 1 zae x.burns,roL 2 zad x.sights]) p0.closet.coats,roL 2 zaq p0.closet.lives,roL 1 zae p0.lamps,roL 1 zae p0.mantles,.int .i64 (p0.night)]),(507,bufL 3 1 zae s3)]) (.cons .qi (.cons .q (.cons .q (.cons .qb (.cons .q (.cons .qi (.cons .qi .nil))))))) (.cons .q (.cons .q .nil)) (fun k3 i3 s3 hle3 H1 H2 K0 hK3=>?_)
 refine W.rg env [1,2,3,7,22,23,24,25] [3,507] ?_
 refine W.seq ?_
 refine W.cond rfl (fun hb4=>?_) (fun hb4=>?_)
 · have hi3:i3<y1.length:=by have:=of_decide_eq_true hb4;omega
   have H:=H1 hi3
   refine W.skip ?_
   refine At.zai ?_
   refine W.seq ?_
   refine W.block ?_
   refine W.sr env [] [] [1,2,3,7,9,22,23,24] [3,507] rfl rfl rfl (.cons (⟨by omega,by omega⟩:0≤(i3:Int)∧(i3:Int)<((y1.length:Nat):Int)) .nil) .nil ?_
   refine W.seq ?_
   obtain ⟨hc5,H⟩:=zag H
   obtain ⟨y6,hy7,H⟩:=zah H
   refine W.region env [] [⟨.int .i64 (y6),[],0,[]⟩] rfl rfl (by kernel_rfl) (.cons hc5 .nil) (.free (zcJ p0.closet (p0.mantles.getD ((y1.getD i3 default)).toNat default) hy7) .nil) (At.keep (ts:=[1,2,3,7,9,22,23,24,37]) (ids:=[3,507]) rfl rfl ?_)
   refine At.zai ?_
   refine W.cond rfl (fun hb8=>?_) (fun hb8=>?_)
   · have H:=zal H hb8
     obtain ⟨hc9,H⟩:=zag H
     refine W.region env [] [] rfl rfl rfl (.cons (⟨by first|rfl|(simp;done)|omega|(simp;omega),by have:=hc9;first|simpa using this|(unfold room at this ⊢;simp at this ⊢;omega)⟩) .nil) .nil (At.keep (ts:=[1,2,3,7,22,23,24]) (ids:=[3,507]) rfl rfl ?_)
     refine At.zbJ (.cons (.refl _) (.cons (y:=bufL 3 1 zae (s3++([(y1.getD i3 default)]:List Int))) (BSim.seg (Seg.push (Seg.refl zae _) (Seg.lit (f:=zae) (sz:=1) ([(y1.getD i3 default)]:List Int) rfl rfl (fun _=>rfl)))) .nil)) ?_
     refine At.inb ?_
     refine At.zai ?_
     refine W.region env [] [] rfl rfl rfl (.cons (by unfold inI;have:=hn3;(try unfold maxLen at this);omega) .nil) .nil (At.keep (ts:=[1,2,3,7,22,23,24]) (ids:=[3,507]) rfl rfl ?_)
     refine At.zaE (At.keep (ts:=[1,2,3,7,22,23,24]) (ids:=[3,507]) rfl rfl ?_)
     exact At.conv (.cons .qi (.cons .q (.cons .q (.cons .qb (.cons .q (.cons .qi (.cons .qi .nil))))))) (.cons .q (.cons .q .nil)) (hK3 hi3 (s3++([(y1.getD i3 default)]:List Int)) H)
   · have H:=zaj H hb8
     refine W.skip ?_
     refine At.inb ?_
     refine At.zai ?_
     refine W.region env [] [] rfl rfl rfl (.cons (by unfold inI;have:=hn3;(try unfold maxLen at this);omega) .nil) .nil (At.keep (ts:=[1,2,3,7,22,23,24]) (ids:=[3,507]) rfl rfl ?_)
     refine At.zaE (At.keep (ts:=[1,2,3,7,22,23,24]) (ids:=[3,507]) rfl rfl ?_)
     exact At.conv (.cons .qi (.cons .q (.cons .q (.cons .qb (.cons .q (.cons .qi (.cons .qi .nil))))))) (.cons .q (.cons .q .nil)) (hK3 hi3 s3 H)
 · have H:=H2 (by have:=of_decide_eq_false hb4;omega)
   refine W.exit ?_
   refine At.xthen ?_
   refine At.xthen ?_
   refine At.xhere ?_
   refine At.zai ?_
   refine W.seq ?_
   obtain ⟨hc10,H⟩:=zag H
   obtain ⟨hc11,H⟩:=zag H
   refine W.region env [] [] rfl rfl rfl (.cons (by first|rfl|(simp;done)|omega|(simp;omega)) (.cons hc10 (.cons hc11 .nil))) .nil (At.keep (ts:=[2,3,7,10]) (ids:=[3,46,507]) rfl rfl ?_)
   refine At.zbJ (.cons (.refl _) (.cons (y:=bufL 56 1 (encN 1 zae) (List.replicate ((((s3.length:Nat):Int)+1)).toNat ([]:(List Int)))) (BSim.madeN) (.cons (.refl _) .nil))) ?_
   refine At.zai ?_
   refine W.seq ?_
   obtain ⟨hc12,H⟩:=zag H
   obtain ⟨hc13,H⟩:=zag H
   refine W.region env [] [] rfl rfl rfl (.cons (by first|rfl|(simp;done)|omega|(simp;omega)) (.cons hc12 (.cons hc13 .nil))) .nil (At.keep (ts:=[2,3,7,10,11]) (ids:=[3,46,50,507]) rfl rfl ?_)
   refine At.zbJ (.cons (.refl _) (.cons (.refl _) (.cons (y:=bufL 3 1 zae (List.replicate ((((s3.length:Nat):Int)+1)).toNat (0:Int))) (BSim.seg (Seg.made (f:=zae) 0 rfl)) (.cons (.refl _) .nil)))) ?_
   refine At.zai ?_
   refine W.seq ?_
   refine W.sr env [] [] [2,3,7,10,11,51,52,53] [3,46,50,507] rfl rfl rfl (.cons (by first|rfl|(simp;done)|omega|(simp;omega)) .nil) .nil ?_
   refine W.block ?_
   refine At.keep (ts:=[2,3,7,10,11,51,52,53]) (ids:=[3,46,50,507]) rfl rfl ?_
   obtain ⟨hn14,H⟩:=zag H
   refine W.zax H (fun i14 (s14:(List (List Int))×(List Int))=>[(2,.bool (p2)),(3,.lp 3 0),(7,.buf 507 (s3).length),(10,.buf 46 (s14.1).length),(11,.buf 50 (s14.2).length),(51,.buf 507 (s3).length),(52,.int .i64 (((s3.length:Nat):Int))),(53,.int .i64 ((i14:Int)))]) (fun i14 (s14:(List (List Int))×(List Int))=>[(3,.cells [roL 3 zac p0.closet.w.Batches,roL 6 zaa p0.closet.w.Mantles,roL 7 zaf p0.closet.w.Burns,roL 6 zab p0.closet.w.Looks,.int .i64 (p0.closet.known),romL (.agg #[.slice none 0 0,.slice none 0 0,.slice none 0 0,.slice none 0 0,.slice none 0 0,.slice none 0 0]) (fun (x:mantle_coat)=>.agg [roL 3 zac x.w.Batches,roL 6 zaa x.w.Mantles,roL 7 zaf x.w.Burns,roL 6 zab x.w.Looks,roL 1 zae x.burns,roL 2 zad x.sights]) p0.closet.coats,roL 2 zaq p0.closet.lives,roL 1 zae p0.lamps,roL 1 zae p0.mantles,.int .i64 (p0.night)]),(46,bufL 56 1 (encN 1 zae) s14.1),(50,bufL 3 1 zae s14.2),(507,bufL 3 1 zae s3)]) (.cons .q (.cons .q (.cons .qb (.cons .qb (.cons .qb (.cons .qb (.cons .qi (.cons .qi .nil)))))))) (.cons .q (.cons .q (.cons .q (.cons .q .nil)))) (fun k14 i14 s14 hle14 H1 H2 K0 hK14=>?_)
   refine W.rg env [2,3,7,10,11,51,52,53,54] [3,46,50,507] ?_
   refine W.seq ?_
   refine W.cond rfl (fun hb15=>?_) (fun hb15=>?_)
   · have hi14:i14<s3.length:=by have:=of_decide_eq_true hb15;omega
     have H:=H1 hi14
     refine W.skip ?_
     refine At.zai ?_
     refine W.seq ?_
     refine W.block ?_
     refine W.sr env [] [] [2,3,7,10,11,13,51,52,53] [3,46,50,507] rfl rfl rfl (.cons (⟨by first|rfl|(simp;done)|omega|(simp;omega),(⟨by omega,by omega⟩:0≤(i14:Int)∧(i14:Int)<((s3.length:Nat):Int))⟩) (.cons (⟨by first|rfl|(simp;done)|omega|(simp;omega),(by have:=(⟨by omega,by omega⟩:0≤(i14:Int)∧(i14:Int)<((s3.length:Nat):Int));first|omega|(simp only [List.length_set];omega)|(simp only [Int.toNat_natCast] at *;omega)|(simp at this ⊢;omega))⟩) .nil)) .nil ?_
     refine W.seq ?_
     obtain ⟨y16,hy17,H⟩:=zah H
     refine W.region env [] [⟨.agg [roL 3 zac y16.closet.w.Batches,roL 6 zaa y16.closet.w.Mantles,roL 7 zaf y16.closet.w.Burns,roL 6 zab y16.closet.w.Looks,.int .i64 (y16.closet.known),romL (.agg #[.slice none 0 0,.slice none 0 0,.slice none 0 0,.slice none 0 0,.slice none 0 0,.slice none 0 0]) (fun (x:mantle_coat)=>.agg [roL 3 zac x.w.Batches,roL 6 zaa x.w.Mantles,roL 7 zaf x.w.Burns,roL 6 zab x.w.Looks,roL 1 zae x.burns,roL 2 zad x.sights]) y16.closet.coats,roL 2 zaq y16.closet.lives,roL 1 zae y16.lamps,roL 1 zae y16.mantles,.int .i64 (y16.night)],[],0,[]⟩] rfl rfl rfl .nil (.free (Ctr.sim (.cons (.refl _) (.cons (Sim.lit (f:=zae) ([(s3.getD i14 default)]:List Int) rfl rfl (fun _=>rfl)) (.cons (.refl _) .nil))) (zdc p0 ([(s3.getD i14 default)]:List Int) p2 hy17)) .nil) (At.keep (ts:=[2,3,7,10,11,13,14,51,52,53]) (ids:=[3,14,46,50,507]) rfl rfl ?_)
     refine At.zai ?_
     refine W.rg env [2,3,7,10,11,13,14,15,51,52,53] [3,14,46,50,507] ?_
     refine W.seq ?_
     refine W.sr env [] [] [2,3,7,10,11,13,14,15,51,52,53,62,63,64] [3,14,46,50,507] rfl rfl rfl (.cons (by first|rfl|(simp;done)|omega|(simp;omega)) .nil) .nil ?_
     refine W.block ?_
     refine At.zfR 15 515 3 1 (e:=fun i=>zae (([]:List Int).getD i default)) rfl rfl ?_
     refine At.keep (ts:=[2,3,7,10,11,13,14,15,51,52,53,62,63,64]) (ids:=[3,14,46,50,507,515]) rfl rfl ?_
     obtain ⟨hn18,H⟩:=zag H
     refine W.zax H (fun i18 (s18:(List Int))=>[(2,.bool (p2)),(3,.lp 3 0),(7,.buf 507 (s3).length),(10,.buf 46 (s14.1).length),(11,.buf 50 (s14.2).length),(13,.int .i64 ((s3.getD i14 default))),(14,.lp 14 0),(15,.buf 515 (s18).length),(51,.buf 507 (s3).length),(52,.int .i64 (((s3.length:Nat):Int))),(53,.int .i64 ((i14:Int))),(62,.buf 507 (s3).length),(63,.int .i64 (((s3.length:Nat):Int))),(64,.int .i64 ((i18:Int)))]) (fun i18 (s18:(List Int))=>[(3,.cells [roL 3 zac p0.closet.w.Batches,roL 6 zaa p0.closet.w.Mantles,roL 7 zaf p0.closet.w.Burns,roL 6 zab p0.closet.w.Looks,.int .i64 (p0.closet.known),romL (.agg #[.slice none 0 0,.slice none 0 0,.slice none 0 0,.slice none 0 0,.slice none 0 0,.slice none 0 0]) (fun (x:mantle_coat)=>.agg [roL 3 zac x.w.Batches,roL 6 zaa x.w.Mantles,roL 7 zaf x.w.Burns,roL 6 zab x.w.Looks,roL 1 zae x.burns,roL 2 zad x.sights]) p0.closet.coats,roL 2 zaq p0.closet.lives,roL 1 zae p0.lamps,roL 1 zae p0.mantles,.int .i64 (p0.night)]),(14,.cells [roL 3 zac y16.closet.w.Batches,roL 6 zaa y16.closet.w.Mantles,roL 7 zaf y16.closet.w.Burns,roL 6 zab y16.closet.w.Looks,.int .i64 (y16.closet.known),romL (.agg #[.slice none 0 0,.slice none 0 0,.slice none 0 0,.slice none 0 0,.slice none 0 0,.slice none 0 0]) (fun (x:mantle_coat)=>.agg [roL 3 zac x.w.Batches,roL 6 zaa x.w.Mantles,roL 7 zaf x.w.Burns,roL 6 zab x.w.Looks,roL 1 zae x.burns,roL 2 zad x.sights]) y16.closet.coats,roL 2 zaq y16.closet.lives,roL 1 zae y16.lamps,roL 1 zae y16.mantles,.int .i64 (y16.night)]),(46,bufL 56 1 (encN 1 zae) s14.1),(50,bufL 3 1 zae s14.2),(507,bufL 3 1 zae s3),(515,bufL 3 1 zae s18)]) (.cons .q (.cons .q (.cons .qb (.cons .qb (.cons .qb (.cons .qi (.cons .q (.cons .qb (.cons .qb (.cons .qi (.cons .qi (.cons .qb (.cons .qi (.cons .qi .nil)))))))))))))) (.cons .q (.cons .q (.cons .q (.cons .q (.cons .q (.cons .q .nil)))))) (fun k18 i18 s18 hle18 H1 H2 K0 hK18=>?_)
     refine W.rg env [2,3,7,10,11,13,14,15,51,52,53,62,63,64,65] [3,14,46,50,507,515] ?_
     refine W.seq ?_
     refine W.cond rfl (fun hb19=>?_) (fun hb19=>?_)
     · have hi18:i18<s3.length:=by have:=of_decide_eq_true hb19;omega
       have H:=H1 hi18
       refine W.skip ?_
       refine At.zai ?_
       refine W.seq ?_
       refine W.block ?_
       refine W.sr env [] [] [2,3,7,10,11,13,14,15,17,51,52,53,62,63,64] [3,14,46,50,507,515] rfl rfl rfl (.cons (⟨by first|rfl|(simp;done)|omega|(simp;omega),(⟨by omega,by omega⟩:0≤(i18:Int)∧(i18:Int)<((s3.length:Nat):Int))⟩) (.cons (⟨by first|rfl|(simp;done)|omega|(simp;omega),(by have:=(⟨by omega,by omega⟩:0≤(i18:Int)∧(i18:Int)<((s3.length:Nat):Int));first|omega|(simp only [List.length_set];omega)|(simp only [Int.toNat_natCast] at *;omega)|(simp at this ⊢;omega))⟩) .nil)) .nil ?_
       refine W.seq ?_
       obtain ⟨hc20,H⟩:=zag H
       obtain ⟨y21,hy22,H⟩:=zah H
       refine W.region env [] [⟨.int .i64 (y21),[],0,[]⟩] rfl rfl (by kernel_rfl) (.cons id (.cons id (.cons hc20 (.cons id (.cons id (.cons id (.cons id (.cons id (.cons id (.cons id (.cons id (.cons id .nil)))))))))))) (.on (fun hW=>zby y16.closet (p0.mantles.getD ((s3.getD i18 default)).toNat default) p0.night (zal hy22 hW)) .nil) (At.keep (ts:=[2,3,7,10,11,13,14,15,17,51,52,53,62,63,64,83]) (ids:=[3,14,46,50,507,515]) rfl rfl ?_)
       refine At.zai ?_
       refine W.cond rfl (fun hb23=>?_) (fun hb23=>?_)
       · have H:=zal H hb23
         obtain ⟨hc24,H⟩:=zag H
         refine W.region env [] [] rfl rfl rfl (.cons (⟨by first|rfl|(simp;done)|omega|(simp;omega),by have:=hc24;first|simpa using this|(unfold room at this ⊢;simp at this ⊢;omega)⟩) .nil) .nil (At.keep (ts:=[2,3,7,10,11,13,14,15,51,52,53,62,63,64]) (ids:=[3,14,46,50,507,515]) rfl rfl ?_)
         refine At.zbJ (.cons (.refl _) (.cons (.refl _) (.cons (.refl _) (.cons (.refl _) (.cons (.refl _) (.cons (y:=bufL 3 1 zae (s18++([(s3.getD i18 default)]:List Int))) (BSim.seg (Seg.push (Seg.refl zae _) (Seg.lit (f:=zae) (sz:=1) ([(s3.getD i18 default)]:List Int) rfl rfl (fun _=>rfl)))) .nil)))))) ?_
         refine At.inb ?_
         refine At.zai ?_
         refine W.region env [] [] rfl rfl rfl (.cons (by unfold inI;have:=hn18;(try unfold maxLen at this);omega) .nil) .nil (At.keep (ts:=[2,3,7,10,11,13,14,15,51,52,53,62,63,64]) (ids:=[3,14,46,50,507,515]) rfl rfl ?_)
         refine At.zaE (At.keep (ts:=[2,3,7,10,11,13,14,15,51,52,53,62,63,64]) (ids:=[3,14,46,50,507,515]) rfl rfl ?_)
         exact At.conv (.cons .q (.cons .q (.cons .qb (.cons .qb (.cons .qb (.cons .qi (.cons .q (.cons .qb (.cons .qb (.cons .qi (.cons .qi (.cons .qb (.cons .qi (.cons .qi .nil)))))))))))))) (.cons .q (.cons .q (.cons .q (.cons .q (.cons .q (.cons .q .nil)))))) (hK18 hi18 (s18++([(s3.getD i18 default)]:List Int)) H)
       · have H:=zaj H hb23
         refine W.skip ?_
         refine At.inb ?_
         refine At.zai ?_
         refine W.region env [] [] rfl rfl rfl (.cons (by unfold inI;have:=hn18;(try unfold maxLen at this);omega) .nil) .nil (At.keep (ts:=[2,3,7,10,11,13,14,15,51,52,53,62,63,64]) (ids:=[3,14,46,50,507,515]) rfl rfl ?_)
         refine At.zaE (At.keep (ts:=[2,3,7,10,11,13,14,15,51,52,53,62,63,64]) (ids:=[3,14,46,50,507,515]) rfl rfl ?_)
         exact At.conv (.cons .q (.cons .q (.cons .qb (.cons .qb (.cons .qb (.cons .qi (.cons .q (.cons .qb (.cons .qb (.cons .qi (.cons .qi (.cons .qb (.cons .qi (.cons .qi .nil)))))))))))))) (.cons .q (.cons .q (.cons .q (.cons .q (.cons .q (.cons .q .nil)))))) (hK18 hi18 s18 H)
     · have H:=H2 (by have:=of_decide_eq_false hb19;omega)
       refine W.exit ?_
       refine At.xthen ?_
       refine At.xthen ?_
       refine At.xhere ?_
       refine At.zai ?_
       obtain ⟨hc25,H⟩:=zag H
       refine W.sr env [] [] [2,3,7,10,11,13,15,51,52,53,91,92] [3,46,50,507,515] rfl rfl rfl (.cons (by first|rfl|(simp;done)|omega|(simp;omega)) (.cons hc25 .nil)) .nil ?_
       refine W.block ?_
       refine At.zql 515 (K:=[3,46,50,507]) (ts:=[2,3,7,10,11,13,15,51,52,53,91,92]) rfl rfl rfl rfl (.cons (by first|rfl|(simp;done)|omega|(simp;omega)) .nil) .nil (fun _ h=>h) ?_
       refine At.keep (ts:=[2,3,7,10,11,13,15,51,52,53,91,92]) (ids:=[3,46,50,507]) rfl rfl ?_
       obtain ⟨hn26,H⟩:=zag H
       refine W.zax H (fun i26 (s26:(List (List Int))×(List Int))=>[(2,.bool (p2)),(3,.lp 3 0),(7,.buf 507 (s3).length),(10,.buf 46 (s26.1).length),(11,.buf 50 (s26.2).length),(13,.int .i64 ((s3.getD i14 default))),(15,roL 1 zae s18),(51,.buf 507 (s3).length),(52,.int .i64 (((s3.length:Nat):Int))),(53,.int .i64 ((i14:Int))),(91,.int .i64 ((((s3.length:Nat):Int)+1))),(92,.int .i64 ((i26:Int)))]) (fun i26 (s26:(List (List Int))×(List Int))=>[(3,.cells [roL 3 zac p0.closet.w.Batches,roL 6 zaa p0.closet.w.Mantles,roL 7 zaf p0.closet.w.Burns,roL 6 zab p0.closet.w.Looks,.int .i64 (p0.closet.known),romL (.agg #[.slice none 0 0,.slice none 0 0,.slice none 0 0,.slice none 0 0,.slice none 0 0,.slice none 0 0]) (fun (x:mantle_coat)=>.agg [roL 3 zac x.w.Batches,roL 6 zaa x.w.Mantles,roL 7 zaf x.w.Burns,roL 6 zab x.w.Looks,roL 1 zae x.burns,roL 2 zad x.sights]) p0.closet.coats,roL 2 zaq p0.closet.lives,roL 1 zae p0.lamps,roL 1 zae p0.mantles,.int .i64 (p0.night)]),(46,bufL 56 1 (encN 1 zae) s26.1),(50,bufL 3 1 zae s26.2),(507,bufL 3 1 zae s3)]) (.cons .q (.cons .q (.cons .qb (.cons .qb (.cons .qb (.cons .qi (.cons .q (.cons .qb (.cons .qi (.cons .qi (.cons .qi (.cons .qi .nil)))))))))))) (.cons .q (.cons .q (.cons .q (.cons .q .nil)))) (fun k26 i26 s26 hle26 H1 H2 K0 hK26=>?_)
       refine W.rg env [2,3,7,10,11,13,15,51,52,53,91,92,93] [3,46,50,507] ?_
       refine W.seq ?_
       refine W.cond rfl (fun hb27=>?_) (fun hb27=>?_)
       · have hi26:i26<((((s3.length:Nat):Int)+1)).toNat:=by have:=of_decide_eq_true hb27;omega
         have H:=H1 hi26
         refine W.skip ?_
         refine At.zai ?_
         refine W.seq ?_
         refine W.zhn H (fun (s28:(List (List Int))×(List Int))=>[(2,.bool (p2)),(3,.lp 3 0),(7,.buf 507 (s3).length),(10,.buf 46 (s28.1).length),(11,.buf 50 (s28.2).length),(13,.int .i64 ((s3.getD i14 default))),(15,roL 1 zae s18),(51,.buf 507 (s3).length),(52,.int .i64 (((s3.length:Nat):Int))),(53,.int .i64 ((i14:Int))),(91,.int .i64 ((((s3.length:Nat):Int)+1))),(92,.int .i64 ((i26:Int)))]) (fun (s28:(List (List Int))×(List Int))=>[(3,.cells [roL 3 zac p0.closet.w.Batches,roL 6 zaa p0.closet.w.Mantles,roL 7 zaf p0.closet.w.Burns,roL 6 zab p0.closet.w.Looks,.int .i64 (p0.closet.known),romL (.agg #[.slice none 0 0,.slice none 0 0,.slice none 0 0,.slice none 0 0,.slice none 0 0,.slice none 0 0]) (fun (x:mantle_coat)=>.agg [roL 3 zac x.w.Batches,roL 6 zaa x.w.Mantles,roL 7 zaf x.w.Burns,roL 6 zab x.w.Looks,roL 1 zae x.burns,roL 2 zad x.sights]) p0.closet.coats,roL 2 zaq p0.closet.lives,roL 1 zae p0.lamps,roL 1 zae p0.mantles,.int .i64 (p0.night)]),(46,bufL 56 1 (encN 1 zae) s28.1),(50,bufL 3 1 zae s28.2),(507,bufL 3 1 zae s3)]) (fun s28 H=>?_) (fun k28 H hK28=>?_)
         · refine W.region env [] [] rfl rfl rfl (.cons (by unfold inI;have:=hn26;(try unfold maxLen at this);omega) .nil) .nil (At.keep (ts:=[2,3,7,10,11,13,15,51,52,53,91,92]) (ids:=[3,46,50,507]) rfl rfl ?_)
           refine At.zaE (At.keep (ts:=[2,3,7,10,11,13,15,51,52,53,91,92]) (ids:=[3,46,50,507]) rfl rfl ?_)
           exact At.conv (.cons .q (.cons .q (.cons .qb (.cons .qb (.cons .qb (.cons .qi (.cons .q (.cons .qb (.cons .qi (.cons .qi (.cons .qi (.cons .qi .nil)))))))))))) (.cons .q (.cons .q (.cons .q (.cons .q .nil)))) (hK26 hi26 (s28.1,s28.2) H)
         · refine W.block ?_
           refine W.rg env [2,3,7,10,11,13,15,18,51,52,53,91,92] [3,46,50,507] ?_
           refine W.seq ?_
           refine W.rg env [2,3,7,10,11,13,15,18,51,52,53,91,92,96] [3,46,50,507] ?_
           refine W.cond rfl (fun hb29=>?_) (fun hb29=>?_)
           · have H:=zal H hb29
             refine W.exit ?_
             refine At.xthen ?_
             refine At.xhere ?_
             refine At.zaE (At.keep (ts:=[2,3,7,10,11,13,15,51,52,53,91,92]) (ids:=[3,46,50,507]) rfl rfl ?_)
             exact At.conv (.cons .q (.cons .q (.cons .qb (.cons .qb (.cons .qb (.cons .qi (.cons .q (.cons .qb (.cons .qi (.cons .qi (.cons .qi (.cons .qi .nil)))))))))))) (.cons .q (.cons .q (.cons .q (.cons .q .nil)))) (hK28 (s26.1,s26.2) H)
           · have H:=zaj H hb29
             refine W.skip ?_
             refine At.zai ?_
             refine W.seq ?_
             obtain ⟨hc30,H⟩:=zag H
             obtain ⟨hc31,H⟩:=zag H
             obtain ⟨hc32,H⟩:=zag H
             refine W.region env [98,16777322] [] rfl rfl rfl (.cons hc30 (.cons hc31 (.cons (⟨(by first|rfl|(simp;done)|omega|(simp;omega)),(⟨by first|rfl|(simp;done)|omega|(simp;omega),by have:=hc32;first|simpa using this|(unfold room at this ⊢;simp at this ⊢;omega)⟩)⟩) .nil))) .nil (At.keep (ts:=[2,3,7,10,11,13,15,18,19,51,52,53,91,92]) (ids:=[3,46,50,507]) rfl rfl ?_)
             refine At.slot (t:=19) (v:=roL 1 zae (([(s3.getD i14 default)]:List Int)++(s18.take ((min ((i26:Int) - 1) ((s18.length:Nat):Int))).toNat))) (Sim.seg (Seg.push (Seg.lit (f:=zae) (sz:=1) ([(s3.getD i14 default)]:List Int) rfl rfl (fun _=>rfl)) (Seg.take zae s18 (((min ((i26:Int) - 1) ((s18.length:Nat):Int))).toNat) (by omega)))) ?_
             refine At.zai ?_
             refine W.seq ?_
             obtain ⟨y33,hy34,H⟩:=zah H
             refine W.region env [] [⟨.int .i64 (y33),[],0,[]⟩] rfl rfl rfl .nil (.free (zcY p0 (([(s3.getD i14 default)]:List Int)++(s18.take ((min ((i26:Int) - 1) ((s18.length:Nat):Int))).toNat)) p2 hy34) .nil) (At.keep (ts:=[2,3,7,10,11,13,15,18,19,20,51,52,53,91,92]) (ids:=[3,46,50,507]) rfl rfl ?_)
             refine At.zai ?_
             obtain ⟨hc35,H⟩:=zag H
             obtain ⟨hc36,H⟩:=zag H
             refine W.sr env [] [] [2,3,7,10,11,13,15,18,19,20,51,52,53,91,92,123] [3,46,50,507] rfl rfl rfl (.cons (⟨by first|rfl|(simp;done)|omega|(simp;omega),hc35⟩) (.cons (⟨by first|rfl|(simp;done)|omega|(simp;omega),(by have:=hc35;first|omega|(simp only [List.length_set];omega)|(simp only [Int.toNat_natCast] at *;omega)|(simp at this ⊢;omega))⟩) (.cons (fun hW=>⟨by first|rfl|(simp;done)|omega|(simp;omega),hc36 hW⟩) (.cons id (.cons id (.cons (fun hW=>(⟨by first|rfl|(simp;done)|omega|(simp;omega),(by have:=hc36 hW;first|omega|(simp only [List.length_set];omega)|(simp only [Int.toNat_natCast] at *;omega)|(simp at this ⊢;omega))⟩)) (.cons id (.cons id (.cons id (.cons (fun h=>by rw [h];rfl) .nil)))))))))) .nil ?_
             refine W.cond rfl (fun hb37=>?_) (fun hb37=>?_)
             · have H:=zal H hb37
               obtain ⟨hc38,H⟩:=zag H
               obtain ⟨hc39,H⟩:=zag H
               obtain ⟨hc40,H⟩:=zag H
               refine W.region env [] [] rfl rfl rfl (.cons (⟨by first|rfl|(simp;done)|omega|(simp;omega),hc38⟩) (.cons (⟨by first|rfl|(simp;done)|omega|(simp;omega),(by have:=hc38;first|omega|(simp only [List.length_set];omega)|(simp only [Int.toNat_natCast] at *;omega)|(simp at this ⊢;omega))⟩) (.cons (⟨by first|rfl|(simp;done)|omega|(simp;omega),hc40⟩) (.cons (⟨by first|rfl|(simp;done)|omega|(simp;omega),(by have:=hc40;first|omega|(simp only [List.length_set];omega)|(simp only [Int.toNat_natCast] at *;omega)|(simp at this ⊢;omega))⟩) .nil)))) .nil (At.keep (ts:=[2,3,7,10,11,13,15,51,52,53,91,92]) (ids:=[3,46,50,507]) rfl rfl ?_)
               refine At.zbJ (.cons (.refl _) (.cons (y:=bufL 56 1 (encN 1 zae) (s26.1.set i26 (([(s3.getD i14 default)]:List Int)++(s18.take ((min ((i26:Int) - 1) ((s18.length:Nat):Int))).toNat)))) (BSim.setS (Seg.refl (encN 1 zae) _) (([(s3.getD i14 default)]:List Int)++(s18.take ((min ((i26:Int) - 1) ((s18.length:Nat):Int))).toNat)) (.cons (Sim.nsOf hc39) .nil)) (.cons (y:=bufL 3 1 zae (s26.2.set i26 y33)) (BSim.seg (Seg.set (Seg.refl zae _) y33 rfl)) (.cons (.refl _) .nil)))) ?_
               refine At.inb ?_
               refine At.zaE (At.keep (ts:=[2,3,7,10,11,13,15,51,52,53,91,92]) (ids:=[3,46,50,507]) rfl rfl ?_)
               exact At.conv (.cons .q (.cons .q (.cons .qb (.cons .qb (.cons .qb (.cons .qi (.cons .q (.cons .qb (.cons .qi (.cons .qi (.cons .qi (.cons .qi .nil)))))))))))) (.cons .q (.cons .q (.cons .q (.cons .q .nil)))) (hK28 ((s26.1.set i26 (([(s3.getD i14 default)]:List Int)++(s18.take ((min ((i26:Int) - 1) ((s18.length:Nat):Int))).toNat))),(s26.2.set i26 y33)) H)
             · have H:=zaj H hb37
               refine W.skip ?_
               refine At.inb ?_
               refine At.zaE (At.keep (ts:=[2,3,7,10,11,13,15,51,52,53,91,92]) (ids:=[3,46,50,507]) rfl rfl ?_)
               exact At.conv (.cons .q (.cons .q (.cons .qb (.cons .qb (.cons .qb (.cons .qi (.cons .q (.cons .qb (.cons .qi (.cons .qi (.cons .qi (.cons .qi .nil)))))))))))) (.cons .q (.cons .q (.cons .q (.cons .q .nil)))) (hK28 (s26.1,s26.2) H)
       · have H:=H2 (by have:=of_decide_eq_false hb27;omega)
         refine W.exit ?_
         refine At.xthen ?_
         refine At.xthen ?_
         refine At.xhere ?_
         refine At.inb ?_
         refine At.zai ?_
         refine W.region env [] [] rfl rfl rfl (.cons (by unfold inI;have:=hn14;(try unfold maxLen at this);omega) .nil) .nil (At.keep (ts:=[2,3,7,10,11,51,52,53]) (ids:=[3,46,50,507]) rfl rfl ?_)
         refine At.zaE (At.keep (ts:=[2,3,7,10,11,51,52,53]) (ids:=[3,46,50,507]) rfl rfl ?_)
         exact At.conv (.cons .q (.cons .q (.cons .qb (.cons .qb (.cons .qb (.cons .qb (.cons .qi (.cons .qi .nil)))))))) (.cons .q (.cons .q (.cons .q (.cons .q .nil)))) (hK14 hi14 (s26.1,s26.2) H)
   · have H:=H2 (by have:=of_decide_eq_false hb15;omega)
     refine W.exit ?_
     refine At.xthen ?_
     refine At.xthen ?_
     refine At.xhere ?_
     refine At.zai ?_
     refine W.rg env [6] [46] ?_
     refine W.ret ?_
     cases H
     exact At.ret env.ty rfl rfl (fun q hq=>by cases hq;exact (by first|rfl|(simp;done)|omega|(simp;omega))) Sim.roN hval
theorem zfB (p1:Int) {r:(List Int)} (H:zdj p1=some r):CtrO Tryz.prog 195 [.nilS,.int .i64 p1] [] (.buf 900 r.length) [(900,bufL 3 1 zae r)]:=by
 unfold zdj at H
 refine CtrO.zao (N:=27) Tryz.func195 (by kernel_rfl) (c:=_) rfl Tryz.ntmps195 rfl (fun w0 h0 ρb hval hdom=>?_)
 refine W.rg env [0,1] [] ?_
 refine W.seq ?_
 refine W.rg env [0,1,6] [] ?_
 refine W.zhn H (fun (s1:Unit)=>[(0,.nilS),(1,.int .i64 (p1))]) (fun (s1:Unit)=>[]) (fun s1 H=>?_) (fun k1 H hK1=>?_)
 · refine W.seq ?_
   obtain ⟨hc2,H⟩:=zag H
   obtain ⟨hc3,H⟩:=zag H
   refine W.sr env [] [] [0,1] [] rfl rfl rfl (.cons hc2 (.cons hc3 .nil)) .nil ?_
   refine W.rg env [0,1,16] [] ?_
   refine W.cond rfl (fun hb4=>?_) (fun hb4=>?_)
   · have H:=zal H hb4
     obtain ⟨hc5,H⟩:=zag H
     obtain ⟨hc6,H⟩:=zag H
     refine W.region env [] [] rfl rfl rfl (.cons rfl (.cons hc5 (.cons (⟨by first|rfl|(simp;done)|omega|(simp;omega),(by first|exact hc6|simpa using hc6)⟩) .nil))) .nil (At.keep (ts:=[0]) (ids:=[22]) rfl rfl ?_)
     refine At.zbJ (.cons (y:=bufL 3 1 zae (List.replicate ((p1 - (0 - 0))).toNat (0:Int))) (BSim.seg (Seg.made (f:=zae) 0 rfl)) .nil) ?_
     refine At.zai ?_
     refine W.rg env [4] [22] ?_
     refine W.ret ?_
     cases H
     refine At.shrink 4 22 850 (K:=[]) (ts:=[]) rfl rfl (by first|rfl|(simp;done)|omega|(simp;omega)) (by have:=hc6;omega) rfl rfl rfl rfl ?_
     refine At.zbJ (.cons (y:=bufL 3 1 zae ((List.replicate ((p1 - (0 - 0))).toNat (0:Int)).take 0)) (BSim.seg (Seg.first (Seg.refl zae _) (by have:=hc6;omega))) .nil) ?_
     exact At.retK env.ty [850] 50 rfl rfl rfl rfl (.cons (.refl _) .nil) (.of_eq (by refine zhx ?_;first|(simp [zbx];done)|omega|(simp [zbx];omega)|rfl)) hval hdom rfl
   · have H:=zaj H hb4
     refine W.skip ?_
     refine At.zai ?_
     refine W.rg env [4] [] ?_
     refine W.ret ?_
     cases H
     refine At.zfR 4 800 3 1 (e:=fun i=>zae (([]:List Int).getD i default)) rfl rfl ?_
     exact At.retK env.ty [800] 100 rfl rfl rfl rfl (.cons (.refl _) .nil) (.of_eq (by refine zhx ?_;first|(simp [zbx];done)|omega|(simp [zbx];omega)|rfl)) hval hdom rfl
 · refine W.cond rfl (fun hb7=>?_) (fun hb7=>?_)
   · have H:=zal H hb7
     cases H
   · have H:=zaj H hb7
     refine W.skip ?_
     refine At.zaE (At.keep (ts:=[0,1]) (ids:=[]) rfl rfl ?_)
     exact At.conv (.cons (by first|exact Sim.refl _|exact Sim.nil _ _) (.cons .qi .nil)) .nil (hK1 () H)
theorem zg6 (p0:(List (List Int))) {r:(List Int)} (H:zdI p0=some r):Ctr Tryz.prog 164 [roL 1 zcl p0] (roL 1 zae r):=by
 unfold zdI at H
 refine Ctr.zao (N:=36) Tryz.func164 (by kernel_rfl) (c:=_) rfl Tryz.ntmps164 rfl (fun w0 h0 hval=>?_)
 refine W.rg env [0] [] ?_
 refine W.rg env [0,3] [] ?_
 refine W.seq ?_
 refine W.rg env [0,3,9,10,11] [] ?_
 refine W.block ?_
 refine At.keep (ts:=[0,3,9,10,11]) (ids:=[]) rfl rfl ?_
 refine W.len (t:=9) rfl (fun (hn1:p0.length≤maxLen)=>?_)
 refine W.zax H (fun i1 (s1:Int)=>[(0,roL 1 zcl p0),(3,.int .i64 (s1)),(9,roL 1 zcl p0),(10,.int .i64 (((p0.length:Nat):Int))),(11,.int .i64 ((i1:Int)))]) (fun i1 (s1:Int)=>[]) (.cons .q (.cons .qi (.cons .q (.cons .qi (.cons .qi .nil))))) .nil (fun k1 i1 s1 hle1 H1 H2 K0 hK1=>?_)
 refine W.rg env [0,3,9,10,11,12] [] ?_
 refine W.seq ?_
 refine W.cond rfl (fun hb2=>?_) (fun hb2=>?_)
 · have hi1:i1<p0.length:=by have:=of_decide_eq_true hb2;omega
   have H:=H1 hi1
   refine W.skip ?_
   refine At.zai ?_
   refine W.seq ?_
   refine W.block ?_
   refine W.sr env [] [] [0,3,5,9,10,11] [] rfl rfl rfl (.cons (⟨by omega,by omega⟩:0≤(i1:Int)∧(i1:Int)<((p0.length:Nat):Int)) .nil) .nil ?_
   obtain ⟨hc3,H⟩:=zag H
   refine W.sr env [] [] [0,3,9,10,11] [] rfl rfl rfl (.cons hc3 .nil) .nil ?_
   refine W.rg env [0,3,9,10,11,20] [] ?_
   refine W.cond rfl (fun hb4=>?_) (fun hb4=>?_)
   · have H:=zal H hb4
     cases H
   · have H:=zaj H hb4
     refine W.skip ?_
     refine At.inb ?_
     refine At.zai ?_
     refine W.region env [] [] rfl rfl rfl (.cons (by unfold inI;have:=hn1;(try unfold maxLen at this);omega) .nil) .nil (At.keep (ts:=[0,3,9,10,11]) (ids:=[]) rfl rfl ?_)
     refine At.zaE (At.keep (ts:=[0,3,9,10,11]) (ids:=[]) rfl rfl ?_)
     exact At.conv (.cons .q (.cons .qi (.cons .q (.cons .qi (.cons .qi .nil))))) .nil (hK1 hi1 (s1+(((p0.getD i1 default).length:Nat):Int)) H)
 · have H:=H2 (by have:=of_decide_eq_false hb2;omega)
   refine W.exit ?_
   refine At.xthen ?_
   refine At.xthen ?_
   refine At.xhere ?_
   refine At.zai ?_
   refine W.seq ?_
   obtain ⟨y5,hy6,H⟩:=zah H
   refine W.region env [] [⟨.buf 900 y5.length,[(900,bufL 3 1 zae y5)],25000,[]⟩] rfl rfl (by kernel_rfl) .nil (.free (Ctr.ofO (zfB s1 hy6)) .nil) (At.keep (ts:=[0,6]) (ids:=[25900]) rfl rfl ?_)
   refine At.zai ?_
   refine W.seq ?_
   refine W.rg env [6,25,26,27] [25900] ?_
   refine W.block ?_
   refine At.keep (ts:=[6,25,26,27]) (ids:=[25900]) rfl rfl ?_
   refine W.len (t:=25) rfl (fun (hn7:p0.length≤maxLen)=>?_)
   refine W.zax H (fun i7 (s7:(List Int))=>[(6,.buf 25900 (s7).length),(25,roL 1 zcl p0),(26,.int .i64 (((p0.length:Nat):Int))),(27,.int .i64 ((i7:Int)))]) (fun i7 (s7:(List Int))=>[(25900,bufL 3 1 zae s7)]) (.cons .qb (.cons .q (.cons .qi (.cons .qi .nil)))) (.cons .q .nil) (fun k7 i7 s7 hle7 H1 H2 K0 hK7=>?_)
   refine W.rg env [6,25,26,27,28] [25900] ?_
   refine W.seq ?_
   refine W.cond rfl (fun hb8=>?_) (fun hb8=>?_)
   · have hi7:i7<p0.length:=by have:=of_decide_eq_true hb8;omega
     have H:=H1 hi7
     refine W.skip ?_
     refine At.zai ?_
     refine W.seq ?_
     refine W.block ?_
     refine W.sr env [] [] [6,8,25,26,27] [25900] rfl rfl rfl (.cons (⟨by omega,by omega⟩:0≤(i7:Int)∧(i7:Int)<((p0.length:Nat):Int)) .nil) .nil ?_
     obtain ⟨hc9,H⟩:=zag H
     refine W.region env [] [] rfl rfl rfl (.cons (⟨by first|rfl|(simp;done)|omega|(simp;omega),by have:=hc9;first|simpa using this|(unfold room at this ⊢;simp at this ⊢;omega)⟩) .nil) .nil (At.keep (ts:=[6,25,26,27]) (ids:=[25900]) rfl rfl ?_)
     refine At.zbJ (.cons (y:=bufL 3 1 zae (s7++(p0.getD i7 default))) (BSim.seg (Seg.push (Seg.refl zae _) (Seg.refl zae (p0.getD i7 default)))) .nil) ?_
     refine At.inb ?_
     refine At.zai ?_
     refine W.region env [] [] rfl rfl rfl (.cons (by unfold inI;have:=hn7;(try unfold maxLen at this);omega) .nil) .nil (At.keep (ts:=[6,25,26,27]) (ids:=[25900]) rfl rfl ?_)
     refine At.zaE (At.keep (ts:=[6,25,26,27]) (ids:=[25900]) rfl rfl ?_)
     exact At.conv (.cons .qb (.cons .q (.cons .qi (.cons .qi .nil)))) (.cons .q .nil) (hK7 hi7 (s7++(p0.getD i7 default)) H)
   · have H:=H2 (by have:=of_decide_eq_false hb8;omega)
     refine W.exit ?_
     refine At.xthen ?_
     refine At.xthen ?_
     refine At.xhere ?_
     refine At.zai ?_
     refine W.rg env [2] [25900] ?_
     refine W.ret ?_
     cases H
     exact At.ret env.ty rfl rfl (fun q hq=>by cases hq;exact (by first|rfl|(simp;done)|omega|(simp;omega))) (.refl _) hval
theorem zgP (p0:Range) (p1:Int):Ctr Tryz.prog 122 [.agg [.int .i64 (p0.Lo),.int .i64 (p0.Hi)],.int .i64 (p1)] (.int .i64 ((zcU p0 p1))):=by
 obtain ⟨r,H⟩:∃ r,zcU p0 p1=r:=⟨_,rfl⟩
 rw [H]
 unfold zcU at H
 refine Ctr.zao (N:=15) Tryz.func122 (by kernel_rfl) (c:=_) rfl Tryz.ntmps122 rfl (fun w0 h0 hval=>?_)
 refine W.rg env [1,2] [2] ?_
 refine W.seq ?_
 refine W.block ?_
 refine W.rg env [1,2,5] [2] ?_
 refine W.cond rfl (fun hb1=>?_) (fun hb1=>?_)
 · have H:=zal H hb1
   refine W.rg env [4] [] ?_
   refine W.ret ?_
   refine At.rinb ?_
   refine At.rthen ?_
   cases H
   exact At.ret env.ty rfl rfl nofun (.refl _) hval
 · have H:=zaj H hb1
   refine W.rg env [10] [] ?_
   refine W.cond rfl (fun hb2=>?_) (fun hb2=>?_)
   · have H:=zal H hb2
     refine W.rg env [4] [] ?_
     refine W.ret ?_
     refine At.rinb ?_
     refine At.rthen ?_
     cases H
     exact At.ret env.ty rfl rfl nofun (.refl _) hval
   · have H:=zaj H hb2
     refine W.skip ?_
     refine At.inb ?_
     refine At.zai ?_
     refine W.rg env [4] [] ?_
     refine W.ret ?_
     cases H
     exact At.ret env.ty rfl rfl nofun (.refl _) hval
theorem zgb (p0:mantle_lot) (p1:(List Int)) (p2:Int) (p3:Bool) {r:Bool} (H:zdn p0 p1 p2 p3=some r):Ctr Tryz.prog 127 [.agg [roL 3 zac p0.closet.w.Batches,roL 6 zaa p0.closet.w.Mantles,roL 7 zaf p0.closet.w.Burns,roL 6 zab p0.closet.w.Looks,.int .i64 (p0.closet.known),romL (.agg #[.slice none 0 0,.slice none 0 0,.slice none 0 0,.slice none 0 0,.slice none 0 0,.slice none 0 0]) (fun (x:mantle_coat)=>.agg [roL 3 zac x.w.Batches,roL 6 zaa x.w.Mantles,roL 7 zaf x.w.Burns,roL 6 zab x.w.Looks,roL 1 zae x.burns,roL 2 zad x.sights]) p0.closet.coats,roL 2 zaq p0.closet.lives,roL 1 zae p0.lamps,roL 1 zae p0.mantles,.int .i64 (p0.night)],roL 1 zae p1,.int .i64 (p2),.bool (p3)] (.bool (r)):=by
 unfold zdn at H
 refine Ctr.zao (N:=29) Tryz.func127 (by kernel_rfl) (c:=_) rfl Tryz.ntmps127 rfl (fun w0 h0 hval=>?_)
 refine W.rg env [1,2,3,4] [4] ?_
 refine W.seq ?_
 obtain ⟨y1,hy2,H⟩:=zah H
 refine W.region env [] [⟨.agg [roL 3 zac y1.closet.w.Batches,roL 6 zaa y1.closet.w.Mantles,roL 7 zaf y1.closet.w.Burns,roL 6 zab y1.closet.w.Looks,.int .i64 (y1.closet.known),romL (.agg #[.slice none 0 0,.slice none 0 0,.slice none 0 0,.slice none 0 0,.slice none 0 0,.slice none 0 0]) (fun (x:mantle_coat)=>.agg [roL 3 zac x.w.Batches,roL 6 zaa x.w.Mantles,roL 7 zaf x.w.Burns,roL 6 zab x.w.Looks,roL 1 zae x.burns,roL 2 zad x.sights]) y1.closet.coats,roL 2 zaq y1.closet.lives,roL 1 zae y1.lamps,roL 1 zae y1.mantles,.int .i64 (y1.night)],[],0,[]⟩] rfl rfl rfl .nil (.free (zdc p0 p1 p3 hy2) .nil) (At.keep (ts:=[2,3,9]) (ids:=[9]) rfl rfl ?_)
 refine At.zai ?_
 refine W.seq ?_
 refine W.seq ?_
 obtain ⟨y3,hy4,H⟩:=zah H
 refine W.region env [] [⟨.bool (y3),[],0,[]⟩] rfl rfl rfl .nil (.free (zbf y1.closet hy4) .nil) (At.keep (ts:=[2,3,9,17]) (ids:=[9]) rfl rfl ?_)
 refine At.zai ?_
 refine W.cond rfl (fun hb5=>?_) (fun hb5=>?_)
 · have H:=zal H hb5
   refine W.rg env [8] [] ?_
   refine W.ret ?_
   refine At.rthen ?_
   cases H
   exact At.ret env.ty rfl rfl nofun (.refl _) hval
 · have H:=zaj H hb5
   refine W.skip ?_
   refine At.zai ?_
   refine W.seq ?_
   refine W.rg env [2,9,18] [9] ?_
   refine W.cond rfl (fun hb6=>?_) (fun hb6=>?_)
   · have H:=zal H hb6
     refine W.seq ?_
     obtain ⟨y7,hy8,H⟩:=zah H
     refine W.region env [] [⟨.agg [.int .i64 (y7.Lo),.int .i64 (y7.Hi)],[],0,[]⟩,⟨.int .i64 ((zcU y7 p2)),[],0,[]⟩] rfl rfl rfl .nil (.free (zdb y1 hy8) (.free (zgP y7 p2) .nil)) (At.keep (ts:=[8]) (ids:=[]) rfl rfl ?_)
     refine At.zai ?_
     refine W.ret ?_
     refine At.rthen ?_
     cases H
     exact At.ret env.ty rfl rfl nofun (.refl _) hval
   · have H:=zaj H hb6
     refine W.skip ?_
     refine At.zai ?_
     refine W.seq ?_
     obtain ⟨y9,hy10,H⟩:=zah H
     refine W.region env [] [⟨.agg [.int .i64 (y9.Lo),.int .i64 (y9.Hi)],[],0,[]⟩,⟨.int .i64 ((zcU y9 p2)),[],0,[]⟩] rfl rfl rfl .nil (.free (zdb y1 hy10) (.free (zgP y9 p2) .nil)) (At.keep (ts:=[8]) (ids:=[]) rfl rfl ?_)
     refine At.zai ?_
     refine W.ret ?_
     cases H
     exact At.ret env.ty rfl rfl nofun (.refl _) hval
theorem zfD (fuel:Nat) (p0:mantle_lot) (p1:Int) (p2:Bool) (post:((List Int)×Bool)→Option Unit) {r:Unit} (H:zc8 fuel p0 p1 p2 post=some r):CtrN Tryz.prog 123 [.agg [roL 3 zac p0.closet.w.Batches,roL 6 zaa p0.closet.w.Mantles,roL 7 zaf p0.closet.w.Burns,roL 6 zab p0.closet.w.Looks,.int .i64 (p0.closet.known),romL (.agg #[.slice none 0 0,.slice none 0 0,.slice none 0 0,.slice none 0 0,.slice none 0 0,.slice none 0 0]) (fun (x:mantle_coat)=>.agg [roL 3 zac x.w.Batches,roL 6 zaa x.w.Mantles,roL 7 zaf x.w.Burns,roL 6 zab x.w.Looks,roL 1 zae x.burns,roL 2 zad x.sights]) p0.closet.coats,roL 2 zaq p0.closet.lives,roL 1 zae p0.lamps,roL 1 zae p0.mantles,.int .i64 (p0.night)],.int .i64 (p1),.bool (p2)] (fun (y:((List Int)×Bool))=>.tup [roL 1 zae y.1,.bool (y.2)]) (fun y=>post y=some r):=by
 unfold zc8 at H
 refine CtrN.zao (N:=107) Tryz.func123 (by kernel_rfl) (c:=_) rfl Tryz.ntmps123 rfl (fun w0 h0 hval=>?_)
 refine W.rg env [1,2,3] [3] ?_
 refine W.seq ?_
 refine W.region env [] [] rfl rfl rfl .nil .nil (At.keep (ts:=[1,2,3,8]) (ids:=[3,22]) rfl rfl ?_)
 refine At.zbJ (.cons (.refl _) (.cons (y:=mapL (.slice none 0 0) (fun (x:(List Int))=>roL 1 zae x) ((Mp.empty:Mp (List Int)).set 0 [])) (BSim.zob (f:=(fun (x:(List Int))=>roL 1 zae x)) (zhc.set (zhc.empty (f:=(fun (x:(List Int))=>roL 1 zae x)) (Sim.nil _ _)) [] (Sim.nil _ _))) .nil)) ?_
 refine At.zai ?_
 refine W.seq ?_
 refine W.rg env [1,2,3,8,28,29] [3,22] ?_
 refine W.block ?_
 refine At.zmb 22 (K:=[3]) (ts:=[1,2,3,8,28,29]) rfl rfl rfl rfl (fun _ h=>h) ?_
 refine At.keep (ts:=[1,2,3,8,28,29]) (ids:=[3]) rfl rfl ?_
 obtain ⟨hn1,H⟩:=zag H
 refine W.zax H (fun i1 (s1:(Mp (List Int)))=>[(1,.int .i64 (p1)),(2,.bool (p2)),(3,.lp 3 0),(8,romL (.slice none 0 0) (fun (x:(List Int))=>roL 1 zae x) s1),(28,.int .i64 (((p0.closet.w.Batches.length:Nat):Int))),(29,.int .i64 ((i1:Int)))]) (fun i1 (s1:(Mp (List Int)))=>[(3,.cells [roL 3 zac p0.closet.w.Batches,roL 6 zaa p0.closet.w.Mantles,roL 7 zaf p0.closet.w.Burns,roL 6 zab p0.closet.w.Looks,.int .i64 (p0.closet.known),romL (.agg #[.slice none 0 0,.slice none 0 0,.slice none 0 0,.slice none 0 0,.slice none 0 0,.slice none 0 0]) (fun (x:mantle_coat)=>.agg [roL 3 zac x.w.Batches,roL 6 zaa x.w.Mantles,roL 7 zaf x.w.Burns,roL 6 zab x.w.Looks,roL 1 zae x.burns,roL 2 zad x.sights]) p0.closet.coats,roL 2 zaq p0.closet.lives,roL 1 zae p0.lamps,roL 1 zae p0.mantles,.int .i64 (p0.night)])]) (.cons .qi (.cons .q (.cons .q (.cons .q (.cons .qi (.cons .qi .nil)))))) (.cons .q .nil) (fun k1 i1 s1 hle1 H1 H2 K0 hK1=>?_)
 refine W.rg env [1,2,3,8,28,29,30] [3] ?_
 refine W.seq ?_
 refine W.cond rfl (fun hb2=>?_) (fun hb2=>?_)
 · have hi1:i1<p0.closet.w.Batches.length:=by have:=of_decide_eq_true hb2;omega
   have H:=H1 hi1
   refine W.skip ?_
   refine At.zai ?_
   refine W.seq ?_
   refine W.block ?_
   refine W.rg env [1,2,3,8,9,28,29] [3] ?_
   refine W.seq ?_
   obtain ⟨y3,hy4,H⟩:=zah H
   refine W.region env [] [⟨roL 1 zcl y3,[],0,[]⟩] rfl rfl rfl .nil (.free (zg8 p0 (i1:Int) p2 hy4) .nil) (At.keep (ts:=[1,2,3,8,10,28,29]) (ids:=[3]) rfl rfl ?_)
   refine At.zai ?_
   refine W.seq ?_
   refine W.region env [] [] rfl rfl rfl .nil .nil (At.keep (ts:=[1,2,3,8,10,11,28,29]) (ids:=[3,36]) rfl rfl ?_)
   refine At.zbJ (.cons (.refl _) (.cons (y:=mapL (.slice none 0 0) (fun (x:(List Int))=>roL 1 zae x) (Mp.empty:Mp (List Int))) (BSim.zob (f:=(fun (x:(List Int))=>roL 1 zae x)) (zhc.empty (f:=(fun (x:(List Int))=>roL 1 zae x)) (Sim.nil _ _))) .nil)) ?_
   refine At.zai ?_
   refine W.seq ?_
   refine W.rg env [1,2,3,10,11,28,29,38] [3,36,38] ?_
   refine W.block ?_
   obtain ⟨hok5,H⟩:=zag H
   refine At.keep (ts:=[1,2,3,10,11,28,29,38]) (ids:=[38,3,36]) rfl rfl ?_
   refine At.zkn 38 rfl (fun left hleft=>?_)
   refine At.keep (ts:=[1,2,3,10,11,28,29,38]) (ids:=[38,3,36]) rfl rfl ?_
   refine W.zep H (Mp.perm hok5 hleft) hleft.2.1 38 (fun k=>(fun (x:(List Int))=>roL 1 zae x) ((s1.get k).getD default)) (fun (s5:(Mp (List Int)))=>[(1,.int .i64 (p1)),(2,.bool (p2)),(3,.lp 3 0),(10,roL 1 zcl y3),(11,.mp 36),(28,.int .i64 (((p0.closet.w.Batches.length:Nat):Int))),(29,.int .i64 ((i1:Int))),(38,.lp 38 0)]) (fun (s5:(Mp (List Int)))=>[(3,.cells [roL 3 zac p0.closet.w.Batches,roL 6 zaa p0.closet.w.Mantles,roL 7 zaf p0.closet.w.Burns,roL 6 zab p0.closet.w.Looks,.int .i64 (p0.closet.known),romL (.agg #[.slice none 0 0,.slice none 0 0,.slice none 0 0,.slice none 0 0,.slice none 0 0,.slice none 0 0]) (fun (x:mantle_coat)=>.agg [roL 3 zac x.w.Batches,roL 6 zaa x.w.Mantles,roL 7 zaf x.w.Burns,roL 6 zab x.w.Looks,roL 1 zae x.burns,roL 2 zad x.sights]) p0.closet.coats,roL 2 zaq p0.closet.lives,roL 1 zae p0.lamps,roL 1 zae p0.mantles,.int .i64 (p0.night)]),(36,mapL (.slice none 0 0) (fun (x:(List Int))=>roL 1 zae x) s5)]) (.cons .qi (.cons .q (.cons .q (.cons .q (.cons .q (.cons .qi (.cons .qi (.cons .q .nil)))))))) (.cons (.refl _) (.cons .q (.cons .q .nil))) (fun left s5 HJ5 hsub5 K hK5=>?_)
   refine W.seq ?_
   refine W.next rfl rfl rfl rfl rfl rfl rfl rfl rfl rfl rfl (fun hz=>?_) (fun q5 left2 hp5=>?_)
   · subst hz
     have H:k1 s5=some r:=HJ5
     refine At.zai ?_
     refine W.seq ?_
     refine W.cond rfl (fun hb18=>by cases hb18) (fun hb18=>?_)
     refine W.exit ?_
     refine At.xthen ?_
     refine At.xthen ?_
     refine At.xhere ?_
     refine At.zai ?_
     refine At.zmb 36 (K:=[3]) (ts:=[1,2,3,11,28,29]) rfl rfl rfl rfl (fun _ h=>h) ?_
     refine W.region env [] [] rfl rfl rfl .nil .nil (At.keep (ts:=[1,2,3,8,28,29]) (ids:=[3]) rfl rfl ?_)
     refine At.inb ?_
     refine At.zai ?_
     refine W.region env [] [] rfl rfl rfl (.cons (by unfold inI;have:=hn1;(try unfold maxLen at this);omega) .nil) .nil (At.keep (ts:=[1,2,3,8,28,29]) (ids:=[3]) rfl rfl ?_)
     refine At.zaE (At.keep (ts:=[1,2,3,8,28,29]) (ids:=[3]) rfl rfl ?_)
     exact At.conv (.cons .qi (.cons .q (.cons .q (.cons .q (.cons .qi (.cons .qi .nil)))))) (.cons .q .nil) (hK1 hi1 s5 H)
   · have H:=zl4 hp5 HJ5
     refine At.zai ?_
     refine W.seq ?_
     refine W.cond rfl (fun hb6=>?_) (fun hb6=>by cases hb6)
     refine W.skip ?_
     refine At.zai ?_
     refine W.block ?_
     refine W.rg env [1,2,3,10,11,12,13,28,29,38] [3,36,38] ?_
     refine W.rg env [1,2,3,10,11,12,13,28,29,38,44,45,46] [3,36,38] ?_
     refine W.block ?_
     refine At.keep (ts:=[1,2,3,10,11,12,13,28,29,38,44,45,46]) (ids:=[3,36,38]) rfl rfl ?_
     refine W.len (t:=44) rfl (fun (hn7:y3.length≤maxLen)=>?_)
     refine W.zax H (fun i7 (s7:(Mp (List Int)))=>[(1,.int .i64 (p1)),(2,.bool (p2)),(3,.lp 3 0),(10,roL 1 zcl y3),(11,.mp 36),(12,.int .i64 (q5)),(13,roL 1 zae ((s1.get q5).getD default)),(28,.int .i64 (((p0.closet.w.Batches.length:Nat):Int))),(29,.int .i64 ((i1:Int))),(38,.lp 38 0),(44,roL 1 zcl y3),(45,.int .i64 (((y3.length:Nat):Int))),(46,.int .i64 ((i7:Int)))]) (fun i7 (s7:(Mp (List Int)))=>[(3,.cells [roL 3 zac p0.closet.w.Batches,roL 6 zaa p0.closet.w.Mantles,roL 7 zaf p0.closet.w.Burns,roL 6 zab p0.closet.w.Looks,.int .i64 (p0.closet.known),romL (.agg #[.slice none 0 0,.slice none 0 0,.slice none 0 0,.slice none 0 0,.slice none 0 0,.slice none 0 0]) (fun (x:mantle_coat)=>.agg [roL 3 zac x.w.Batches,roL 6 zaa x.w.Mantles,roL 7 zaf x.w.Burns,roL 6 zab x.w.Looks,roL 1 zae x.burns,roL 2 zad x.sights]) p0.closet.coats,roL 2 zaq p0.closet.lives,roL 1 zae p0.lamps,roL 1 zae p0.mantles,.int .i64 (p0.night)]),(36,mapL (.slice none 0 0) (fun (x:(List Int))=>roL 1 zae x) s7),(38,.iter (fun k=>(fun (x:(List Int))=>roL 1 zae x) ((s1.get k).getD default)) (some q5) (fun l=>l=left2))]) (.cons .qi (.cons .q (.cons .q (.cons .q (.cons .q (.cons .qi (.cons .q (.cons .qi (.cons .qi (.cons .q (.cons .q (.cons .qi (.cons .qi .nil))))))))))))) (.cons .q (.cons .q (.cons .q .nil))) (fun k7 i7 s7 hle7 H1 H2 K0 hK7=>?_)
     refine W.rg env [1,2,3,10,11,12,13,28,29,38,44,45,46,47] [3,36,38] ?_
     refine W.seq ?_
     refine W.cond rfl (fun hb8=>?_) (fun hb8=>?_)
     · have hi7:i7<y3.length:=by have:=of_decide_eq_true hb8;omega
       have H:=H1 hi7
       refine W.skip ?_
       refine At.zai ?_
       refine W.seq ?_
       refine W.block ?_
       refine W.sr env [] [] [1,2,3,10,11,12,13,15,28,29,38,44,45,46] [3,36,38] rfl rfl rfl (.cons (⟨by omega,by omega⟩:0≤(i7:Int)∧(i7:Int)<((y3.length:Nat):Int)) .nil) .nil ?_
       refine W.seq ?_
       obtain ⟨y9,hy10,H⟩:=zah H
       refine W.region env [] [⟨roL 1 zae y9,[],0,[]⟩] rfl rfl rfl .nil (.free (Ctr.sim (.cons (Sim.lit (f:=zcl) ([((s1.get q5).getD default),(y3.getD i7 default)]:List (List Int)) rfl rfl (fun _=>rfl)) .nil) (zg6 ([((s1.get q5).getD default),(y3.getD i7 default)]:List (List Int)) hy10)) .nil) (At.keep (ts:=[1,2,3,10,11,12,13,15,16,28,29,38,44,45,46]) (ids:=[3,36,38]) rfl rfl ?_)
       refine At.zai ?_
       obtain ⟨hc11,H⟩:=zag H
       refine W.sr env [] [] [1,2,3,10,11,12,13,15,16,17,18,28,29,38,44,45,46] [3,36,38] rfl rfl rfl (.cons hc11 (.cons rfl .nil)) .nil ?_
       refine W.seq ?_
       obtain ⟨y12,hy13,H⟩:=zah H
       obtain ⟨y14,hy15,H⟩:=zah H
       refine W.region env [] [⟨.int .i64 (y12),[],0,[]⟩,⟨.int .i64 (y14),[],0,[]⟩] rfl rfl (by kernel_rfl) (.cons id (.cons id (.cons id (.cons id (.cons id (.cons id (.cons id (.cons id (.cons (fun h=>by rw [h];rfl) .nil))))))))) (.on (fun hW=>zcY p0 y9 p2 (zal hy13 hW)) (.on (fun hW=>zcY p0 ((s7.get (q5+(((y3.getD i7 default).length:Nat):Int))).getD default) p2 (zal hy15 hW)) .nil)) (At.keep (ts:=[1,2,3,10,11,12,13,15,16,28,29,38,44,45,46,75]) (ids:=[3,36,38]) rfl rfl ?_)
       refine At.zai ?_
       refine W.cond rfl (fun hb16=>?_) (fun hb16=>?_)
       · have H:=zal H hb16
         obtain ⟨hc17,H⟩:=zag H
         refine W.region env [] [] rfl rfl rfl (.cons hc17 .nil) .nil (At.keep (ts:=[1,2,3,10,11,12,13,28,29,38,44,45,46]) (ids:=[3,36,38]) rfl rfl ?_)
         refine At.zbJ (.cons (.refl _) (.cons (y:=mapL (.slice none 0 0) (fun (x:(List Int))=>roL 1 zae x) (s7.set (q5+(((y3.getD i7 default).length:Nat):Int)) y9)) (BSim.mseg (f:=(fun (x:(List Int))=>roL 1 zae x)) (MSeg.set (MSeg.refl (fun (x:(List Int))=>roL 1 zae x) _) y9 rfl)) (.cons (.refl _) .nil))) ?_
         refine At.inb ?_
         refine At.zai ?_
         refine W.region env [] [] rfl rfl rfl (.cons (by unfold inI;have:=hn7;(try unfold maxLen at this);omega) .nil) .nil (At.keep (ts:=[1,2,3,10,11,12,13,28,29,38,44,45,46]) (ids:=[3,36,38]) rfl rfl ?_)
         refine At.zaE (At.keep (ts:=[1,2,3,10,11,12,13,28,29,38,44,45,46]) (ids:=[3,36,38]) rfl rfl ?_)
         exact At.conv (.cons .qi (.cons .q (.cons .q (.cons .q (.cons .q (.cons .qi (.cons .q (.cons .qi (.cons .qi (.cons .q (.cons .q (.cons .qi (.cons .qi .nil))))))))))))) (.cons .q (.cons .q (.cons .q .nil))) (hK7 hi7 (s7.set (q5+(((y3.getD i7 default).length:Nat):Int)) y9) H)
       · have H:=zaj H hb16
         refine W.skip ?_
         refine At.inb ?_
         refine At.zai ?_
         refine W.region env [] [] rfl rfl rfl (.cons (by unfold inI;have:=hn7;(try unfold maxLen at this);omega) .nil) .nil (At.keep (ts:=[1,2,3,10,11,12,13,28,29,38,44,45,46]) (ids:=[3,36,38]) rfl rfl ?_)
         refine At.zaE (At.keep (ts:=[1,2,3,10,11,12,13,28,29,38,44,45,46]) (ids:=[3,36,38]) rfl rfl ?_)
         exact At.conv (.cons .qi (.cons .q (.cons .q (.cons .q (.cons .q (.cons .qi (.cons .q (.cons .qi (.cons .qi (.cons .q (.cons .q (.cons .qi (.cons .qi .nil))))))))))))) (.cons .q (.cons .q (.cons .q .nil))) (hK7 hi7 s7 H)
     · have H:=H2 (by have:=of_decide_eq_false hb8;omega)
       refine W.exit ?_
       refine At.xthen ?_
       refine At.xthen ?_
       refine At.xhere ?_
       refine At.inb ?_
       refine At.zaE (At.keep (ts:=[1,2,3,10,11,28,29,38]) (ids:=[38,3,36]) rfl rfl ?_)
       exact At.conv (.cons .qi (.cons .q (.cons .q (.cons .q (.cons .q (.cons .qi (.cons .qi (.cons .q .nil)))))))) (.cons (.refl _) (.cons .q (.cons .q .nil))) (hK5 _ left2 s7 hp5 H)
 · have H:=H2 (by have:=of_decide_eq_false hb2;omega)
   refine W.exit ?_
   refine At.xthen ?_
   refine At.xthen ?_
   refine At.xhere ?_
   refine At.zai ?_
   refine W.seq ?_
   refine W.rg env [1,2,3,8,19] [3] ?_
   refine W.block ?_
   refine At.keep (ts:=[1,2,3,8,19]) (ids:=[3]) rfl rfl ?_
   refine W.loopGo H (fun (s19:Int)=>[(1,.int .i64 (p1)),(2,.bool (p2)),(3,.lp 3 0),(8,romL (.slice none 0 0) (fun (x:(List Int))=>roL 1 zae x) s1),(19,.int .i64 (s19))]) (fun (s19:Int)=>[(3,.cells [roL 3 zac p0.closet.w.Batches,roL 6 zaa p0.closet.w.Mantles,roL 7 zaf p0.closet.w.Burns,roL 6 zab p0.closet.w.Looks,.int .i64 (p0.closet.known),romL (.agg #[.slice none 0 0,.slice none 0 0,.slice none 0 0,.slice none 0 0,.slice none 0 0,.slice none 0 0]) (fun (x:mantle_coat)=>.agg [roL 3 zac x.w.Batches,roL 6 zaa x.w.Mantles,roL 7 zaf x.w.Burns,roL 6 zab x.w.Looks,roL 1 zae x.burns,roL 2 zad x.sights]) p0.closet.coats,roL 2 zaq p0.closet.lives,roL 1 zae p0.lamps,roL 1 zae p0.mantles,.int .i64 (p0.night)])]) (.cons .qi (.cons .q (.cons .q (.cons .q (.cons .qi .nil))))) (.cons .q .nil) (fun k19 s19 H K0 hK19=>?_)
   refine W.seq ?_
   refine W.rg env [1,2,3,8,19,89] [3] ?_
   refine W.cond rfl (fun hb20=>?_) (fun hb20=>?_)
   · have H:=zal H hb20
     refine W.skip ?_
     refine At.zai ?_
     refine W.seq ?_
     refine W.block ?_
     refine W.sr env [] [] [1,2,3,8,19,20,21] [3] rfl rfl rfl (.cons rfl .nil) .nil ?_
     refine W.seq ?_
     obtain ⟨y21,hy22,H⟩:=zah H
     refine W.region env [] [⟨.bool (y21),[],0,[]⟩] rfl rfl rfl (.cons id (.cons id (.cons id (.cons id (.cons id .nil))))) (.on (fun hW=>zgb p0 ((s1.get s19).getD default) p1 p2 (zal hy22 hW)) .nil) (At.keep (ts:=[1,2,3,8,19,20,105]) (ids:=[3]) rfl rfl ?_)
     refine At.zai ?_
     refine W.cond rfl (fun hb23=>?_) (fun hb23=>?_)
     · have H:=zal H hb23
       refine W.rg env [6,7] [] ?_
       refine W.ret ?_
       refine At.rinb ?_
       refine At.rthen ?_
       refine At.rthen ?_
       refine At.rinb ?_
       refine At.rthen ?_
       exact At.retN env.ty (((s1.get s19).getD default),true) H rfl rfl nofun (.refl _) hval
     · have H:=zaj H hb23
       refine W.skip ?_
       refine At.inb ?_
       refine At.zai ?_
       obtain ⟨hc24,H⟩:=zag H
       refine W.region env [] [] rfl rfl rfl (.cons hc24 .nil) .nil (At.keep (ts:=[1,2,3,8,19]) (ids:=[3]) rfl rfl ?_)
       refine At.zaE (At.keep (ts:=[1,2,3,8,19]) (ids:=[3]) rfl rfl ?_)
       exact At.conv (.cons .qi (.cons .q (.cons .q (.cons .q (.cons .qi .nil))))) (.cons .q .nil) (hK19 (s19+1) H)
   · have H:=zaj H hb20
     refine W.exit ?_
     refine At.xthen ?_
     refine At.xthen ?_
     refine At.xhere ?_
     refine At.zai ?_
     refine W.rg env [6,7] [] ?_
     refine W.ret ?_
     exact At.retN env.ty ([],false) H rfl rfl nofun (Sim.tupL (.cons (Sim.nil _ _) (.cons (.refl _) .nil))) hval
theorem zhs (p0:List Int) {r:List Int} (H:zc2 p0=some r):CtrO Tryz.prog 120 [.buf 90000 p0.length] [(90000,bufL 3 1 zae p0)] (.tup []) [(90000,bufL 3 1 zae r)]:=
 zpf (Go.Av.enters_of Tryz.func120 (by kernel_rfl) (c:=_) rfl) (Any.slices_Sort_int zk0) (Any.slices_Sort_int_none zk0) 3 p0 H
theorem zhZ (fuel:Nat) (p0:Wear) (p1:(List Int)) (p2:Int) (p3:Int) (p4:Int) (p5:Bool) (post:((List Int)×Int)→Option Unit) {r:Unit} (H:zer fuel p0 p1 p2 p3 p4 p5 post=some r):CtrN Tryz.prog 53 [.agg [roL 3 zac p0.Batches,roL 6 zaa p0.Mantles,roL 7 zaf p0.Burns,roL 6 zab p0.Looks],roL 1 zae p1,.int .i64 (p2),.int .i64 (p3),.int .i64 (p4),.bool (p5)] (fun (y:((List Int)×Int))=>.tup [roL 1 zae y.1,.int .i64 (y.2)]) (fun y=>post y=some r):=by
 unfold zer at H
 refine CtrN.zao (N:=59) Tryz.func53 (by kernel_rfl) (c:=_) rfl Tryz.ntmps53 rfl (fun w0 h0 hval=>?_)
 refine W.rg env [1,2,3,4,5,6] [6] ?_
 refine W.seq ?_
 obtain ⟨y1,hy2,H⟩:=zah H
 refine W.region env [] [⟨.tup [.agg [roL 3 zac y1.1.closet.w.Batches,roL 6 zaa y1.1.closet.w.Mantles,roL 7 zaf y1.1.closet.w.Burns,roL 6 zab y1.1.closet.w.Looks,.int .i64 (y1.1.closet.known),romL (.agg #[.slice none 0 0,.slice none 0 0,.slice none 0 0,.slice none 0 0,.slice none 0 0,.slice none 0 0]) (fun (x:mantle_coat)=>.agg [roL 3 zac x.w.Batches,roL 6 zaa x.w.Mantles,roL 7 zaf x.w.Burns,roL 6 zab x.w.Looks,roL 1 zae x.burns,roL 2 zad x.sights]) y1.1.closet.coats,roL 2 zaq y1.1.closet.lives,roL 1 zae y1.1.lamps,roL 1 zae y1.1.mantles,.int .i64 (y1.1.night)],.int .i64 (y1.2)],[],0,[]⟩] rfl rfl rfl .nil (.free (ze7 fuel p0 p1 p2 p3 p4 hy2) .nil) (At.keep (ts:=[1,4,5,14,15]) (ids:=[14]) rfl rfl ?_)
 refine At.zai ?_
 refine W.seq ?_
 refine W.rg env [1,4,5,14,15,31] [14] ?_
 refine W.cond rfl (fun hb3=>?_) (fun hb3=>?_)
 · have H:=zal H hb3
   refine W.rg env [12,13] [] ?_
   refine W.ret ?_
   refine At.rthen ?_
   exact At.retN env.ty ([],y1.2) H rfl rfl nofun (Sim.tupL (.cons (Sim.nil _ _) (.cons (.refl _) .nil))) hval
 · have H:=zaj H hb3
   refine W.skip ?_
   refine At.zai ?_
   refine W.seq ?_
   refine W.zn2 env [] 3 [] [] rfl rfl rfl rfl rfl rfl (fun _=>rfl) rfl .nil .nil (fun _=>.nil) (fun _=>.nil) (fun _=>rfl) (zfD fuel y1.1 p4 p5 _ H) (fun y4 H=>?_)
   refine At.keep (ts:=[1,16,17]) (ids:=[]) rfl rfl ?_
   refine At.zai ?_
   refine W.seq ?_
   refine W.rg env [1,16,41] [] ?_
   refine W.cond rfl (fun hb5=>?_) (fun hb5=>?_)
   · have H:=zal H hb5
     refine W.rg env [12,13] [] ?_
     refine W.ret ?_
     refine At.rthen ?_
     exact At.retN env.ty ([],3) H rfl rfl nofun (Sim.tupL (.cons (Sim.nil _ _) (.cons (.refl _) .nil))) hval
   · have H:=zaj H hb5
     refine W.skip ?_
     refine At.zai ?_
     refine W.rg env [1,16,18] [] ?_
     refine W.seq ?_
     refine W.rg env [1,18,42,43,44] [] ?_
     refine W.block ?_
     refine At.zfR 18 518 3 1 (e:=fun i=>zae (([]:List Int).getD i default)) rfl rfl ?_
     refine At.keep (ts:=[1,18,42,43,44]) (ids:=[518]) rfl rfl ?_
     refine W.len (t:=42) rfl (fun (hn6:y4.1.length≤maxLen)=>?_)
     refine W.zax H (fun i6 (s6:(List Int))=>[(1,roL 1 zae p1),(18,.buf 518 (s6).length),(42,roL 1 zae y4.1),(43,.int .i64 (((y4.1.length:Nat):Int))),(44,.int .i64 ((i6:Int)))]) (fun i6 (s6:(List Int))=>[(518,bufL 3 1 zae s6)]) (.cons .q (.cons .qb (.cons .q (.cons .qi (.cons .qi .nil))))) (.cons .q .nil) (fun k6 i6 s6 hle6 H1 H2 K0 hK6=>?_)
     refine W.rg env [1,18,42,43,44,45] [518] ?_
     refine W.seq ?_
     refine W.cond rfl (fun hb7=>?_) (fun hb7=>?_)
     · have hi6:i6<y4.1.length:=by have:=of_decide_eq_true hb7;omega
       have H:=H1 hi6
       refine W.skip ?_
       refine At.zai ?_
       refine W.seq ?_
       refine W.block ?_
       refine W.sr env [] [] [1,18,20,42,43,44] [518] rfl rfl rfl (.cons (⟨by omega,by omega⟩:0≤(i6:Int)∧(i6:Int)<((y4.1.length:Nat):Int)) .nil) .nil ?_
       obtain ⟨hc8,H⟩:=zag H
       obtain ⟨hc9,H⟩:=zag H
       refine W.region env [] [] rfl rfl rfl (.cons hc8 (.cons (⟨by first|rfl|(simp;done)|omega|(simp;omega),by have:=hc9;first|simpa using this|(unfold room at this ⊢;simp at this ⊢;omega)⟩) .nil)) .nil (At.keep (ts:=[1,18,42,43,44]) (ids:=[518]) rfl rfl ?_)
       refine At.zbJ (.cons (y:=bufL 3 1 zae (s6++([(p1.getD ((y4.1.getD i6 default)).toNat default)]:List Int))) (BSim.seg (Seg.push (Seg.refl zae _) (Seg.lit (f:=zae) (sz:=1) ([(p1.getD ((y4.1.getD i6 default)).toNat default)]:List Int) rfl rfl (fun _=>rfl)))) .nil) ?_
       refine At.inb ?_
       refine At.zai ?_
       refine W.region env [] [] rfl rfl rfl (.cons (by unfold inI;have:=hn6;(try unfold maxLen at this);omega) .nil) .nil (At.keep (ts:=[1,18,42,43,44]) (ids:=[518]) rfl rfl ?_)
       refine At.zaE (At.keep (ts:=[1,18,42,43,44]) (ids:=[518]) rfl rfl ?_)
       exact At.conv (.cons .q (.cons .qb (.cons .q (.cons .qi (.cons .qi .nil))))) (.cons .q .nil) (hK6 hi6 (s6++([(p1.getD ((y4.1.getD i6 default)).toNat default)]:List Int)) H)
     · have H:=H2 (by have:=of_decide_eq_false hb7;omega)
       refine W.exit ?_
       refine At.xthen ?_
       refine At.xthen ?_
       refine At.xhere ?_
       refine At.zai ?_
       refine W.seq ?_
       obtain ⟨y10,hy11,H⟩:=zah H
       obtain ⟨hc12,H⟩:=zag H
       refine W.region env [] [⟨.tup [],[(518,bufL 3 1 zae y10)],0,[518]⟩] rfl rfl (by kernel_rfl) .nil (.free (CtrO.sim (CtrO.ren (zhs s6 hy11) [(90000,518)]) (.cons .qc .nil) (.cons (.refl _) .nil)) .nil) (At.keep (ts:=[18]) (ids:=[518]) rfl rfl ?_)
       refine At.zai ?_
       refine W.rg env [12,13] [518] ?_
       refine W.ret ?_
       exact At.retN env.ty (y10,0) H rfl rfl (fun q hq=>by cases hq;exact (by first|rfl|(simp;done)|omega|(simp;omega))) (.refl _) hval
theorem zd5 (fuel:Nat) (p0:(List Look)) (p1:Look) (p2:Look→Look→Option Int) (p2_g:Nat) (p2_a p2_b:List AV) (p2_h:∀ x0 x1 r,p2 x0 x1=some r→Ctr Tryz.prog p2_g (p2_a++([.agg [.int .i64 (x0.Source),.int .i64 (x0.Lamp),.int .i64 (x0.Night),.bool (x0.Bad),.int .i64 (x0.Known),.int .i64 (x0.Until)],.agg [.int .i64 (x1.Source),.int .i64 (x1.Lamp),.int .i64 (x1.Night),.bool (x1.Bad),.int .i64 (x1.Known),.int .i64 (x1.Until)]]++p2_b)) (.int .i64 (r))) {r:(Int×Bool)} (H:zbT fuel p0 p1 p2=some r):Ctr Tryz.prog 60 [roL 6 zab p0,.agg [.int .i64 (p1.Source),.int .i64 (p1.Lamp),.int .i64 (p1.Night),.bool (p1.Bad),.int .i64 (p1.Known),.int .i64 (p1.Until)],.clo (.func p2_g) p2_a p2_b] (.tup [.int .i64 (r.1),.bool (r.2)]):=by
 unfold zbT at H
 refine Ctr.zao (N:=49) Tryz.func60 (by kernel_rfl) (c:=_) rfl Tryz.ntmps60 rfl (fun w0 h0 hval=>?_)
 refine W.rg env [0,2,4] [4] ?_
 refine W.rg env [0,2,4,8] [4] ?_
 refine W.rg env [0,2,4,8,9,10] [4] ?_
 refine W.seq ?_
 refine W.block ?_
 refine At.keep (ts:=[0,2,4,8,9,10]) (ids:=[4]) rfl rfl ?_
 refine W.loopGo H (fun (s1:Int×Int)=>[(0,roL 6 zab p0),(2,.clo (.func p2_g) p2_a p2_b),(4,.lp 4 0),(8,.int .i64 (((p0.length:Nat):Int))),(9,.int .i64 (s1.2)),(10,.int .i64 (s1.1))]) (fun (s1:Int×Int)=>[(4,.cells [.int .i64 (p1.Source),.int .i64 (p1.Lamp),.int .i64 (p1.Night),.bool (p1.Bad),.int .i64 (p1.Known),.int .i64 (p1.Until)])]) (.cons .q (.cons .q (.cons .q (.cons .qi (.cons .qi (.cons .qi .nil)))))) (.cons .q .nil) (fun k1 s1 H K0 hK1=>?_)
 refine W.seq ?_
 refine W.rg env [0,2,4,8,9,10,17] [4] ?_
 refine W.cond rfl (fun hb2=>?_) (fun hb2=>?_)
 · have H:=zal H hb2
   refine W.skip ?_
   refine At.zai ?_
   refine W.block ?_
   obtain ⟨hc3,H⟩:=zag H
   obtain ⟨hc4,H⟩:=zag H
   obtain ⟨hc5,H⟩:=zag H
   refine W.sr env [] [] [0,2,4,8,9,10,11] [4] rfl rfl rfl (.cons hc3 (.cons hc4 (.cons (by decide) (.cons hc5 .nil)))) .nil ?_
   refine W.seq ?_
   obtain ⟨hc6,H⟩:=zag H
   obtain ⟨y7,hy8,H⟩:=zah H
   refine W.region env [] [⟨.int .i64 (y7),[],0,[]⟩] rfl rfl (by kernel_rfl) (.cons hc6 .nil) (.free (p2_h (p0.getD ((Int.fdiv (s1.2+s1.1) (2 ^ (1:Int).toNat))).toNat default) p1 _ hy8) .nil) (At.keep (ts:=[0,2,4,8,9,10,11,31]) (ids:=[4]) rfl rfl ?_)
   refine At.zai ?_
   refine W.cond rfl (fun hb9=>?_) (fun hb9=>?_)
   · have H:=zal H hb9
     obtain ⟨hc10,H⟩:=zag H
     refine W.region env [] [] rfl rfl rfl (.cons hc10 .nil) .nil (At.keep (ts:=[0,2,4,8,9,10]) (ids:=[4]) rfl rfl ?_)
     refine At.inb ?_
     refine At.zaE (At.keep (ts:=[0,2,4,8,9,10]) (ids:=[4]) rfl rfl ?_)
     exact At.conv (.cons .q (.cons .q (.cons .q (.cons .qi (.cons .qi (.cons .qi .nil)))))) (.cons .q .nil) (hK1 (s1.1,((Int.fdiv (s1.2+s1.1) (2 ^ (1:Int).toNat))+1)) H)
   · have H:=zaj H hb9
     refine W.region env [] [] rfl rfl rfl .nil .nil (At.keep (ts:=[0,2,4,8,9,10]) (ids:=[4]) rfl rfl ?_)
     refine At.inb ?_
     refine At.zaE (At.keep (ts:=[0,2,4,8,9,10]) (ids:=[4]) rfl rfl ?_)
     exact At.conv (.cons .q (.cons .q (.cons .q (.cons .qi (.cons .qi (.cons .qi .nil)))))) (.cons .q .nil) (hK1 ((Int.fdiv (s1.2+s1.1) (2 ^ (1:Int).toNat)),s1.2) H)
 · have H:=zaj H hb2
   refine W.exit ?_
   refine At.xthen ?_
   refine At.xthen ?_
   refine At.xhere ?_
   refine At.zai ?_
   refine W.seq ?_
   obtain ⟨hc11,H⟩:=zag H
   obtain ⟨y12,hy13,H⟩:=zah H
   refine W.region env [] [⟨.int .i64 (y12),[],0,[]⟩] rfl rfl (by kernel_rfl) (.cons hc11 (.cons id (.cons id (.cons id (.cons id (.cons id (.cons id (.cons id (.cons id .nil))))))))) (.on (fun hW=>p2_h (p0.getD (s1.2).toNat default) p1 _ (zal hy13 hW)) .nil) (At.keep (ts:=[6,7]) (ids:=[]) rfl rfl ?_)
   refine At.zai ?_
   refine W.ret ?_
   cases H
   exact At.ret env.ty rfl rfl nofun (.refl _) hval
theorem zh0 (p0:Look) (p1:Look):Ctr Tryz.prog 61 [.agg [.int .i64 (p0.Source),.int .i64 (p0.Lamp),.int .i64 (p0.Night),.bool (p0.Bad),.int .i64 (p0.Known),.int .i64 (p0.Until)],.agg [.int .i64 (p1.Source),.int .i64 (p1.Lamp),.int .i64 (p1.Night),.bool (p1.Bad),.int .i64 (p1.Known),.int .i64 (p1.Until)]] (.int .i64 ((zcV p0 p1))):=by
 obtain ⟨r,H⟩:∃ r,zcV p0 p1=r:=⟨_,rfl⟩
 rw [H]
 unfold zcV at H
 refine Ctr.zao (N:=10) Tryz.func61 (by kernel_rfl) (c:=_) rfl Tryz.ntmps61 rfl (fun w0 h0 hval=>?_)
 refine W.rg env [2,3] [2,3] ?_
 refine W.sr env [] [⟨.int .i64 ((zbo p0.Source p1.Source)),[],0,[]⟩] [4] [] rfl rfl rfl .nil (.free (ze9 p0.Source p1.Source) .nil) ?_
 refine W.ret ?_
 cases H
 exact At.ret env.ty rfl rfl nofun (.refl _) hval
theorem zgJ (p0:(List Batch)) {r:(List Batch)} (H:zdy p0=some r):Ctr Tryz.prog 63 [roL 3 zac p0] (roL 3 zac r):=by
 unfold zdy at H
 refine Ctr.zao (N:=8) Tryz.func63 (by kernel_rfl) (c:=_) rfl Tryz.ntmps63 rfl (fun w0 h0 hval=>?_)
 refine W.rg env [0] [] ?_
 refine W.seq ?_
 refine W.rg env [0,4] [] ?_
 refine W.zhr rfl (fun hz=>?_) ?_
 · obtain rfl:p0=[]:=List.length_eq_zero_iff.1 hz
   obtain ⟨hc1,H⟩:=zag H
   refine W.rg env [2] [] ?_
   refine W.ret ?_
   refine At.rthen ?_
   cases H
   exact At.ret env.ty rfl rfl nofun (Sim.nil _ _) hval
 · refine W.skip ?_
   refine At.zai ?_
   refine W.seq ?_
   obtain ⟨hc1,H⟩:=zag H
   refine W.region env [5] [] rfl rfl rfl (.cons (⟨by first|rfl|(simp;done)|omega|(simp;omega),by have:=hc1;first|simpa using this|(unfold room at this ⊢;simp at this ⊢;omega)⟩) .nil) .nil (At.keep (ts:=[2]) (ids:=[5]) rfl rfl ?_)
   refine At.zbJ (.cons (y:=bufL 31 3 zac (([]:List Batch)++p0)) (BSim.seg (Seg.push (Seg.lit (f:=zac) (sz:=3) ([]:List Batch) rfl rfl (fun _=>rfl)) (Seg.refl zac p0))) .nil) ?_
   refine At.zai ?_
   refine W.ret ?_
   cases H
   exact At.ret env.ty rfl rfl (fun q hq=>by cases hq;exact (by first|rfl|(simp;done)|omega|(simp;omega))) (.refl _) hval
theorem zga (p0:(List Mantle)) {r:(List Mantle)} (H:zdk p0=some r):Ctr Tryz.prog 64 [roL 6 zaa p0] (roL 6 zaa r):=by
 unfold zdk at H
 refine Ctr.zao (N:=8) Tryz.func64 (by kernel_rfl) (c:=_) rfl Tryz.ntmps64 rfl (fun w0 h0 hval=>?_)
 refine W.rg env [0] [] ?_
 refine W.seq ?_
 refine W.rg env [0,4] [] ?_
 refine W.zhr rfl (fun hz=>?_) ?_
 · obtain rfl:p0=[]:=List.length_eq_zero_iff.1 hz
   obtain ⟨hc1,H⟩:=zag H
   refine W.rg env [2] [] ?_
   refine W.ret ?_
   refine At.rthen ?_
   cases H
   exact At.ret env.ty rfl rfl nofun (Sim.nil _ _) hval
 · refine W.skip ?_
   refine At.zai ?_
   refine W.seq ?_
   obtain ⟨hc1,H⟩:=zag H
   refine W.region env [5] [] rfl rfl rfl (.cons (⟨by first|rfl|(simp;done)|omega|(simp;omega),by have:=hc1;first|simpa using this|(unfold room at this ⊢;simp at this ⊢;omega)⟩) .nil) .nil (At.keep (ts:=[2]) (ids:=[5]) rfl rfl ?_)
   refine At.zbJ (.cons (y:=bufL 33 6 zaa (([]:List Mantle)++p0)) (BSim.seg (Seg.push (Seg.lit (f:=zaa) (sz:=6) ([]:List Mantle) rfl rfl (fun _=>rfl)) (Seg.refl zaa p0))) .nil) ?_
   refine At.zai ?_
   refine W.ret ?_
   cases H
   exact At.ret env.ty rfl rfl (fun q hq=>by cases hq;exact (by first|rfl|(simp;done)|omega|(simp;omega))) (.refl _) hval
theorem zg7 (p0:(List Burn)) {r:(List Burn)} (H:zdJ p0=some r):Ctr Tryz.prog 65 [roL 7 zaf p0] (roL 7 zaf r):=by
 unfold zdJ at H
 refine Ctr.zao (N:=8) Tryz.func65 (by kernel_rfl) (c:=_) rfl Tryz.ntmps65 rfl (fun w0 h0 hval=>?_)
 refine W.rg env [0] [] ?_
 refine W.seq ?_
 refine W.rg env [0,4] [] ?_
 refine W.zhr rfl (fun hz=>?_) ?_
 · obtain rfl:p0=[]:=List.length_eq_zero_iff.1 hz
   obtain ⟨hc1,H⟩:=zag H
   refine W.rg env [2] [] ?_
   refine W.ret ?_
   refine At.rthen ?_
   cases H
   exact At.ret env.ty rfl rfl nofun (Sim.nil _ _) hval
 · refine W.skip ?_
   refine At.zai ?_
   refine W.seq ?_
   obtain ⟨hc1,H⟩:=zag H
   refine W.region env [5] [] rfl rfl rfl (.cons (⟨by first|rfl|(simp;done)|omega|(simp;omega),by have:=hc1;first|simpa using this|(unfold room at this ⊢;simp at this ⊢;omega)⟩) .nil) .nil (At.keep (ts:=[2]) (ids:=[5]) rfl rfl ?_)
   refine At.zbJ (.cons (y:=bufL 35 7 zaf (([]:List Burn)++p0)) (BSim.seg (Seg.push (Seg.lit (f:=zaf) (sz:=7) ([]:List Burn) rfl rfl (fun _=>rfl)) (Seg.refl zaf p0))) .nil) ?_
   refine At.zai ?_
   refine W.ret ?_
   cases H
   exact At.ret env.ty rfl rfl (fun q hq=>by cases hq;exact (by first|rfl|(simp;done)|omega|(simp;omega))) (.refl _) hval
theorem zmp (p0:(List Look)) {r:(List Look)} (H:zbA p0=some r):Ctr Tryz.prog 67 [roL 6 zab p0] (roL 6 zab r):=by
 unfold zbA at H
 refine Ctr.zao (N:=8) Tryz.func67 (by kernel_rfl) (c:=_) rfl Tryz.ntmps67 rfl (fun w0 h0 hval=>?_)
 refine W.rg env [0] [] ?_
 refine W.seq ?_
 refine W.rg env [0,4] [] ?_
 refine W.zhr rfl (fun hz=>?_) ?_
 · obtain rfl:p0=[]:=List.length_eq_zero_iff.1 hz
   obtain ⟨hc1,H⟩:=zag H
   refine W.rg env [2] [] ?_
   refine W.ret ?_
   refine At.rthen ?_
   cases H
   exact At.ret env.ty rfl rfl nofun (Sim.nil _ _) hval
 · refine W.skip ?_
   refine At.zai ?_
   refine W.seq ?_
   obtain ⟨hc1,H⟩:=zag H
   refine W.region env [5] [] rfl rfl rfl (.cons (⟨by first|rfl|(simp;done)|omega|(simp;omega),by have:=hc1;first|simpa using this|(unfold room at this ⊢;simp at this ⊢;omega)⟩) .nil) .nil (At.keep (ts:=[2]) (ids:=[5]) rfl rfl ?_)
   refine At.zbJ (.cons (y:=bufL 37 6 zab (([]:List Look)++p0)) (BSim.seg (Seg.push (Seg.lit (f:=zab) (sz:=6) ([]:List Look) rfl rfl (fun _=>rfl)) (Seg.refl zab p0))) .nil) ?_
   refine At.zai ?_
   refine W.ret ?_
   cases H
   exact At.ret env.ty rfl rfl (fun q hq=>by cases hq;exact (by first|rfl|(simp;done)|omega|(simp;omega))) (.refl _) hval
theorem zda (p0:(List Look)) {r:(List Look)} (H:zbA p0=some r):CtrO Tryz.prog 67 [roL 6 zab p0] [] (.buf 900 r.length) [(900,bufL 37 6 zab r)]:=by
 unfold zbA at H
 refine CtrO.zao (N:=8) Tryz.func67 (by kernel_rfl) (c:=_) rfl Tryz.ntmps67 rfl (fun w0 h0 ρb hval hdom=>?_)
 refine W.rg env [0] [] ?_
 refine W.seq ?_
 refine W.rg env [0,4] [] ?_
 refine W.zhr rfl (fun hz=>?_) ?_
 · obtain rfl:p0=[]:=List.length_eq_zero_iff.1 hz
   obtain ⟨hc1,H⟩:=zag H
   refine W.rg env [2] [] ?_
   refine W.ret ?_
   refine At.rthen ?_
   cases H
   refine At.zfR 2 800 37 6 (e:=fun i=>zab (([]:List Look).getD i default)) rfl rfl ?_
   exact At.retK env.ty [800] 100 rfl rfl rfl rfl (.cons (.refl _) .nil) (.of_eq (by refine zhx ?_;first|(simp [zbx];done)|omega|(simp [zbx];omega)|rfl)) hval hdom rfl
 · refine W.skip ?_
   refine At.zai ?_
   refine W.seq ?_
   obtain ⟨hc1,H⟩:=zag H
   refine W.region env [5] [] rfl rfl rfl (.cons (⟨by first|rfl|(simp;done)|omega|(simp;omega),by have:=hc1;first|simpa using this|(unfold room at this ⊢;simp at this ⊢;omega)⟩) .nil) .nil (At.keep (ts:=[2]) (ids:=[5]) rfl rfl ?_)
   refine At.zbJ (.cons (y:=bufL 37 6 zab (([]:List Look)++p0)) (BSim.seg (Seg.push (Seg.lit (f:=zab) (sz:=6) ([]:List Look) rfl rfl (fun _=>rfl)) (Seg.refl zab p0))) .nil) ?_
   refine At.zai ?_
   refine W.ret ?_
   cases H
   exact At.retK env.ty [5] 895 rfl rfl rfl rfl (.cons (.refl _) .nil) (.of_eq (by refine zhx ?_;first|(simp [zbx];done)|omega|(simp [zbx];omega)|rfl)) hval hdom rfl
theorem zf9 (p0:List Look) (p1:Int) (p2:Look) {r:List Look} (H:zdw p0 p1 p2=some r):CtrO Tryz.prog 66 [.buf 700 p0.length,.int .i64 p1,.buf 701 1] [(700,bufL 37 6 zab p0),(701,bufL 37 6 zab [p2])] (.buf 900 r.length) [(701,bufL 37 6 zab [p2]),(700,.dead),(900,bufL 37 6 zab r)]:=by
 unfold zdw at H
 obtain ⟨h1,H⟩:=zag H
 obtain ⟨h2,H⟩:=zag H
 cases H
 exact zny (Go.Av.enters_of Tryz.func66 (by kernel_rfl) (c:=_) rfl) zlf zlg (by kernel_rfl) (by kernel_rfl) (env.ty 37 _ rfl) rfl (by decide) zab p0 p1 p2 h1 h2
theorem zjp (fuel:Nat) (p0:Wear) (p1:Look) {r:(Wear×Int)} (H:zfl fuel p0 p1=some r):Ctr Tryz.prog 14 [.agg [roL 3 zac p0.Batches,roL 6 zaa p0.Mantles,roL 7 zaf p0.Burns,roL 6 zab p0.Looks],.agg [.int .i64 (p1.Source),.int .i64 (p1.Lamp),.int .i64 (p1.Night),.bool (p1.Bad),.int .i64 (p1.Known),.int .i64 (p1.Until)]] (.tup [.agg [roL 3 zac r.1.Batches,roL 6 zaa r.1.Mantles,roL 7 zaf r.1.Burns,roL 6 zab r.1.Looks],.int .i64 (r.2)]):=by
 unfold zfl at H
 refine Ctr.zao (N:=56) Tryz.func14 (by kernel_rfl) (c:=_) rfl Tryz.ntmps14 rfl (fun w0 h0 hval=>?_)
 refine W.rg env [2,3,4] [2,3,4] ?_
 refine W.seq ?_
 refine W.seq ?_
 obtain ⟨y1,hy2,H⟩:=zah H
 refine W.region env [] [⟨.int .i64 (y1),[],0,[]⟩] rfl rfl rfl .nil (.free (zdV p0 hy2) .nil) (At.keep (ts:=[2,3,4,6]) (ids:=[2,3,4]) rfl rfl ?_)
 refine At.zai ?_
 refine W.rg env [2,3,4,6,13] [2,3,4] ?_
 refine W.cond rfl (fun hb3=>?_) (fun hb3=>?_)
 · have H:=zal H hb3
   refine W.rg env [4,5] [4] ?_
   refine W.ret ?_
   refine At.rthen ?_
   cases H
   exact At.ret env.ty rfl rfl nofun (Sim.tupL (.cons (Sim.aggL (.cons (Sim.nil _ _) (.cons (Sim.nil _ _) (.cons (Sim.nil _ _) (.cons (Sim.nil _ _) .nil))))) (.cons (.refl _) .nil))) hval
 · have H:=zaj H hb3
   refine W.skip ?_
   refine At.zai ?_
   refine W.seq ?_
   obtain ⟨y4,hy5,H⟩:=zah H
   refine W.region env [] [⟨.tup [.int .i64 (y4.1),.bool (y4.2)],[],0,[]⟩] rfl rfl rfl .nil (.free (zd5 fuel p0.Looks p1 (fun x0 x1=>some (zcV x0 x1)) 61 [] [] (fun x0 x1 r h=>by cases h;exact zh0 x0 x1) hy5) .nil) (At.keep (ts:=[2,3,4,7,8]) (ids:=[2,3,4]) rfl rfl ?_)
   refine At.zai ?_
   refine W.seq ?_
   refine W.block ?_
   refine W.sr env [] [⟨.int .i64 ((zaO p1)),[],0,[]⟩] [2,3,4,7,23] [2,3,4] rfl rfl rfl (.cons (fun h=>by rw [h];rfl) .nil) (.free (zeI p1) .nil) ?_
   refine W.cond rfl (fun hb6=>?_) (fun hb6=>?_)
   · have H:=zal H hb6
     refine W.rg env [4,5] [4] ?_
     refine W.ret ?_
     refine At.rinb ?_
     refine At.rthen ?_
     cases H
     exact At.ret env.ty rfl rfl nofun (Sim.tupL (.cons (Sim.aggL (.cons (Sim.nil _ _) (.cons (Sim.nil _ _) (.cons (Sim.nil _ _) (.cons (Sim.nil _ _) .nil))))) (.cons (.refl _) .nil))) hval
   · have H:=zaj H hb6
     refine W.rg env [2,3,4,7,31] [2,3,4] ?_
     refine W.cond rfl (fun hb7=>?_) (fun hb7=>?_)
     · have H:=zal H hb7
       refine W.rg env [4,5] [4] ?_
       refine W.ret ?_
       refine At.rinb ?_
       refine At.rthen ?_
       cases H
       exact At.ret env.ty rfl rfl nofun (Sim.tupL (.cons (Sim.aggL (.cons (Sim.nil _ _) (.cons (Sim.nil _ _) (.cons (Sim.nil _ _) (.cons (Sim.nil _ _) .nil))))) (.cons (.refl _) .nil))) hval
     · have H:=zaj H hb7
       refine W.skip ?_
       refine At.inb ?_
       refine At.zai ?_
       refine W.seq ?_
       obtain ⟨y8,hy9,H⟩:=zah H
       obtain ⟨y10,hy11,H⟩:=zah H
       obtain ⟨y12,hy13,H⟩:=zah H
       refine W.region env [] [⟨roL 3 zac y8,[],0,[]⟩,⟨roL 6 zaa y10,[],0,[]⟩,⟨roL 7 zaf y12,[],0,[]⟩] rfl rfl (by kernel_rfl) .nil (.free (zgJ p0.Batches hy9) (.free (zga p0.Mantles hy11) (.free (zg7 p0.Burns hy13) .nil))) (At.keep (ts:=[2,3,4,7,9]) (ids:=[2,3,4,9]) rfl rfl ?_)
       refine At.zai ?_
       refine W.seq ?_
       obtain ⟨y14,hy15,H⟩:=zah H
       obtain ⟨y16,hy17,H⟩:=zah H
       refine W.region env [52] [⟨.buf 900 y14.length,[(900,bufL 37 6 zab y14)],50000,[]⟩,⟨.buf 54900 y16.length,[(52,bufL 37 6 zab ([p1]:List Look)),(50900,.dead),(54900,bufL 37 6 zab y16)],0,[50900,52]⟩] rfl rfl (by kernel_rfl) .nil (.free ((Ctr.ofO (zda p0.Looks hy15))) (.free (CtrO.sim (CtrO.ren (zf9 y14 y4.1 p1 hy17) [(700,50900),(701,52),(900,54900)]) (.cons .qc (.cons (.refl _) (.cons .qc .nil))) (.cons (.refl _) (.cons (BSim.seg (Seg.lit (f:=zab) (sz:=6) ([p1]:List Look) rfl rfl (fun _=>rfl))) .nil))) .nil)) (At.keep (ts:=[4,9]) (ids:=[4,9,54900]) rfl rfl ?_)
       refine At.zai ?_
       refine W.rg env [4,5] [4,54900] ?_
       refine W.ret ?_
       cases H
       exact At.ret env.ty rfl rfl (fun q hq=>by cases hq;exact (by first|rfl|(simp;done)|omega|(simp;omega))) (.refl _) hval
theorem zfr (p0:(List Look)) (p1:Look→Option Bool) (p1_g:Nat) (p1_a p1_b:List AV) (p1_h:∀ x0 r,p1 x0=some r→Ctr Tryz.prog p1_g (p1_a++([.agg [.int .i64 (x0.Source),.int .i64 (x0.Lamp),.int .i64 (x0.Night),.bool (x0.Bad),.int .i64 (x0.Known),.int .i64 (x0.Until)]]++p1_b)) (.bool (r))) {r:Int} (H:zcR p0 p1=some r):Ctr Tryz.prog 160 [roL 6 zab p0,.clo (.func p1_g) p1_a p1_b] (.int .i64 (r)):=by
 unfold zcR at H
 refine Ctr.zao (N:=19) Tryz.func160 (by kernel_rfl) (c:=_) rfl Tryz.ntmps160 rfl (fun w0 h0 hval=>?_)
 refine W.rg env [0,1] [] ?_
 refine W.seq ?_
 refine W.rg env [0,1,7,8] [] ?_
 refine W.block ?_
 refine At.keep (ts:=[0,1,7,8]) (ids:=[]) rfl rfl ?_
 refine W.len (t:=0) rfl (fun (hn1:p0.length≤maxLen)=>?_)
 refine W.zax H (fun i1 (s1:Unit)=>[(0,roL 6 zab p0),(1,.clo (.func p1_g) p1_a p1_b),(7,.int .i64 (((p0.length:Nat):Int))),(8,.int .i64 ((i1:Int)))]) (fun i1 (s1:Unit)=>[]) (.cons .q (.cons .q (.cons .qi (.cons .qi .nil)))) .nil (fun k1 i1 s1 hle1 H1 H2 K0 hK1=>?_)
 refine W.rg env [0,1,7,8,9] [] ?_
 refine W.seq ?_
 refine W.cond rfl (fun hb2=>?_) (fun hb2=>?_)
 · have hi1:i1<p0.length:=by have:=of_decide_eq_true hb2;omega
   have H:=H1 hi1
   refine W.skip ?_
   refine At.zai ?_
   refine W.seq ?_
   refine W.block ?_
   refine W.rg env [0,1,5,7,8] [] ?_
   refine W.seq ?_
   obtain ⟨y3,hy4,H⟩:=zah H
   refine W.region env [] [⟨.bool (y3),[],0,[]⟩] rfl rfl rfl (.cons (⟨by omega,by omega⟩:0≤(i1:Int)∧(i1:Int)<((p0.length:Nat):Int)) .nil) (.free (p1_h (p0.getD i1 default) _ hy4) .nil) (At.keep (ts:=[0,1,5,7,8,16]) (ids:=[]) rfl rfl ?_)
   refine At.zai ?_
   refine W.cond rfl (fun hb5=>?_) (fun hb5=>?_)
   · have H:=zal H hb5
     refine W.rg env [4] [] ?_
     refine W.ret ?_
     refine At.rinb ?_
     refine At.rthen ?_
     refine At.rthen ?_
     refine At.rinb ?_
     refine At.rthen ?_
     cases H
     exact At.ret env.ty rfl rfl nofun (.refl _) hval
   · have H:=zaj H hb5
     refine W.skip ?_
     refine At.inb ?_
     refine At.zai ?_
     refine W.region env [] [] rfl rfl rfl (.cons (by unfold inI;have:=hn1;(try unfold maxLen at this);omega) .nil) .nil (At.keep (ts:=[0,1,7,8]) (ids:=[]) rfl rfl ?_)
     refine At.zaE (At.keep (ts:=[0,1,7,8]) (ids:=[]) rfl rfl ?_)
     exact At.conv (.cons .q (.cons .q (.cons .qi (.cons .qi .nil)))) .nil (hK1 hi1 () H)
 · have H:=H2 (by have:=of_decide_eq_false hb2;omega)
   refine W.exit ?_
   refine At.xthen ?_
   refine At.xthen ?_
   refine At.xhere ?_
   refine At.zai ?_
   refine W.rg env [4] [] ?_
   refine W.ret ?_
   cases H
   exact At.ret env.ty rfl rfl nofun (.refl _) hval
theorem zeP (fuel:Nat) (p0:(List Look)) (p1:Look→Option Bool) (p1_g:Nat) (p1_a p1_b:List AV) (p1_h:∀ x0 r,p1 x0=some r→Ctr Tryz.prog p1_g (p1_a++([.agg [.int .i64 (x0.Source),.int .i64 (x0.Lamp),.int .i64 (x0.Night),.bool (x0.Bad),.int .i64 (x0.Known),.int .i64 (x0.Until)]]++p1_b)) (.bool (r))) {r:(List Look)} (H:zcI fuel p0 p1=some r):CtrO Tryz.prog 118 [.buf 700 (p0).length,.clo (.func p1_g) p1_a p1_b] [(700,bufL 37 6 zab p0)] (.buf 900 r.length) [(900,bufL 37 6 zab r)]:=by
 unfold zcI at H
 refine CtrO.zao (N:=42) Tryz.func118 (by kernel_rfl) (c:=_) rfl Tryz.ntmps118 rfl (fun w0 h0 ρb hval hdom=>?_)
 refine W.rg env [0,1] [700] ?_
 refine W.seq ?_
 obtain ⟨y1,hy2,H⟩:=zah H
 refine W.region env [] [⟨.int .i64 (y1),[],0,[]⟩] rfl rfl rfl (.cons (by first|rfl|(simp;done)|omega|(simp;omega)) .nil) (.free (zfr p0 p1 p1_g p1_a p1_b p1_h hy2) .nil) (At.keep (ts:=[0,1,5]) (ids:=[700]) rfl rfl ?_)
 refine At.zai ?_
 refine W.seq ?_
 refine W.rg env [0,1,5,12] [700] ?_
 refine W.cond rfl (fun hb3=>?_) (fun hb3=>?_)
 · have H:=zal H hb3
   refine W.rg env [4] [700] ?_
   refine W.ret ?_
   refine At.rthen ?_
   cases H
   exact At.retK env.ty [700] 200 rfl rfl rfl rfl (.cons (.refl _) .nil) (.of_eq (by refine zhx ?_;first|(simp [zbx];done)|omega|(simp [zbx];omega)|rfl)) hval hdom rfl
 · have H:=zaj H hb3
   refine W.skip ?_
   refine At.zai ?_
   refine W.seq ?_
   obtain ⟨hc4,H⟩:=zag H
   refine W.sr env [] [] [0,1,5,6] [700] rfl rfl rfl (.cons hc4 .nil) .nil ?_
   refine W.block ?_
   refine At.keep (ts:=[0,1,5,6]) (ids:=[700]) rfl rfl ?_
   refine W.loopGo H (fun (s5:Int×Int×(List Look))=>[(0,.buf 700 (s5.2.2).length),(1,.clo (.func p1_g) p1_a p1_b),(5,.int .i64 (s5.1)),(6,.int .i64 (s5.2.1))]) (fun (s5:Int×Int×(List Look))=>[(700,bufL 37 6 zab s5.2.2)]) (.cons .qb (.cons .q (.cons .qi (.cons .qi .nil)))) (.cons .q .nil) (fun k5 s5 H K0 hK5=>?_)
   refine W.seq ?_
   refine W.sr env [] [] [0,1,5,6,19] [700] rfl rfl rfl (.cons (by first|rfl|(simp;done)|omega|(simp;omega)) .nil) .nil ?_
   refine W.cond rfl (fun hb6=>?_) (fun hb6=>?_)
   · have H:=zal H hb6
     refine W.skip ?_
     refine At.zai ?_
     refine W.seq ?_
     refine W.block ?_
     obtain ⟨hc7,H⟩:=zag H
     refine W.sr env [] [] [0,1,5,6,7] [7,700] rfl rfl rfl (.cons (⟨by first|rfl|(simp;done)|omega|(simp;omega),hc7⟩) (.cons (⟨by first|rfl|(simp;done)|omega|(simp;omega),(by have:=hc7;first|omega|(simp only [List.length_set];omega)|(simp only [Int.toNat_natCast] at *;omega)|(simp at this ⊢;omega))⟩) .nil)) .nil ?_
     refine W.seq ?_
     obtain ⟨y8,hy9,H⟩:=zah H
     refine W.region env [] [⟨.bool (y8),[],0,[]⟩] rfl rfl rfl .nil (.free (p1_h (s5.2.2.getD (s5.2.1).toNat default) _ hy9) .nil) (At.keep (ts:=[0,1,5,6,7,29]) (ids:=[7,700]) rfl rfl ?_)
     refine At.zai ?_
     refine W.cond rfl (fun hb10=>?_) (fun hb10=>?_)
     · have H:=zal H hb10
       refine W.seq ?_
       obtain ⟨hc11,H⟩:=zag H
       refine W.region env [] [] rfl rfl rfl (.cons (⟨by first|rfl|(simp;done)|omega|(simp;omega),hc11⟩) (.cons (⟨by first|rfl|(simp;done)|omega|(simp;omega),(by have:=hc11;first|omega|(simp only [List.length_set];omega)|(simp only [Int.toNat_natCast] at *;omega)|(simp at this ⊢;omega))⟩) .nil)) .nil (At.keep (ts:=[0,1,5,6]) (ids:=[700]) rfl rfl ?_)
       refine At.zbJ (.cons (y:=bufL 37 6 zab (s5.2.2.set (s5.1).toNat (s5.2.2.getD (s5.2.1).toNat default))) (BSim.seg (Seg.set (Seg.refl zab _) (s5.2.2.getD (s5.2.1).toNat default) rfl)) .nil) ?_
       refine At.zai ?_
       obtain ⟨hc12,H⟩:=zag H
       refine W.region env [] [] rfl rfl rfl (.cons hc12 .nil) .nil (At.keep (ts:=[0,1,5,6]) (ids:=[700]) rfl rfl ?_)
       refine At.inb ?_
       refine At.zai ?_
       obtain ⟨hc13,H⟩:=zag H
       refine W.region env [] [] rfl rfl rfl (.cons hc13 .nil) .nil (At.keep (ts:=[0,1,5,6]) (ids:=[700]) rfl rfl ?_)
       refine At.zaE (At.keep (ts:=[0,1,5,6]) (ids:=[700]) rfl rfl ?_)
       exact At.conv (.cons .qb (.cons .q (.cons .qi (.cons .qi .nil)))) (.cons .q .nil) (hK5 ((s5.1+1),(s5.2.1+1),(s5.2.2.set (s5.1).toNat (s5.2.2.getD (s5.2.1).toNat default))) H)
     · have H:=zaj H hb10
       refine W.skip ?_
       refine At.inb ?_
       refine At.zai ?_
       obtain ⟨hc14,H⟩:=zag H
       refine W.region env [] [] rfl rfl rfl (.cons hc14 .nil) .nil (At.keep (ts:=[0,1,5,6]) (ids:=[700]) rfl rfl ?_)
       refine At.zaE (At.keep (ts:=[0,1,5,6]) (ids:=[700]) rfl rfl ?_)
       exact At.conv (.cons .qb (.cons .q (.cons .qi (.cons .qi .nil)))) (.cons .q .nil) (hK5 (s5.1,(s5.2.1+1),s5.2.2) H)
   · have H:=zaj H hb6
     refine W.exit ?_
     refine At.xthen ?_
     refine At.xthen ?_
     refine At.xhere ?_
     refine At.zai ?_
     refine W.seq ?_
     obtain ⟨hc15,H⟩:=zag H
     refine W.region env [] [] rfl rfl rfl (.cons (⟨by first|rfl|(simp;done)|omega|(simp;omega),hc15⟩) (.cons (⟨by first|rfl|(simp;done)|omega|(simp;omega),(by have:=hc15;omega),(by have:=hc15;omega)⟩) .nil)) .nil (At.keep (ts:=[0,5]) (ids:=[700]) rfl rfl ?_)
     refine At.zbJ (.cons (y:=bufL 37 6 zab (zbx s5.2.2 ((s5.1).toNat) (s5.2.2.length - (s5.1).toNat) (fun _=>(⟨0,0,0,false,0,0⟩:Look)))) (BSim.seg (Seg.cleared (a:=(s5.1).toNat) (b:=s5.2.2.length) (Seg.refl zab _) (⟨0,0,0,false,0,0⟩:Look) rfl (by have:=hc15;omega))) .nil) ?_
     refine At.zai ?_
     obtain ⟨hc16,H⟩:=zag H
     refine W.sr env [] [] [4] [700] rfl rfl rfl (.cons (⟨by first|rfl|(simp [zhm];done)|(simp [zhm];omega),hc16⟩) .nil) .nil ?_
     refine W.ret ?_
     cases H
     refine At.shrink 4 700 850 (K:=[]) (ts:=[]) rfl rfl (by first|rfl|(simp;done)|omega|(simp;omega)) (by have:=hc16;omega) rfl rfl rfl rfl ?_
     refine At.zbJ (.cons (y:=bufL 37 6 zab ((zbx s5.2.2 ((s5.1).toNat) (s5.2.2.length - (s5.1).toNat) (fun _=>(⟨0,0,0,false,0,0⟩:Look))).take ((s5.1).toNat))) (BSim.seg (Seg.first (Seg.refl zab _) (by have:=hc16;omega))) .nil) ?_
     exact At.retK env.ty [850] 50 rfl rfl rfl rfl (.cons (.refl _) .nil) (.of_eq (by refine zhx ?_;first|(simp [zbx];done)|omega|(simp [zbx];omega)|rfl)) hval hdom rfl
theorem zht (p0:Look) (c0:Int) (c1:Wear) {r:Bool} (H:zdh p0 c0 c1=some r):Ctr Tryz.prog 157 [.agg [.int .i64 (p0.Source),.int .i64 (p0.Lamp),.int .i64 (p0.Night),.bool (p0.Bad),.int .i64 (p0.Known),.int .i64 (p0.Until)],.rp [.int .i64 (c0)],.rp [roL 3 zac c1.Batches,roL 6 zaa c1.Mantles,roL 7 zaf c1.Burns,roL 6 zab c1.Looks]] (.bool (r)):=by
 unfold zdh at H
 refine Ctr.zao (N:=22) Tryz.func157 (by kernel_rfl) (c:=_) rfl Tryz.ntmps157 rfl (fun w0 h0 hval=>?_)
 refine W.rg env [1,2,3] [3] ?_
 refine W.seq ?_
 obtain ⟨y1,hy2,H⟩:=zah H
 refine W.region env [] [⟨.bool ((zau p0.Known p0.Until c0)),[],0,[]⟩,⟨.int .i64 (y1),[],0,[]⟩] rfl rfl rfl (.cons id (.cons id (.cons id (.cons id (.cons id (.cons id (.cons id (.cons (fun h=>by rw [h];rfl) .nil)))))))) (.free (zc1 p0.Known p0.Until c0) (.on (fun hW=>zc0 c1 p0.Lamp p0.Night c0 (zal hy2 hW)) .nil)) (At.keep (ts:=[4]) (ids:=[]) rfl rfl ?_)
 refine At.zai ?_
 refine W.ret ?_
 cases H
 exact At.ret env.ty rfl rfl nofun (.refl _) hval
theorem zik (fuel:Nat) (p0:Wear) (p1:Int) {r:(List Look)} (H:zeO fuel p0 p1=some r):Ctr Tryz.prog 108 [.agg [roL 3 zac p0.Batches,roL 6 zaa p0.Mantles,roL 7 zaf p0.Burns,roL 6 zab p0.Looks],.int .i64 (p1)] (roL 6 zab r):=by
 unfold zeO at H
 refine Ctr.zao (N:=10) Tryz.func108 (by kernel_rfl) (c:=_) rfl Tryz.ntmps108 rfl (fun w0 h0 hval=>?_)
 refine W.rg env [2,3] [2,3] ?_
 refine W.seq ?_
 refine At.zmc 2 (K:=[3]) (ts:=[2,3]) rfl rfl rfl rfl rfl (fun _ h=>h) ?_
 refine At.zmc 3 (K:=[]) (ts:=[2,3]) rfl rfl rfl rfl rfl (fun _ h=>h) ?_
 obtain ⟨y1,hy2,H⟩:=zah H
 obtain ⟨y3,hy4,H⟩:=zah H
 refine W.region env [] [⟨.buf 900 y1.length,[(900,bufL 37 6 zab y1)],8000,[]⟩,⟨.buf 900 y3.length,[(8900,.dead),(900,bufL 37 6 zab y3)],10000,[]⟩] rfl rfl (by kernel_rfl) .nil (.free ((Ctr.ofO (zda p0.Looks hy2))) (.free (CtrO.sim (CtrO.at (zeP fuel y1 (fun x0=>zdh x0 p1 p0) 157 [] ([.rp [.int .i64 (p1)],.rp [roL 3 zac p0.Batches,roL 6 zaa p0.Mantles,roL 7 zaf p0.Burns,roL 6 zab p0.Looks]]) (fun x0 r h=>zht x0 p1 p0 h) hy4) rfl 8900) (.cons .qc (.cons (Sim.fnClo rfl) .nil)) (.cons (.refl _) .nil)) .nil)) (At.keep (ts:=[4]) (ids:=[10900]) rfl rfl ?_)
 refine At.zai ?_
 refine W.ret ?_
 cases H
 exact At.ret env.ty rfl rfl (fun q hq=>by cases hq;exact (by first|rfl|(simp;done)|omega|(simp;omega))) (.refl _) hval
theorem zf6 (p0:(List Look)) (p1:Int) (p2:Int) {r:(List Look)} (H:zdx p0 p1 p2=some r):CtrO Tryz.prog 158 [.buf 700 (p0).length,.int .i64 (p1),.int .i64 (p2)] [(700,bufL 37 6 zab p0)] (.buf 900 r.length) [(900,bufL 37 6 zab r)]:=by
 unfold zdx at H
 refine CtrO.zao (N:=33) Tryz.func158 (by kernel_rfl) (c:=_) rfl Tryz.ntmps158 rfl (fun w0 h0 ρb hval hdom=>?_)
 refine W.rg env [0,1,2] [700] ?_
 obtain ⟨hc1,H⟩:=zag H
 refine W.sr env [] [] [0,1,2] [700] rfl rfl rfl (.cons (by first|rfl|(simp;done)|omega|(simp;omega)) (.cons (⟨by first|rfl|(simp;done)|omega|(simp;omega),hc1⟩) .nil)) .nil ?_
 refine W.seq ?_
 refine W.rg env [0,1,2,16] [700] ?_
 refine W.cond rfl (fun hb2=>?_) (fun hb2=>?_)
 · have H:=zal H hb2
   refine W.rg env [6] [700] ?_
   refine W.ret ?_
   refine At.rthen ?_
   cases H
   exact At.retK env.ty [700] 200 rfl rfl rfl rfl (.cons (.refl _) .nil) (.of_eq (by refine zhx ?_;first|(simp [zbx];done)|omega|(simp [zbx];omega)|rfl)) hval hdom rfl
 · have H:=zaj H hb2
   refine W.skip ?_
   refine At.zai ?_
   refine W.sr env [] [] [0,1,2,7] [700] rfl rfl rfl (.cons (by first|rfl|(simp;done)|omega|(simp;omega)) .nil) .nil ?_
   refine W.seq ?_
   obtain ⟨hc3,H⟩:=zag H
   obtain ⟨hc4,H⟩:=zag H
   obtain ⟨hc5,H⟩:=zag H
   refine W.region env [] [] rfl rfl (by first|rfl|kernel_rfl) (.cons (⟨by first|rfl|(simp;done)|omega|(simp;omega),hc3⟩) (.cons (⟨by first|rfl|(simp;done)|omega|(simp;omega),hc4⟩) (.cons (⟨rfl,rfl,by omega,by omega,by omega⟩) .nil))) .nil (At.keep (ts:=[0,7]) (ids:=[26]) rfl rfl ?_)
   refine At.zbJ (.cons (y:=zqu 37 6 p0.length zab (p0.take ((p1).toNat)++p0.drop ((p2).toNat))) (BSim.kseg (Seg.moved (f:=zab) (l:=p0) ((p1).toNat) ((p2).toNat) (by omega) (by omega))) .nil) ?_
   refine At.zai ?_
   refine W.seq ?_
   obtain ⟨hc6,H⟩:=zag H
   refine W.region env [] [] rfl rfl rfl (.cons (by first|rfl|(simp;done)|omega|(simp;omega)) (.cons (⟨by first|rfl|(simp;done)|omega|(simp;omega),hc6⟩) (.cons (⟨by first|rfl|(simp;done)|omega|(simp;omega),by first|rfl|(simp;done)|omega|(simp;omega),by first|omega|(simp;omega)⟩) .nil))) .nil (At.keep (ts:=[0]) (ids:=[26]) rfl rfl ?_)
   refine At.zbJ (.cons (y:=zqu 37 6 p0.length zab (p0.take ((p1).toNat)++p0.drop ((p2).toNat))) (BSim.kseg (Seg.refl zab _)) .nil) ?_
   refine At.zai ?_
   refine W.rg env [6] [26] ?_
   refine W.ret ?_
   cases H
   exact At.retK env.ty [26] 874 rfl rfl rfl rfl (.cons (.bufk (.refl _)) .nil) (.of_eq (by refine zhx ?_;first|(simp [zbx];done)|omega|(simp [zbx];omega)|rfl)) hval hdom rfl
theorem zkO (p0:(List Look)) (p1:Int) {r:(List Look)} (H:zg1 p0 p1=some r):Ctr Tryz.prog 109 [roL 6 zab p0,.int .i64 (p1)] (roL 6 zab r):=by
 unfold zg1 at H
 refine Ctr.zao (N:=11) Tryz.func109 (by kernel_rfl) (c:=_) rfl Tryz.ntmps109 rfl (fun w0 h0 hval=>?_)
 refine W.rg env [0,1] [] ?_
 refine W.seq ?_
 obtain ⟨y1,hy2,H⟩:=zah H
 obtain ⟨hc3,H⟩:=zag H
 obtain ⟨y4,hy5,H⟩:=zah H
 refine W.region env [] [⟨.buf 900 y1.length,[(900,bufL 37 6 zab y1)],7000,[]⟩,⟨.buf 900 y4.length,[(7900,.dead),(900,bufL 37 6 zab y4)],11000,[]⟩] rfl rfl (by kernel_rfl) (.cons hc3 .nil) (.free ((Ctr.ofO (zda p0 hy2))) (.free (CtrO.sim (CtrO.at (zf6 y1 p1 (p1+1) hy5) rfl 7900) (.cons .qc (.cons (.refl _) (.cons (.refl _) .nil))) (.cons (.refl _) .nil)) .nil)) (At.keep (ts:=[4]) (ids:=[11900]) rfl rfl ?_)
 refine At.zai ?_
 refine W.ret ?_
 cases H
 exact At.ret env.ty rfl rfl (fun q hq=>by cases hq;exact (by first|rfl|(simp;done)|omega|(simp;omega))) (.refl _) hval
theorem zjE (fuel:Nat) (p0:Wear) (p1:Int) {r:((List Int)×Int)} (H:zfX fuel p0 p1=some r):Ctr Tryz.prog 42 [.agg [roL 3 zac p0.Batches,roL 6 zaa p0.Mantles,roL 7 zaf p0.Burns,roL 6 zab p0.Looks],.int .i64 (p1)] (.tup [roL 1 zae r.1,.int .i64 (r.2)]):=by
 unfold zfX at H
 refine Ctr.zao (N:=58) Tryz.func42 (by kernel_rfl) (c:=_) rfl Tryz.ntmps42 rfl (fun w0 h0 hval=>?_)
 refine W.rg env [1,2] [2] ?_
 refine W.seq ?_
 refine W.seq ?_
 obtain ⟨y1,hy2,H⟩:=zah H
 refine W.region env [] [⟨.int .i64 (y1),[],0,[]⟩] rfl rfl rfl .nil (.free (Ctr.sim (.cons (.refl _) (.cons (Sim.lit (f:=zae) ([p1]:List Int) rfl rfl (fun _=>rfl)) .nil)) (zex p0 ([p1]:List Int) hy2)) .nil) (At.keep (ts:=[1,2,6]) (ids:=[2]) rfl rfl ?_)
 refine At.zai ?_
 refine W.rg env [1,2,6,18] [2] ?_
 refine W.cond rfl (fun hb3=>?_) (fun hb3=>?_)
 · have H:=zal H hb3
   refine W.rg env [4,5] [] ?_
   refine W.ret ?_
   refine At.rthen ?_
   cases H
   exact At.ret env.ty rfl rfl nofun (Sim.tupL (.cons (Sim.nil _ _) (.cons (.refl _) .nil))) hval
 · have H:=zaj H hb3
   refine W.skip ?_
   refine At.zai ?_
   refine W.seq ?_
   obtain ⟨y4,hy5,H⟩:=zah H
   refine W.region env [] [⟨roL 6 zab y4,[],0,[]⟩] rfl rfl rfl .nil (.free (zik fuel p0 p1 hy5) .nil) (At.keep (ts:=[1,2,7]) (ids:=[2]) rfl rfl ?_)
   refine At.zai ?_
   refine W.seq ?_
   refine W.seq ?_
   obtain ⟨y6,hy7,H⟩:=zah H
   obtain ⟨y8,hy9,H⟩:=zah H
   refine W.region env [] [⟨.agg [roL 3 zac y6.w.Batches,roL 6 zaa y6.w.Mantles,roL 7 zaf y6.w.Burns,roL 6 zab y6.w.Looks,.int .i64 (y6.known),romL (.agg #[.slice none 0 0,.slice none 0 0,.slice none 0 0,.slice none 0 0,.slice none 0 0,.slice none 0 0]) (fun (x:mantle_coat)=>.agg [roL 3 zac x.w.Batches,roL 6 zaa x.w.Mantles,roL 7 zaf x.w.Burns,roL 6 zab x.w.Looks,roL 1 zae x.burns,roL 2 zad x.sights]) y6.coats,roL 2 zaq y6.lives],[],0,[]⟩,⟨.bool (y8),[],0,[]⟩] rfl rfl rfl .nil (.free (zdE fuel p0 y4 p1 hy7) (.free (zbf y6 hy9) .nil)) (At.keep (ts:=[1,2,7,27]) (ids:=[2]) rfl rfl ?_)
   refine At.zai ?_
   refine W.cond rfl (fun hb10=>?_) (fun hb10=>?_)
   · have H:=zal H hb10
     refine W.rg env [4,5] [] ?_
     refine W.ret ?_
     refine At.rthen ?_
     cases H
     exact At.ret env.ty rfl rfl nofun (Sim.tupL (.cons (Sim.nil _ _) (.cons (.refl _) .nil))) hval
   · have H:=zaj H hb10
     refine W.skip ?_
     refine At.zai ?_
     refine W.seq ?_
     obtain ⟨hc11,H⟩:=zag H
     refine W.sr env [] [] [1,2,7,8] [2] rfl rfl rfl (.cons hc11 .nil) .nil ?_
     refine W.block ?_
     refine At.keep (ts:=[1,2,7,8]) (ids:=[2]) rfl rfl ?_
     refine W.loopGo H (fun (s12:Int×(List Look))=>[(1,.int .i64 (p1)),(2,.lp 2 0),(7,roL 6 zab s12.2),(8,.int .i64 (s12.1))]) (fun (s12:Int×(List Look))=>[(2,.cells [roL 3 zac p0.Batches,roL 6 zaa p0.Mantles,roL 7 zaf p0.Burns,roL 6 zab p0.Looks])]) (.cons .qi (.cons .q (.cons .q (.cons .qi .nil)))) (.cons .q .nil) (fun k12 s12 H K0 hK12=>?_)
     refine W.seq ?_
     refine W.rg env [1,2,7,8,32] [2] ?_
     refine W.cond rfl (fun hb13=>?_) (fun hb13=>?_)
     · have H:=zal H hb13
       refine W.skip ?_
       refine At.zai ?_
       refine W.seq ?_
       refine W.block ?_
       refine W.seq ?_
       obtain ⟨y14,hy15,H⟩:=zah H
       refine W.region env [] [⟨roL 6 zab y14,[],0,[]⟩] rfl rfl rfl .nil (.free (zkO s12.2 s12.1 hy15) .nil) (At.keep (ts:=[1,2,7,8,9]) (ids:=[2]) rfl rfl ?_)
       refine At.zai ?_
       refine W.seq ?_
       obtain ⟨y16,hy17,H⟩:=zah H
       obtain ⟨y18,hy19,H⟩:=zah H
       refine W.region env [] [⟨.agg [roL 3 zac y16.w.Batches,roL 6 zaa y16.w.Mantles,roL 7 zaf y16.w.Burns,roL 6 zab y16.w.Looks,.int .i64 (y16.known),romL (.agg #[.slice none 0 0,.slice none 0 0,.slice none 0 0,.slice none 0 0,.slice none 0 0,.slice none 0 0]) (fun (x:mantle_coat)=>.agg [roL 3 zac x.w.Batches,roL 6 zaa x.w.Mantles,roL 7 zaf x.w.Burns,roL 6 zab x.w.Looks,roL 1 zae x.burns,roL 2 zad x.sights]) y16.coats,roL 2 zaq y16.lives],[],0,[]⟩,⟨.bool (y18),[],0,[]⟩] rfl rfl rfl .nil (.free (zdE fuel p0 y14 p1 hy17) (.free (zbf y16 hy19) .nil)) (At.keep (ts:=[1,2,7,8,9,43]) (ids:=[2]) rfl rfl ?_)
       refine At.zai ?_
       refine W.cond rfl (fun hb20=>?_) (fun hb20=>?_)
       · have H:=zal H hb20
         refine W.region env [] [] rfl rfl rfl .nil .nil (At.keep (ts:=[1,2,7,8]) (ids:=[2]) rfl rfl ?_)
         refine At.inb ?_
         refine At.zai ?_
         obtain ⟨hc21,H⟩:=zag H
         refine W.region env [] [] rfl rfl rfl (.cons hc21 .nil) .nil (At.keep (ts:=[1,2,7,8]) (ids:=[2]) rfl rfl ?_)
         refine At.zaE (At.keep (ts:=[1,2,7,8]) (ids:=[2]) rfl rfl ?_)
         exact At.conv (.cons .qi (.cons .q (.cons .q (.cons .qi .nil)))) (.cons .q .nil) (hK12 ((s12.1 - 1),y14) H)
       · have H:=zaj H hb20
         refine W.skip ?_
         refine At.inb ?_
         refine At.zai ?_
         obtain ⟨hc22,H⟩:=zag H
         refine W.region env [] [] rfl rfl rfl (.cons hc22 .nil) .nil (At.keep (ts:=[1,2,7,8]) (ids:=[2]) rfl rfl ?_)
         refine At.zaE (At.keep (ts:=[1,2,7,8]) (ids:=[2]) rfl rfl ?_)
         exact At.conv (.cons .qi (.cons .q (.cons .q (.cons .qi .nil)))) (.cons .q .nil) (hK12 ((s12.1 - 1),s12.2) H)
     · have H:=zaj H hb13
       refine W.exit ?_
       refine At.xthen ?_
       refine At.xthen ?_
       refine At.xhere ?_
       refine At.zai ?_
       refine W.rg env [7,10] [] ?_
       refine W.seq ?_
       refine W.rg env [10,45,46,47] [] ?_
       refine W.block ?_
       refine At.zfR 10 510 3 1 (e:=fun i=>zae (([]:List Int).getD i default)) rfl rfl ?_
       refine At.keep (ts:=[10,45,46,47]) (ids:=[510]) rfl rfl ?_
       refine W.len (t:=45) rfl (fun (hn23:s12.2.length≤maxLen)=>?_)
       refine W.zax H (fun i23 (s23:(List Int))=>[(10,.buf 510 (s23).length),(45,roL 6 zab s12.2),(46,.int .i64 (((s12.2.length:Nat):Int))),(47,.int .i64 ((i23:Int)))]) (fun i23 (s23:(List Int))=>[(510,bufL 3 1 zae s23)]) (.cons .qb (.cons .q (.cons .qi (.cons .qi .nil)))) (.cons .q .nil) (fun k23 i23 s23 hle23 H1 H2 K0 hK23=>?_)
       refine W.rg env [10,45,46,47,48] [510] ?_
       refine W.seq ?_
       refine W.cond rfl (fun hb24=>?_) (fun hb24=>?_)
       · have hi23:i23<s12.2.length:=by have:=of_decide_eq_true hb24;omega
         have H:=H1 hi23
         refine W.skip ?_
         refine At.zai ?_
         refine W.seq ?_
         refine W.block ?_
         refine W.sr env [] [] [10,12,45,46,47] [12,510] rfl rfl rfl (.cons (⟨by omega,by omega⟩:0≤(i23:Int)∧(i23:Int)<((s12.2.length:Nat):Int)) .nil) .nil ?_
         obtain ⟨hc25,H⟩:=zag H
         refine W.region env [] [] rfl rfl rfl (.cons (⟨by first|rfl|(simp;done)|omega|(simp;omega),by have:=hc25;first|simpa using this|(unfold room at this ⊢;simp at this ⊢;omega)⟩) .nil) .nil (At.keep (ts:=[10,45,46,47]) (ids:=[510]) rfl rfl ?_)
         refine At.zbJ (.cons (y:=bufL 3 1 zae (s23++([(s12.2.getD i23 default).Source]:List Int))) (BSim.seg (Seg.push (Seg.refl zae _) (Seg.lit (f:=zae) (sz:=1) ([(s12.2.getD i23 default).Source]:List Int) rfl rfl (fun _=>rfl)))) .nil) ?_
         refine At.inb ?_
         refine At.zai ?_
         refine W.region env [] [] rfl rfl rfl (.cons (by unfold inI;have:=hn23;(try unfold maxLen at this);omega) .nil) .nil (At.keep (ts:=[10,45,46,47]) (ids:=[510]) rfl rfl ?_)
         refine At.zaE (At.keep (ts:=[10,45,46,47]) (ids:=[510]) rfl rfl ?_)
         exact At.conv (.cons .qb (.cons .q (.cons .qi (.cons .qi .nil)))) (.cons .q .nil) (hK23 hi23 (s23++([(s12.2.getD i23 default).Source]:List Int)) H)
       · have H:=H2 (by have:=of_decide_eq_false hb24;omega)
         refine W.exit ?_
         refine At.xthen ?_
         refine At.xthen ?_
         refine At.xhere ?_
         refine At.zai ?_
         refine W.rg env [4,5] [510] ?_
         refine W.ret ?_
         cases H
         exact At.ret env.ty rfl rfl (fun q hq=>by cases hq;exact (by first|rfl|(simp;done)|omega|(simp;omega))) (.refl _) hval
theorem zeg (fuel:Nat) (p0:(List Int)) (p1:(List Int)) {r:Bool} (H:zcP fuel p0 p1=some r):Ctr Tryz.prog 44 [roL 1 zae p0,roL 1 zae p1] (.bool (r)):=by
 unfold zcP at H
 refine Ctr.zao (N:=31) Tryz.func44 (by kernel_rfl) (c:=_) rfl Tryz.ntmps44 rfl (fun w0 h0 hval=>?_)
 refine W.rg env [0,1] [] ?_
 refine W.rg env [0,1,5] [] ?_
 refine W.seq ?_
 refine W.rg env [0,1,5,6] [] ?_
 refine W.block ?_
 refine At.keep (ts:=[0,1,5,6]) (ids:=[]) rfl rfl ?_
 refine W.loopGo H (fun (s1:Bool×Int)=>[(0,roL 1 zae p0),(1,roL 1 zae p1),(5,.bool (s1.1)),(6,.int .i64 (s1.2))]) (fun (s1:Bool×Int)=>[]) (.cons .q (.cons .q (.cons .q (.cons .qi .nil)))) .nil (fun k1 s1 H K0 hK1=>?_)
 refine W.seq ?_
 refine W.sr env [] [] [0,1,5,6,18] [] rfl rfl rfl (.cons id .nil) .nil ?_
 refine W.cond rfl (fun hb2=>?_) (fun hb2=>?_)
 · have H:=zal H hb2
   refine W.skip ?_
   refine At.zai ?_
   refine W.seq ?_
   refine W.block ?_
   obtain ⟨hc3,H⟩:=zag H
   obtain ⟨hc4,H⟩:=zag H
   refine W.region env [] [] rfl rfl (by first|rfl|kernel_rfl) (.cons hc3 (.cons hc4 .nil)) .nil (At.keep (ts:=[0,1,5,6]) (ids:=[]) rfl rfl ?_)
   refine At.inb ?_
   refine At.zai ?_
   obtain ⟨hc5,H⟩:=zag H
   refine W.region env [] [] rfl rfl rfl (.cons hc5 .nil) .nil (At.keep (ts:=[0,1,5,6]) (ids:=[]) rfl rfl ?_)
   refine At.zaE (At.keep (ts:=[0,1,5,6]) (ids:=[]) rfl rfl ?_)
   exact At.conv (.cons .q (.cons .q (.cons .q (.cons .qi .nil)))) .nil (hK1 ((decide ((p0.getD (s1.2).toNat default)=(p1.getD (s1.2).toNat default))),(s1.2+1)) H)
 · have H:=zaj H hb2
   refine W.exit ?_
   refine At.xthen ?_
   refine At.xthen ?_
   refine At.xhere ?_
   refine At.zai ?_
   refine W.rg env [4] [] ?_
   refine W.ret ?_
   cases H
   exact At.ret env.ty rfl rfl nofun (.refl _) hval
theorem zfG (fuel:Nat) (post:Bool→Option Unit) {r:Unit} (H:zc9 fuel post=some r):CtrN Tryz.prog 13 [] (fun (y:Bool)=>.bool (y)) (fun y=>post y=some r):=by
 unfold zc9 at H
 refine CtrN.zao (N:=148) Tryz.func13 (by kernel_rfl) (c:=_) rfl Tryz.ntmps13 rfl (fun w0 h0 hval=>?_)
 refine W.rg env [] [] ?_
 refine W.sr env [] [⟨.agg [roL 3 zac ((zap).Batches),roL 6 zaa ((zap).Mantles),roL 7 zaf ((zap).Burns),roL 6 zab ((zap).Looks)],[],0,[]⟩] [1] [1] rfl rfl rfl .nil (.free (zfy) .nil) ?_
 refine W.seq ?_
 refine W.region env [] [] rfl rfl rfl .nil .nil (At.keep (ts:=[1,2]) (ids:=[1]) rfl rfl ?_)
 refine At.slot (t:=2) (v:=roL 1 zae ([10,11,12]:List Int)) (Sim.lit (f:=zae) ([10,11,12]:List Int) rfl rfl (fun _=>rfl)) ?_
 refine At.zai ?_
 refine W.seq ?_
 obtain ⟨y1,hy2,H⟩:=zah H
 refine W.region env [] [⟨.tup [.agg [.int .i64 (y1.1.Lo),.int .i64 (y1.1.Hi)],.int .i64 (y1.2)],[],0,[]⟩] rfl rfl rfl .nil (.free (zih fuel (zap) 10 2 5 hy2) .nil) (At.keep (ts:=[1,2,3,4]) (ids:=[1,3]) rfl rfl ?_)
 refine At.zai ?_
 refine W.seq ?_
 obtain ⟨y3,hy4,H⟩:=zah H
 refine W.region env [] [⟨.tup [.agg [.int .i64 (y3.1.Lo),.int .i64 (y3.1.Hi)],.int .i64 (y3.2)],[],0,[]⟩] rfl rfl rfl .nil (.free (zkP fuel (zap) 1 5 hy4) .nil) (At.keep (ts:=[1,2,3,4,5,6]) (ids:=[1,3,5]) rfl rfl ?_)
 refine At.zai ?_
 refine W.seq ?_
 obtain ⟨y5,hy6,H⟩:=zah H
 refine W.region env [] [⟨.tup [.int .i64 (y5.1),.int .i64 (y5.2)],[],0,[]⟩] rfl rfl rfl .nil (.free (zeS fuel (zap) 10 2 4 hy6) .nil) (At.keep (ts:=[1,2,3,4,5,6,7,8]) (ids:=[1,3,5]) rfl rfl ?_)
 refine At.zai ?_
 refine W.seq ?_
 obtain ⟨y7,hy8,H⟩:=zah H
 refine W.region env [] [⟨.tup [.int .i64 (y7.1),.int .i64 (y7.2)],[],0,[]⟩] rfl rfl rfl .nil (.free (zeS fuel (zap) 10 1 5 hy8) .nil) (At.keep (ts:=[1,2,3,4,5,6,7,8,9,10]) (ids:=[1,3,5]) rfl rfl ?_)
 refine At.zai ?_
 refine W.seq ?_
 obtain ⟨y9,hy10,H⟩:=zah H
 refine W.region env [] [⟨.tup [.agg [.int .i64 (y9.1.Lo),.int .i64 (y9.1.Hi)],.int .i64 (y9.2)],[],0,[]⟩] rfl rfl rfl .nil (.free (zig fuel (zap) ([10,11,12]:List Int) 2 4 hy10) .nil) (At.keep (ts:=[1,2,3,4,5,6,7,8,9,10,11,12]) (ids:=[1,3,5,11]) rfl rfl ?_)
 refine At.zai ?_
 refine W.seq ?_
 obtain ⟨y11,hy12,H⟩:=zah H
 refine W.region env [] [⟨.tup [.agg [.int .i64 (y11.1.Lo),.int .i64 (y11.1.Hi)],.int .i64 (y11.2)],[],0,[]⟩] rfl rfl rfl .nil (.free (zig fuel (zap) ([10,11,12]:List Int) 2 5 hy12) .nil) (At.keep (ts:=[1,2,3,4,5,6,7,8,9,10,11,12,13,14]) (ids:=[1,3,5,11,13]) rfl rfl ?_)
 refine At.zai ?_
 refine W.seq ?_
 refine W.zn2 env [] 2 [] [] rfl rfl rfl rfl rfl rfl (fun _=>rfl) rfl .nil .nil (fun _=>.nil) (fun _=>.nil) (fun _=>rfl) (zhZ fuel (zap) ([10,11,12]:List Int) 2 4 0 false _ H) (fun y13 H=>?_)
 refine At.keep (ts:=[1,3,4,5,6,7,8,9,10,11,12,13,14,15,16]) (ids:=[1,3,5,11,13]) rfl rfl ?_
 refine At.zai ?_
 refine W.seq ?_
 obtain ⟨y14,hy15,H⟩:=zah H
 refine W.region env [] [⟨.tup [.agg [roL 3 zac y14.1.Batches,roL 6 zaa y14.1.Mantles,roL 7 zaf y14.1.Burns,roL 6 zab y14.1.Looks],.int .i64 (y14.2)],[],0,[]⟩] rfl rfl rfl .nil (.free (zjp fuel (zap) (⟨24,10,3,false,0,0⟩:Look) hy15) .nil) (At.keep (ts:=[3,4,5,6,7,8,9,10,11,12,13,14,15,16,17,18]) (ids:=[3,5,11,13,17]) rfl rfl ?_)
 refine At.zai ?_
 refine W.seq ?_
 obtain ⟨y16,hy17,H⟩:=zah H
 refine W.region env [] [⟨.tup [roL 1 zae y16.1,.int .i64 (y16.2)],[],0,[]⟩] rfl rfl rfl .nil (.free (zjE fuel y14.1 5 hy17) .nil) (At.keep (ts:=[3,4,5,6,7,8,9,10,11,12,13,14,15,16,18,19,20]) (ids:=[3,5,11,13]) rfl rfl ?_)
 refine At.zai ?_
 refine W.sr env [] [] [3,5,7,9,11,13,15,19,21] [3,5,11,13] rfl rfl rfl (.cons id (.cons id (.cons id (.cons id (.cons id (.cons id (.cons id (.cons id (.cons id (.cons id (.cons id (.cons id (.cons id (.cons id (.cons id (.cons id .nil)))))))))))))))) .nil ?_
 refine W.sr env [] [] [7,9,15,19,21,22] [] rfl rfl rfl (.cons id (.cons id (.cons id (.cons id (.cons id (.cons id (.cons id (.cons id (.cons id .nil))))))))) .nil ?_
 refine W.seq ?_
 obtain ⟨y18,hy19,H⟩:=zah H
 obtain ⟨y20,hy21,H⟩:=zah H
 refine W.region env [] [⟨.bool (y18),[],0,[]⟩,⟨.bool (y20),[],0,[]⟩] rfl rfl rfl (.cons id (.cons id (.cons id (.cons id (.cons id (.cons id (.cons id (.cons id (.cons id (.cons id (.cons id .nil))))))))))) (.on (fun hW=>Ctr.sim (.cons (.refl _) (.cons (Sim.lit (f:=zae) ([10]:List Int) rfl rfl (fun _=>rfl)) .nil)) (zeg fuel y13.1 ([10]:List Int) (zal hy19 hW))) (.on (fun hW=>Ctr.sim (.cons (.refl _) (.cons (Sim.lit (f:=zae) ([22,24]:List Int) rfl rfl (fun _=>rfl)) .nil)) (zeg fuel y16.1 ([22,24]:List Int) (zal hy21 hW))) .nil)) (At.keep (ts:=[0]) (ids:=[]) rfl rfl ?_)
 refine At.zai ?_
 refine W.ret ?_
 exact At.retN env.ty ((((((((((((((decide (y1.2=0)) && (decide (y3.2=0))) && (decide (y5.2=0))) && (decide (y7.2=0))) && (decide (y9.2=0))) && (decide (y11.2=0))) && (decide (y13.2=0))) && (decide (y14.2=0))) && (decide (y16.2=0))) && (((((decide (y1.1.Lo=1300)) && (decide (y1.1.Hi=1600))) && ((decide (y3.1.Lo=1000)) && (decide (y3.1.Hi=1599)))) && ((decide (y9.1.Lo=0)) && (decide (y9.1.Hi=2)))) && ((decide (y11.1.Lo=1)) && (decide (y11.1.Hi=2))))) && (decide (y5.1=2))) && (decide (y7.1=0))) && y18) && y20) H rfl rfl nofun (.refl _) hval
theorem zgM (fuel:Nat) {r:Bool} (H:zdD fuel=some r):Ctr Tryz.prog 13 [] (.bool r):=by
 obtain ⟨u,H2,hr⟩:=zno H
 subst hr
 exact CtrN.one (zfG fuel _ H2) zn7
theorem zjq (p0:Wear) (p1:Int) (p2:Int) (p3:Int) {r:(Int×Int)} (H:zcy p0 p1 p2 p3=some r):Ctr Tryz.prog 35 [.agg [roL 3 zac p0.Batches,roL 6 zaa p0.Mantles,roL 7 zaf p0.Burns,roL 6 zab p0.Looks],.int .i64 (p1),.int .i64 (p2),.int .i64 (p3)] (.tup [.int .i64 (r.1),.int .i64 (r.2)]):=by
 unfold zcy at H
 refine Ctr.zao (N:=29) Tryz.func35 (by kernel_rfl) (c:=_) rfl Tryz.ntmps35 rfl (fun w0 h0 hval=>?_)
 refine W.rg env [1,2,3,4] [4] ?_
 refine W.seq ?_
 obtain ⟨y1,hy2,H⟩:=zah H
 refine W.region env [] [⟨.tup [.int .i64 (y1.1),.int .i64 (y1.2)],[],0,[]⟩] rfl rfl rfl .nil (.free (zey p0 p1 p2 p3 hy2) .nil) (At.keep (ts:=[4,10,11]) (ids:=[4]) rfl rfl ?_)
 refine At.zai ?_
 refine W.seq ?_
 refine W.rg env [4,10,11,21] [4] ?_
 refine W.cond rfl (fun hb3=>?_) (fun hb3=>?_)
 · have H:=zal H hb3
   refine W.rg env [8,9] [] ?_
   refine W.ret ?_
   refine At.rthen ?_
   cases H
   exact At.ret env.ty rfl rfl nofun (.refl _) hval
 · have H:=zaj H hb3
   refine W.skip ?_
   refine At.zai ?_
   obtain ⟨hc4,H⟩:=zag H
   refine W.sr env [] [] [8,9] [] rfl rfl rfl (.cons hc4 .nil) .nil ?_
   refine W.ret ?_
   cases H
   exact At.ret env.ty rfl rfl nofun (.refl _) hval
theorem zaY (p0:Int) (p1:Int) (p2:Int):Ctr Tryz.prog 83 [.int .i64 (p0),.int .i64 (p1),.int .i64 (p2)] (.bool ((zan p0 p1 p2))):=by
 obtain ⟨r,H⟩:∃ r,zan p0 p1 p2=r:=⟨_,rfl⟩
 rw [H]
 unfold zan at H
 refine Ctr.zao (N:=15) Tryz.func83 (by kernel_rfl) (c:=_) rfl Tryz.ntmps83 rfl (fun w0 h0 hval=>?_)
 refine W.rg env [0,1,2] [] ?_
 refine W.sr env [] [] [6] [] rfl rfl rfl (.cons id (.cons id (.cons id .nil))) .nil ?_
 refine W.ret ?_
 cases H
 exact At.ret env.ty rfl rfl nofun (.refl _) hval
theorem zeD (p0:Batch):Ctr Tryz.prog 20 [.agg [.int .i64 (p0.Id),.int .i64 (p0.Life.Lo),.int .i64 (p0.Life.Hi)]] (.int .i64 ((zaC p0))):=by
 obtain ⟨r,H⟩:∃ r,zaC p0=r:=⟨_,rfl⟩
 rw [H]
 unfold zaC at H
 refine Ctr.zao (N:=23) Tryz.func20 (by kernel_rfl) (c:=_) rfl Tryz.ntmps20 rfl (fun w0 h0 hval=>?_)
 refine W.rg env [1] [1] ?_
 refine W.seq ?_
 refine W.sr env [] [⟨.bool ((zan p0.Id 1 99)),[],0,[]⟩,⟨.bool ((zan p0.Life.Lo 0 p0.Life.Hi)),[],0,[]⟩] [22] [] rfl rfl rfl (.cons id (.cons id (.cons id (.cons id (.cons id (.cons id (.cons id (.cons (fun h=>by rw [h];rfl) (.cons id (.cons id (.cons id (.cons (fun h=>by rw [h];rfl) .nil)))))))))))) (.free (zaY p0.Id 1 99) (.on (fun hW=>zaY p0.Life.Lo 0 p0.Life.Hi) .nil)) ?_
 refine W.cond rfl (fun hb1=>?_) (fun hb1=>?_)
 · have H:=zal H hb1
   refine W.rg env [2] [] ?_
   refine W.ret ?_
   refine At.rthen ?_
   cases H
   exact At.ret env.ty rfl rfl nofun (.refl _) hval
 · have H:=zaj H hb1
   refine W.skip ?_
   refine At.zai ?_
   refine W.rg env [2] [] ?_
   refine W.ret ?_
   cases H
   exact At.ret env.ty rfl rfl nofun (.refl _) hval
theorem zbX (p0:Int):Ctr Tryz.prog 143 [.int .i64 (p0)] (.bool ((zav p0))):=by
 obtain ⟨r,H⟩:∃ r,zav p0=r:=⟨_,rfl⟩
 rw [H]
 unfold zav at H
 refine Ctr.zao (N:=5) Tryz.func143 (by kernel_rfl) (c:=_) rfl Tryz.ntmps143 rfl (fun w0 h0 hval=>?_)
 refine W.rg env [0] [] ?_
 refine W.sr env [] [⟨.bool ((zan p0 0 100000)),[],0,[]⟩] [2] [] rfl rfl rfl .nil (.free (zaY p0 0 100000) .nil) ?_
 refine W.ret ?_
 cases H
 exact At.ret env.ty rfl rfl nofun (.refl _) hval
theorem zcL (p0:(Arr5 Int)) {r:Bool} (H:za6 p0=some r):Ctr Tryz.prog 87 [.agg [.int .i64 (p0.x0),.int .i64 (p0.x1),.int .i64 (p0.x2),.int .i64 (p0.x3),.int .i64 (p0.x4)]] (.bool (r)):=by
 unfold za6 at H
 refine Ctr.zao (N:=34) Tryz.func87 (by kernel_rfl) (c:=_) rfl Tryz.ntmps87 rfl (fun w0 h0 hval=>?_)
 refine W.rg env [1] [1] ?_
 obtain ⟨hc1,H⟩:=zag H
 refine W.sr env [] [⟨.bool ((zan p0.x0 1 99999)),[],0,[]⟩,⟨.bool ((zan p0.x1 1 999)),[],0,[]⟩,⟨.bool ((zav p0.x2)),[],0,[]⟩,⟨.bool ((zav p0.x3)),[],0,[]⟩,⟨.bool ((zan p0.x4 (p0.x3+1) 100000)),[],0,[]⟩] [2] [] rfl rfl rfl (.cons (by decide) (.cons (fun _=>by decide) (.cons id (.cons id (.cons id (.cons (fun _=>by decide) (.cons id (.cons id (.cons id (.cons (fun _=>by decide) (.cons id (.cons id (.cons id (.cons (fun _=>by decide) (.cons id (.cons id (.cons id (.cons (fun _=>by decide) (.cons id (.cons (fun _=>by decide) (.cons id (.cons hc1 (.cons id (.cons id (.cons id (.cons id (.cons (fun hW h=>by revert hW h;first|(simp +contextual;done)|grind) (.cons id .nil)))))))))))))))))))))))))))) (.free (zaY p0.x0 1 99999) (.on (fun hW=>zaY p0.x1 1 999) (.on (fun hW=>zbX p0.x2) (.on (fun hW=>zbX p0.x3) (.on (fun hW=>zaY p0.x4 (p0.x3+1) 100000) .nil))))) ?_
 refine W.ret ?_
 cases H
 exact At.ret env.ty rfl rfl nofun (.refl _) hval
theorem zeA (p0:Mantle) {r:Int} (H:za8 p0=some r):Ctr Tryz.prog 22 [.agg [.int .i64 (p0.Source),.int .i64 (p0.Lamp),.int .i64 (p0.Batch),.int .i64 (p0.Night),.int .i64 (p0.Known),.int .i64 (p0.Until)]] (.int .i64 (r)):=by
 unfold za8 at H
 refine Ctr.zao (N:=22) Tryz.func22 (by kernel_rfl) (c:=_) rfl Tryz.ntmps22 rfl (fun w0 h0 hval=>?_)
 refine W.rg env [1] [1] ?_
 refine W.seq ?_
 refine W.seq ?_
 obtain ⟨y1,hy2,H⟩:=zah H
 refine W.region env [] [⟨.bool (y1),[],0,[]⟩,⟨.bool ((zan p0.Batch 1 99)),[],0,[]⟩] rfl rfl rfl (.cons id (.cons id (.cons id (.cons (fun h=>by rw [h];rfl) .nil)))) (.free (zcL (⟨p0.Source,p0.Lamp,p0.Night,p0.Known,p0.Until⟩:(Arr5 Int)) hy2) (.on (fun hW=>zaY p0.Batch 1 99) .nil)) (At.keep (ts:=[21]) (ids:=[]) rfl rfl ?_)
 refine At.zai ?_
 refine W.cond rfl (fun hb3=>?_) (fun hb3=>?_)
 · have H:=zal H hb3
   refine W.rg env [2] [] ?_
   refine W.ret ?_
   refine At.rthen ?_
   cases H
   exact At.ret env.ty rfl rfl nofun (.refl _) hval
 · have H:=zaj H hb3
   refine W.skip ?_
   refine At.zai ?_
   refine W.rg env [2] [] ?_
   refine W.ret ?_
   cases H
   exact At.ret env.ty rfl rfl nofun (.refl _) hval
theorem ze8 (fuel:Nat) (p0:Wear) (p1:Int) {r:Bool} (H:zbw fuel p0 p1=some r):Ctr Tryz.prog 80 [.agg [roL 3 zac p0.Batches,roL 6 zaa p0.Mantles,roL 7 zaf p0.Burns,roL 6 zab p0.Looks],.int .i64 (p1)] (.bool (r)):=by
 unfold zbw at H
 refine Ctr.zao (N:=21) Tryz.func80 (by kernel_rfl) (c:=_) rfl Tryz.ntmps80 rfl (fun w0 h0 hval=>?_)
 refine W.rg env [1,2] [2] ?_
 refine W.seq ?_
 refine W.rg env [1,2,5] [2] ?_
 refine W.block ?_
 refine At.keep (ts:=[1,2,5]) (ids:=[2]) rfl rfl ?_
 refine W.loopGo H (fun (s1:Int)=>[(1,.int .i64 (p1)),(2,.lp 2 0),(5,.int .i64 (s1))]) (fun (s1:Int)=>[(2,.cells [roL 3 zac p0.Batches,roL 6 zaa p0.Mantles,roL 7 zaf p0.Burns,roL 6 zab p0.Looks])]) (.cons .qi (.cons .q (.cons .qi .nil))) (.cons .q .nil) (fun k1 s1 H K0 hK1=>?_)
 refine W.seq ?_
 refine W.rg env [1,2,5,10] [2] ?_
 refine W.cond rfl (fun hb2=>?_) (fun hb2=>?_)
 · have H:=zal H hb2
   refine W.skip ?_
   refine At.zai ?_
   refine W.seq ?_
   refine W.block ?_
   obtain ⟨hc3,H⟩:=zag H
   refine W.sr env [] [] [1,2,5,20] [2] rfl rfl rfl (.cons hc3 .nil) .nil ?_
   refine W.cond rfl (fun hb4=>?_) (fun hb4=>?_)
   · have H:=zal H hb4
     refine W.rg env [4] [] ?_
     refine W.ret ?_
     refine At.rinb ?_
     refine At.rthen ?_
     refine At.rthen ?_
     refine At.rinb ?_
     refine At.rthen ?_
     cases H
     exact At.ret env.ty rfl rfl nofun (.refl _) hval
   · have H:=zaj H hb4
     refine W.skip ?_
     refine At.inb ?_
     refine At.zai ?_
     obtain ⟨hc5,H⟩:=zag H
     refine W.region env [] [] rfl rfl rfl (.cons hc5 .nil) .nil (At.keep (ts:=[1,2,5]) (ids:=[2]) rfl rfl ?_)
     refine At.zaE (At.keep (ts:=[1,2,5]) (ids:=[2]) rfl rfl ?_)
     exact At.conv (.cons .qi (.cons .q (.cons .qi .nil))) (.cons .q .nil) (hK1 (s1+1) H)
 · have H:=zaj H hb2
   refine W.exit ?_
   refine At.xthen ?_
   refine At.xthen ?_
   refine At.xhere ?_
   refine At.zai ?_
   refine W.rg env [4] [] ?_
   refine W.ret ?_
   cases H
   exact At.ret env.ty rfl rfl nofun (.refl _) hval
theorem zeU (p0:Burn) {r:Int} (H:zbn p0=some r):Ctr Tryz.prog 24 [.agg [.int .i64 (p0.Source),.int .i64 (p0.Lamp),.int .i64 (p0.Night),.int .i64 (p0.Minutes.Lo),.int .i64 (p0.Minutes.Hi),.int .i64 (p0.Known),.int .i64 (p0.Until)]] (.int .i64 (r)):=by
 unfold zbn at H
 refine Ctr.zao (N:=32) Tryz.func24 (by kernel_rfl) (c:=_) rfl Tryz.ntmps24 rfl (fun w0 h0 hval=>?_)
 refine W.rg env [1] [1] ?_
 refine W.seq ?_
 refine W.seq ?_
 obtain ⟨y1,hy2,H⟩:=zah H
 refine W.region env [] [⟨.bool (y1),[],0,[]⟩,⟨.bool ((zan p0.Minutes.Lo 0 p0.Minutes.Hi)),[],0,[]⟩] rfl rfl rfl (.cons id (.cons id (.cons id (.cons id (.cons id (.cons id (.cons id (.cons (fun h=>by rw [h];rfl) (.cons id (.cons id (.cons id (.cons (fun h=>by rw [h];rfl) .nil)))))))))))) (.free (zcL (⟨p0.Source,p0.Lamp,p0.Night,p0.Known,p0.Until⟩:(Arr5 Int)) hy2) (.on (fun hW=>zaY p0.Minutes.Lo 0 p0.Minutes.Hi) .nil)) (At.keep (ts:=[31]) (ids:=[]) rfl rfl ?_)
 refine At.zai ?_
 refine W.cond rfl (fun hb3=>?_) (fun hb3=>?_)
 · have H:=zal H hb3
   refine W.rg env [2] [] ?_
   refine W.ret ?_
   refine At.rthen ?_
   cases H
   exact At.ret env.ty rfl rfl nofun (.refl _) hval
 · have H:=zaj H hb3
   refine W.skip ?_
   refine At.zai ?_
   refine W.rg env [2] [] ?_
   refine W.ret ?_
   cases H
   exact At.ret env.ty rfl rfl nofun (.refl _) hval
theorem zeT (p0:Look) {r:Int} (H:zbm p0=some r):Ctr Tryz.prog 26 [.agg [.int .i64 (p0.Source),.int .i64 (p0.Lamp),.int .i64 (p0.Night),.bool (p0.Bad),.int .i64 (p0.Known),.int .i64 (p0.Until)]] (.int .i64 (r)):=by
 unfold zbm at H
 refine Ctr.zao (N:=16) Tryz.func26 (by kernel_rfl) (c:=_) rfl Tryz.ntmps26 rfl (fun w0 h0 hval=>?_)
 refine W.rg env [1] [1] ?_
 refine W.seq ?_
 refine W.seq ?_
 obtain ⟨y1,hy2,H⟩:=zah H
 refine W.region env [] [⟨.bool (y1),[],0,[]⟩] rfl rfl rfl .nil (.free (zcL (⟨p0.Source,p0.Lamp,p0.Night,p0.Known,p0.Until⟩:(Arr5 Int)) hy2) .nil) (At.keep (ts:=[15]) (ids:=[]) rfl rfl ?_)
 refine At.zai ?_
 refine W.cond rfl (fun hb3=>?_) (fun hb3=>?_)
 · have H:=zal H hb3
   refine W.rg env [2] [] ?_
   refine W.ret ?_
   refine At.rthen ?_
   cases H
   exact At.ret env.ty rfl rfl nofun (.refl _) hval
 · have H:=zaj H hb3
   refine W.skip ?_
   refine At.zai ?_
   refine W.rg env [2] [] ?_
   refine W.ret ?_
   cases H
   exact At.ret env.ty rfl rfl nofun (.refl _) hval
theorem zgl (fuel:Nat) (p0:Wear) {r:Int} (H:zbd fuel p0=some r):Ctr Tryz.prog 18 [.agg [roL 3 zac p0.Batches,roL 6 zaa p0.Mantles,roL 7 zaf p0.Burns,roL 6 zab p0.Looks]] (.int .i64 (r)):=by
 unfold zbd at H
 refine Ctr.zao (N:=176) Tryz.func18 (by kernel_rfl) (c:=_) rfl Tryz.ntmps18 rfl (fun w0 h0 hval=>?_)
 refine W.rg env [1] [1] ?_
 refine W.seq ?_
 refine W.sr env [] [] [1,28] [1] rfl rfl rfl (.cons id (.cons id (.cons id (.cons (fun h=>by rw [h];rfl) (.cons id (.cons id (.cons id (.cons (fun h=>by rw [h];rfl) (.cons id (.cons id (.cons id (.cons (fun h=>by rw [h];rfl) .nil)))))))))))) .nil ?_
 refine W.cond rfl (fun hb1=>?_) (fun hb1=>?_)
 · have H:=zal H hb1
   refine W.rg env [2] [] ?_
   refine W.ret ?_
   refine At.rthen ?_
   cases H
   exact At.ret env.ty rfl rfl nofun (.refl _) hval
 · have H:=zaj H hb1
   refine W.skip ?_
   refine At.zai ?_
   refine W.seq ?_
   refine W.rg env [1,3] [1] ?_
   refine W.block ?_
   refine At.keep (ts:=[1,3]) (ids:=[1]) rfl rfl ?_
   refine W.loopGo H (fun (s2:Int)=>[(1,.lp 1 0),(3,.int .i64 (s2))]) (fun (s2:Int)=>[(1,.cells [roL 3 zac p0.Batches,roL 6 zaa p0.Mantles,roL 7 zaf p0.Burns,roL 6 zab p0.Looks])]) (.cons .q (.cons .qi .nil)) (.cons .q .nil) (fun k2 s2 H K0 hK2=>?_)
   refine W.seq ?_
   refine W.rg env [1,3,33] [1] ?_
   refine W.cond rfl (fun hb3=>?_) (fun hb3=>?_)
   · have H:=zal H hb3
     refine W.skip ?_
     refine At.zai ?_
     refine W.seq ?_
     refine W.block ?_
     obtain ⟨hc4,H⟩:=zag H
     obtain ⟨hc5,H⟩:=zag H
     obtain ⟨hc6,H⟩:=zag H
     obtain ⟨hc7,H⟩:=zag H
     refine W.sr env [] [⟨.int .i64 ((zaC (p0.Batches.getD (s2).toNat default))),[],0,[]⟩] [1,3,62] [1] rfl rfl (by kernel_rfl) (.cons hc4 (.cons id (.cons id (.cons id (.cons hc5 (.cons id (.cons hc6 (.cons id (.cons id (.cons id (.cons id (.cons id (.cons hc7 (.cons id (.cons id (.cons id (.cons id (.cons id (.cons id (.cons id (.cons (fun hW h=>by revert hW h;first|(simp +contextual;done)|grind) (.cons (fun h=>by rw [h];rfl) .nil)))))))))))))))))))))) (.free (zeD (p0.Batches.getD (s2).toNat default)) .nil) ?_
     refine W.cond rfl (fun hb8=>?_) (fun hb8=>?_)
     · have H:=zal H hb8
       refine W.rg env [2] [] ?_
       refine W.ret ?_
       refine At.rinb ?_
       refine At.rthen ?_
       refine At.rthen ?_
       refine At.rinb ?_
       refine At.rthen ?_
       cases H
       exact At.ret env.ty rfl rfl nofun (.refl _) hval
     · have H:=zaj H hb8
       refine W.skip ?_
       refine At.inb ?_
       refine At.zai ?_
       obtain ⟨hc9,H⟩:=zag H
       refine W.region env [] [] rfl rfl rfl (.cons hc9 .nil) .nil (At.keep (ts:=[1,3]) (ids:=[1]) rfl rfl ?_)
       refine At.zaE (At.keep (ts:=[1,3]) (ids:=[1]) rfl rfl ?_)
       exact At.conv (.cons .q (.cons .qi .nil)) (.cons .q .nil) (hK2 (s2+1) H)
   · have H:=zaj H hb3
     refine W.exit ?_
     refine At.xthen ?_
     refine At.xthen ?_
     refine At.xhere ?_
     refine At.zai ?_
     refine W.seq ?_
     refine W.rg env [1,4] [1] ?_
     refine W.block ?_
     refine At.keep (ts:=[1,4]) (ids:=[1]) rfl rfl ?_
     refine W.loopGo H (fun (s10:Int)=>[(1,.lp 1 0),(4,.int .i64 (s10))]) (fun (s10:Int)=>[(1,.cells [roL 3 zac p0.Batches,roL 6 zaa p0.Mantles,roL 7 zaf p0.Burns,roL 6 zab p0.Looks])]) (.cons .q (.cons .qi .nil)) (.cons .q .nil) (fun k10 s10 H K0 hK10=>?_)
     refine W.seq ?_
     refine W.rg env [1,4,67] [1] ?_
     refine W.cond rfl (fun hb11=>?_) (fun hb11=>?_)
     · have H:=zal H hb11
       refine W.skip ?_
       refine At.zai ?_
       refine W.seq ?_
       refine W.block ?_
       refine W.seq ?_
       obtain ⟨hc12,H⟩:=zag H
       obtain ⟨y13,hy14,H⟩:=zah H
       obtain ⟨hc15,H⟩:=zag H
       obtain ⟨y16,hy17,H⟩:=zah H
       obtain ⟨hc18,H⟩:=zag H
       obtain ⟨hc19,H⟩:=zag H
       obtain ⟨hc20,H⟩:=zag H
       refine W.region env [] [⟨.int .i64 (y13),[],0,[]⟩,⟨.bool (y16),[],0,[]⟩] rfl rfl (by kernel_rfl) (.cons hc12 (.cons id (.cons hc15 (.cons id (.cons id (.cons id (.cons id (.cons id (.cons id (.cons id (.cons (fun h=>by rw [h];rfl) (.cons id (.cons id (.cons id (.cons hc18 (.cons id (.cons hc19 (.cons id (.cons id (.cons id (.cons id (.cons id (.cons hc20 (.cons id (.cons id (.cons id (.cons id (.cons id (.cons id (.cons id (.cons (fun hW h=>by revert hW h;first|(simp +contextual;done)|grind) (.cons (fun h=>by rw [h];rfl) .nil)))))))))))))))))))))))))))))))) (.free (zeA (p0.Mantles.getD (s10).toNat default) hy14) (.on (fun hW=>ze8 fuel p0 ((p0.Mantles.getD (s10).toNat default).Batch) (zal hy17 hW)) .nil)) (At.keep (ts:=[1,4,107]) (ids:=[1]) rfl rfl ?_)
       refine At.zai ?_
       refine W.cond rfl (fun hb21=>?_) (fun hb21=>?_)
       · have H:=zal H hb21
         refine W.rg env [2] [] ?_
         refine W.ret ?_
         refine At.rinb ?_
         refine At.rthen ?_
         refine At.rthen ?_
         refine At.rinb ?_
         refine At.rthen ?_
         cases H
         exact At.ret env.ty rfl rfl nofun (.refl _) hval
       · have H:=zaj H hb21
         refine W.skip ?_
         refine At.inb ?_
         refine At.zai ?_
         obtain ⟨hc22,H⟩:=zag H
         refine W.region env [] [] rfl rfl rfl (.cons hc22 .nil) .nil (At.keep (ts:=[1,4]) (ids:=[1]) rfl rfl ?_)
         refine At.zaE (At.keep (ts:=[1,4]) (ids:=[1]) rfl rfl ?_)
         exact At.conv (.cons .q (.cons .qi .nil)) (.cons .q .nil) (hK10 (s10+1) H)
     · have H:=zaj H hb11
       refine W.exit ?_
       refine At.xthen ?_
       refine At.xthen ?_
       refine At.xhere ?_
       refine At.zai ?_
       refine W.seq ?_
       refine W.rg env [1,5] [1] ?_
       refine W.block ?_
       refine At.keep (ts:=[1,5]) (ids:=[1]) rfl rfl ?_
       refine W.loopGo H (fun (s23:Int)=>[(1,.lp 1 0),(5,.int .i64 (s23))]) (fun (s23:Int)=>[(1,.cells [roL 3 zac p0.Batches,roL 6 zaa p0.Mantles,roL 7 zaf p0.Burns,roL 6 zab p0.Looks])]) (.cons .q (.cons .qi .nil)) (.cons .q .nil) (fun k23 s23 H K0 hK23=>?_)
       refine W.seq ?_
       refine W.rg env [1,5,112] [1] ?_
       refine W.cond rfl (fun hb24=>?_) (fun hb24=>?_)
       · have H:=zal H hb24
         refine W.skip ?_
         refine At.zai ?_
         refine W.seq ?_
         refine W.block ?_
         refine W.seq ?_
         obtain ⟨hc25,H⟩:=zag H
         obtain ⟨y26,hy27,H⟩:=zah H
         obtain ⟨hc28,H⟩:=zag H
         obtain ⟨hc29,H⟩:=zag H
         obtain ⟨hc30,H⟩:=zag H
         refine W.region env [] [⟨.int .i64 (y26),[],0,[]⟩] rfl rfl (by kernel_rfl) (.cons hc25 (.cons id (.cons id (.cons id (.cons hc28 (.cons id (.cons hc29 (.cons id (.cons id (.cons id (.cons id (.cons id (.cons hc30 (.cons id (.cons id (.cons id (.cons id (.cons id (.cons id (.cons id (.cons (fun hW h=>by revert hW h;first|(simp +contextual;done)|grind) (.cons (fun h=>by rw [h];rfl) .nil)))))))))))))))))))))) (.free (zeU (p0.Burns.getD (s23).toNat default) hy27) .nil) (At.keep (ts:=[1,5,141]) (ids:=[1]) rfl rfl ?_)
         refine At.zai ?_
         refine W.cond rfl (fun hb31=>?_) (fun hb31=>?_)
         · have H:=zal H hb31
           refine W.rg env [2] [] ?_
           refine W.ret ?_
           refine At.rinb ?_
           refine At.rthen ?_
           refine At.rthen ?_
           refine At.rinb ?_
           refine At.rthen ?_
           cases H
           exact At.ret env.ty rfl rfl nofun (.refl _) hval
         · have H:=zaj H hb31
           refine W.skip ?_
           refine At.inb ?_
           refine At.zai ?_
           obtain ⟨hc32,H⟩:=zag H
           refine W.region env [] [] rfl rfl rfl (.cons hc32 .nil) .nil (At.keep (ts:=[1,5]) (ids:=[1]) rfl rfl ?_)
           refine At.zaE (At.keep (ts:=[1,5]) (ids:=[1]) rfl rfl ?_)
           exact At.conv (.cons .q (.cons .qi .nil)) (.cons .q .nil) (hK23 (s23+1) H)
       · have H:=zaj H hb24
         refine W.exit ?_
         refine At.xthen ?_
         refine At.xthen ?_
         refine At.xhere ?_
         refine At.zai ?_
         refine W.seq ?_
         refine W.rg env [1,6] [1] ?_
         refine W.block ?_
         refine At.keep (ts:=[1,6]) (ids:=[1]) rfl rfl ?_
         refine W.loopGo H (fun (s33:Int)=>[(1,.lp 1 0),(6,.int .i64 (s33))]) (fun (s33:Int)=>[(1,.cells [roL 3 zac p0.Batches,roL 6 zaa p0.Mantles,roL 7 zaf p0.Burns,roL 6 zab p0.Looks])]) (.cons .q (.cons .qi .nil)) (.cons .q .nil) (fun k33 s33 H K0 hK33=>?_)
         refine W.seq ?_
         refine W.rg env [1,6,146] [1] ?_
         refine W.cond rfl (fun hb34=>?_) (fun hb34=>?_)
         · have H:=zal H hb34
           refine W.skip ?_
           refine At.zai ?_
           refine W.seq ?_
           refine W.block ?_
           refine W.seq ?_
           obtain ⟨hc35,H⟩:=zag H
           obtain ⟨y36,hy37,H⟩:=zah H
           obtain ⟨hc38,H⟩:=zag H
           obtain ⟨hc39,H⟩:=zag H
           obtain ⟨hc40,H⟩:=zag H
           refine W.region env [] [⟨.int .i64 (y36),[],0,[]⟩] rfl rfl (by kernel_rfl) (.cons hc35 (.cons id (.cons id (.cons id (.cons hc38 (.cons id (.cons hc39 (.cons id (.cons id (.cons id (.cons id (.cons id (.cons hc40 (.cons id (.cons id (.cons id (.cons id (.cons id (.cons id (.cons id (.cons (fun hW h=>by revert hW h;first|(simp +contextual;done)|grind) (.cons (fun h=>by rw [h];rfl) .nil)))))))))))))))))))))) (.free (zeT (p0.Looks.getD (s33).toNat default) hy37) .nil) (At.keep (ts:=[1,6,175]) (ids:=[1]) rfl rfl ?_)
           refine At.zai ?_
           refine W.cond rfl (fun hb41=>?_) (fun hb41=>?_)
           · have H:=zal H hb41
             refine W.rg env [2] [] ?_
             refine W.ret ?_
             refine At.rinb ?_
             refine At.rthen ?_
             refine At.rthen ?_
             refine At.rinb ?_
             refine At.rthen ?_
             cases H
             exact At.ret env.ty rfl rfl nofun (.refl _) hval
           · have H:=zaj H hb41
             refine W.skip ?_
             refine At.inb ?_
             refine At.zai ?_
             obtain ⟨hc42,H⟩:=zag H
             refine W.region env [] [] rfl rfl rfl (.cons hc42 .nil) .nil (At.keep (ts:=[1,6]) (ids:=[1]) rfl rfl ?_)
             refine At.zaE (At.keep (ts:=[1,6]) (ids:=[1]) rfl rfl ?_)
             exact At.conv (.cons .q (.cons .qi .nil)) (.cons .q .nil) (hK33 (s33+1) H)
         · have H:=zaj H hb34
           refine W.exit ?_
           refine At.xthen ?_
           refine At.xthen ?_
           refine At.xhere ?_
           refine At.zai ?_
           refine W.rg env [2] [] ?_
           refine W.ret ?_
           cases H
           exact At.ret env.ty rfl rfl nofun (.refl _) hval
theorem zbz (p0:Int) (p1:Int) (p2:Int):Ctr Tryz.prog 153 [.int .i64 (p0),.int .i64 (p1),.int .i64 (p2)] (.bool ((zaz p0 p1 p2))):=by
 obtain ⟨r,H⟩:∃ r,zaz p0 p1 p2=r:=⟨_,rfl⟩
 rw [H]
 unfold zaz at H
 refine Ctr.zao (N:=19) Tryz.func153 (by kernel_rfl) (c:=_) rfl Tryz.ntmps153 rfl (fun w0 h0 hval=>?_)
 refine W.rg env [0,1,2] [] ?_
 refine W.sr env [] [] [6] [] rfl rfl rfl (.cons id (.cons id (.cons id (.cons id (.cons id (.cons (fun hW h=>by revert hW h;first|(simp +contextual;done)|grind) (.cons id .nil))))))) .nil ?_
 refine W.ret ?_
 cases H
 exact At.ret env.ty rfl rfl nofun (.refl _) hval
theorem zcQ (fuel:Nat) (p0:Wear) (p1:Int) (p2:Int) (p3:Int) {r:(Mantle×Bool)} (H:zbq fuel p0 p1 p2 p3=some r):Ctr Tryz.prog 94 [.agg [roL 3 zac p0.Batches,roL 6 zaa p0.Mantles,roL 7 zaf p0.Burns,roL 6 zab p0.Looks],.int .i64 (p1),.int .i64 (p2),.int .i64 (p3)] (.tup [.agg [.int .i64 (r.1.Source),.int .i64 (r.1.Lamp),.int .i64 (r.1.Batch),.int .i64 (r.1.Night),.int .i64 (r.1.Known),.int .i64 (r.1.Until)],.bool (r.2)]):=by
 unfold zbq at H
 refine Ctr.zao (N:=58) Tryz.func94 (by kernel_rfl) (c:=_) rfl Tryz.ntmps94 rfl (fun w0 h0 hval=>?_)
 refine W.rg env [1,2,3,4,8] [4,8] ?_
 refine W.rg env [1,2,3,4,8,10] [4,8,10] ?_
 refine W.rg env [1,2,3,4,8,10,11] [4,8,10] ?_
 refine W.seq ?_
 refine W.rg env [1,2,3,4,8,10,11,12] [4,8,10] ?_
 refine W.block ?_
 refine At.keep (ts:=[1,2,3,4,8,10,11,12]) (ids:=[4,8,10]) rfl rfl ?_
 refine W.loopGo H (fun (s1:Bool×Int×Mantle)=>[(1,.int .i64 (p1)),(2,.int .i64 (p2)),(3,.int .i64 (p3)),(4,.lp 4 0),(8,.lp 8 0),(10,.lp 10 0),(11,.bool (s1.1)),(12,.int .i64 (s1.2.1))]) (fun (s1:Bool×Int×Mantle)=>[(4,.cells [roL 3 zac p0.Batches,roL 6 zaa p0.Mantles,roL 7 zaf p0.Burns,roL 6 zab p0.Looks]),(8,.cells [.int .i64 (0),.int .i64 (0),.int .i64 (0),.int .i64 (0),.int .i64 (0),.int .i64 (0)]),(10,.cells [.int .i64 (s1.2.2.Source),.int .i64 (s1.2.2.Lamp),.int .i64 (s1.2.2.Batch),.int .i64 (s1.2.2.Night),.int .i64 (s1.2.2.Known),.int .i64 (s1.2.2.Until)])]) (.cons .qi (.cons .qi (.cons .qi (.cons .q (.cons .q (.cons .q (.cons .q (.cons .qi .nil)))))))) (.cons .q (.cons .q (.cons .q .nil))) (fun k1 s1 H K0 hK1=>?_)
 refine W.seq ?_
 refine W.rg env [1,2,3,4,8,10,11,12,18] [4,8,10] ?_
 refine W.cond rfl (fun hb2=>?_) (fun hb2=>?_)
 · have H:=zal H hb2
   refine W.skip ?_
   refine At.zai ?_
   refine W.seq ?_
   refine W.block ?_
   obtain ⟨hc3,H⟩:=zag H
   refine W.sr env [] [] [1,2,3,4,8,10,11,12,13] [4,8,10,13] rfl rfl rfl (.cons hc3 .nil) .nil ?_
   refine W.sr env [] [⟨.bool ((zaz ((p0.Mantles.getD (s1.2.1).toNat default).Known) ((p0.Mantles.getD (s1.2.1).toNat default).Until) p3)),[],0,[]⟩] [1,2,3,4,8,10,11,12,13,54] [4,8,10,13] rfl rfl rfl (.cons id (.cons id (.cons id (.cons id (.cons id (.cons id (.cons id (.cons id (.cons id (.cons id (.cons id (.cons id (.cons id (.cons id (.cons id (.cons id (.cons id (.cons (fun hW h=>by revert hW h;first|(simp +contextual;done)|grind) (.cons id .nil))))))))))))))))))) (.on (fun hW=>zbz ((p0.Mantles.getD (s1.2.1).toNat default).Known) ((p0.Mantles.getD (s1.2.1).toNat default).Until) p3) .nil) ?_
   refine W.cond rfl (fun hb4=>?_) (fun hb4=>?_)
   · have H:=zal H hb4
     refine W.rg env [1,2,3,4,8,10,12] [4,8,10] ?_
     refine W.region env [] [] rfl rfl rfl .nil .nil (At.keep (ts:=[1,2,3,4,8,10,11,12]) (ids:=[4,8,10]) rfl rfl ?_)
     refine At.inb ?_
     refine At.zai ?_
     obtain ⟨hc5,H⟩:=zag H
     refine W.region env [] [] rfl rfl rfl (.cons hc5 .nil) .nil (At.keep (ts:=[1,2,3,4,8,10,11,12]) (ids:=[4,8,10]) rfl rfl ?_)
     refine At.zaE (At.keep (ts:=[1,2,3,4,8,10,11,12]) (ids:=[4,8,10]) rfl rfl ?_)
     exact At.conv (.cons .qi (.cons .qi (.cons .qi (.cons .q (.cons .q (.cons .q (.cons .q (.cons .qi .nil)))))))) (.cons .q (.cons .q (.cons .q .nil))) (hK1 (true,(s1.2.1+1),(p0.Mantles.getD (s1.2.1).toNat default)) H)
   · have H:=zaj H hb4
     refine W.skip ?_
     refine At.inb ?_
     refine At.zai ?_
     obtain ⟨hc6,H⟩:=zag H
     refine W.region env [] [] rfl rfl rfl (.cons hc6 .nil) .nil (At.keep (ts:=[1,2,3,4,8,10,11,12]) (ids:=[4,8,10]) rfl rfl ?_)
     refine At.zaE (At.keep (ts:=[1,2,3,4,8,10,11,12]) (ids:=[4,8,10]) rfl rfl ?_)
     exact At.conv (.cons .qi (.cons .qi (.cons .qi (.cons .q (.cons .q (.cons .q (.cons .q (.cons .qi .nil)))))))) (.cons .q (.cons .q (.cons .q .nil))) (hK1 (s1.1,(s1.2.1+1),s1.2.2) H)
 · have H:=zaj H hb2
   refine W.exit ?_
   refine At.xthen ?_
   refine At.xthen ?_
   refine At.xhere ?_
   refine At.zai ?_
   refine W.rg env [8,9] [8] ?_
   refine W.ret ?_
   cases H
   exact At.ret env.ty rfl rfl nofun (.refl _) hval
theorem zcK (fuel:Nat) (p0:Wear) (p1:gasolierref06_When) {r:(Mantle×Int)} (H:zaU fuel p0 p1=some r):Ctr Tryz.prog 99 [.agg [roL 3 zac p0.Batches,roL 6 zaa p0.Mantles,roL 7 zaf p0.Burns,roL 6 zab p0.Looks],.agg [.int .i64 (p1.Lamp),.int .i64 (p1.Night),.int .i64 (p1.Known)]] (.tup [.agg [.int .i64 (r.1.Source),.int .i64 (r.1.Lamp),.int .i64 (r.1.Batch),.int .i64 (r.1.Night),.int .i64 (r.1.Known),.int .i64 (r.1.Until)],.int .i64 (r.2)]):=by
 unfold zaU at H
 refine Ctr.zao (N:=43) Tryz.func99 (by kernel_rfl) (c:=_) rfl Tryz.ntmps99 rfl (fun w0 h0 hval=>?_)
 refine W.rg env [2,3,4] [2,3,4] ?_
 refine W.seq ?_
 refine W.seq ?_
 obtain ⟨y1,hy2,H⟩:=zah H
 refine W.region env [] [⟨.int .i64 (y1),[],0,[]⟩] rfl rfl rfl .nil (.free (zgl fuel p0 hy2) .nil) (At.keep (ts:=[2,3,4,10]) (ids:=[2,3,4]) rfl rfl ?_)
 refine At.zai ?_
 refine W.cond rfl (fun hb3=>?_) (fun hb3=>?_)
 · have H:=zal H hb3
   refine W.rg env [4,5] [4] ?_
   refine W.ret ?_
   refine At.rthen ?_
   cases H
   exact At.ret env.ty rfl rfl nofun (.refl _) hval
 · have H:=zaj H hb3
   refine W.skip ?_
   refine At.zai ?_
   refine W.seq ?_
   refine W.sr env [] [⟨.bool ((zan p1.Lamp 1 999)),[],0,[]⟩] [2,3,4,15] [2,3,4] rfl rfl rfl .nil (.free (zaY p1.Lamp 1 999) .nil) ?_
   refine W.cond rfl (fun hb4=>?_) (fun hb4=>?_)
   · have H:=zal H hb4
     refine W.rg env [4,5] [4] ?_
     refine W.ret ?_
     refine At.rthen ?_
     cases H
     exact At.ret env.ty rfl rfl nofun (.refl _) hval
   · have H:=zaj H hb4
     refine W.skip ?_
     refine At.zai ?_
     refine W.seq ?_
     refine W.sr env [] [⟨.bool ((zav p1.Night)),[],0,[]⟩,⟨.bool ((zav p1.Known)),[],0,[]⟩] [2,3,4,26] [2,3,4] rfl rfl rfl (.cons id (.cons id (.cons id (.cons (fun h=>by rw [h];rfl) .nil)))) (.free (zbX p1.Night) (.on (fun hW=>zbX p1.Known) .nil)) ?_
     refine W.cond rfl (fun hb5=>?_) (fun hb5=>?_)
     · have H:=zal H hb5
       refine W.rg env [4,5] [4] ?_
       refine W.ret ?_
       refine At.rthen ?_
       cases H
       exact At.ret env.ty rfl rfl nofun (.refl _) hval
     · have H:=zaj H hb5
       refine W.skip ?_
       refine At.zai ?_
       refine W.seq ?_
       obtain ⟨y6,hy7,H⟩:=zah H
       refine W.region env [] [⟨.tup [.agg [.int .i64 (y6.1.Source),.int .i64 (y6.1.Lamp),.int .i64 (y6.1.Batch),.int .i64 (y6.1.Night),.int .i64 (y6.1.Known),.int .i64 (y6.1.Until)],.bool (y6.2)],[],0,[]⟩] rfl rfl rfl .nil (.free (zcQ fuel p0 p1.Lamp p1.Night p1.Known hy7) .nil) (At.keep (ts:=[4,6,7]) (ids:=[4,6]) rfl rfl ?_)
       refine At.zai ?_
       refine W.seq ?_
       refine W.rg env [4,6,40] [4,6] ?_
       refine W.cond rfl (fun hb8=>?_) (fun hb8=>?_)
       · have H:=zal H hb8
         refine W.rg env [4,5] [4] ?_
         refine W.ret ?_
         refine At.rthen ?_
         cases H
         exact At.ret env.ty rfl rfl nofun (.refl _) hval
       · have H:=zaj H hb8
         refine W.skip ?_
         refine At.zai ?_
         refine W.rg env [4,5] [4] ?_
         refine W.ret ?_
         cases H
         exact At.ret env.ty rfl rfl nofun (.refl _) hval
theorem zfF (fuel:Nat) (p0:Wear) (p1:gasolierref06_When) {r:(Int×Int)} (H:za7 fuel p0 p1=some r):Ctr Tryz.prog 36 [.agg [roL 3 zac p0.Batches,roL 6 zaa p0.Mantles,roL 7 zaf p0.Burns,roL 6 zab p0.Looks],.agg [.int .i64 (p1.Lamp),.int .i64 (p1.Night),.int .i64 (p1.Known)]] (.tup [.int .i64 (r.1),.int .i64 (r.2)]):=by
 unfold za7 at H
 refine Ctr.zao (N:=17) Tryz.func36 (by kernel_rfl) (c:=_) rfl Tryz.ntmps36 rfl (fun w0 h0 hval=>?_)
 refine W.rg env [2,3] [2,3] ?_
 refine W.seq ?_
 obtain ⟨y1,hy2,H⟩:=zah H
 refine W.region env [] [⟨.tup [.agg [.int .i64 (y1.1.Source),.int .i64 (y1.1.Lamp),.int .i64 (y1.1.Batch),.int .i64 (y1.1.Night),.int .i64 (y1.1.Known),.int .i64 (y1.1.Until)],.int .i64 (y1.2)],[],0,[]⟩] rfl rfl rfl .nil (.free (zcK fuel p0 p1 hy2) .nil) (At.keep (ts:=[6,7]) (ids:=[6]) rfl rfl ?_)
 refine At.zai ?_
 refine W.rg env [4,5] [] ?_
 refine W.ret ?_
 cases H
 exact At.ret env.ty rfl rfl nofun (.refl _) hval
theorem zfx (fuel:Nat) (p0:Wear) (p1:Int) {r:(List Bool)} (H:zbI fuel p0 p1=some r):Ctr Tryz.prog 144 [.agg [roL 3 zac p0.Batches,roL 6 zaa p0.Mantles,roL 7 zaf p0.Burns,roL 6 zab p0.Looks],.int .i64 (p1)] (roL 1 zej r):=by
 unfold zbI at H
 refine Ctr.zao (N:=86) Tryz.func144 (by kernel_rfl) (c:=_) rfl Tryz.ntmps144 rfl (fun w0 h0 hval=>?_)
 refine W.rg env [1,2] [2] ?_
 refine W.rg env [1,2,5] [2] ?_
 refine W.seq ?_
 refine W.rg env [1,2,5,6] [2] ?_
 refine W.block ?_
 refine At.zfR 5 505 4 1 (e:=fun i=>zej (([]:List Bool).getD i default)) rfl rfl ?_
 refine At.keep (ts:=[1,2,5,6]) (ids:=[2,505]) rfl rfl ?_
 refine W.loopGo H (fun (s1:Int×(List Bool))=>[(1,.int .i64 (p1)),(2,.lp 2 0),(5,.buf 505 (s1.2).length),(6,.int .i64 (s1.1))]) (fun (s1:Int×(List Bool))=>[(2,.cells [roL 3 zac p0.Batches,roL 6 zaa p0.Mantles,roL 7 zaf p0.Burns,roL 6 zab p0.Looks]),(505,bufL 4 1 zej s1.2)]) (.cons .qi (.cons .q (.cons .qb (.cons .qi .nil)))) (.cons .q (.cons .q .nil)) (fun k1 s1 H K0 hK1=>?_)
 refine W.seq ?_
 refine W.rg env [1,2,5,6,16] [2,505] ?_
 refine W.cond rfl (fun hb2=>?_) (fun hb2=>?_)
 · have H:=zal H hb2
   refine W.skip ?_
   refine At.zai ?_
   refine W.seq ?_
   refine W.block ?_
   obtain ⟨hc3,H⟩:=zag H
   refine W.sr env [] [] [1,2,5,6,7] [2,7,505] rfl rfl rfl (.cons hc3 .nil) .nil ?_
   refine W.seq ?_
   obtain ⟨y4,hy5,H⟩:=zah H
   refine W.region env [] [⟨.tup [.agg [.int .i64 (y4.1.Source),.int .i64 (y4.1.Lamp),.int .i64 (y4.1.Batch),.int .i64 (y4.1.Night),.int .i64 (y4.1.Known),.int .i64 (y4.1.Until)],.bool (y4.2)],[],0,[]⟩] rfl rfl rfl .nil (.free (zcQ fuel p0 ((p0.Burns.getD (s1.1).toNat default).Lamp) ((p0.Burns.getD (s1.1).toNat default).Night) p1 hy5) .nil) (At.keep (ts:=[1,2,5,6,7,9]) (ids:=[2,7,505]) rfl rfl ?_)
   refine At.zai ?_
   refine W.sr env [] [⟨.bool ((zaz ((p0.Burns.getD (s1.1).toNat default).Known) ((p0.Burns.getD (s1.1).toNat default).Until) p1)),[],0,[]⟩] [1,2,5,6,7,9] [2,7,505] rfl rfl rfl (.cons id (.cons id (.cons id (.cons id (.cons id (.cons id .nil)))))) (.on (fun hW=>zbz ((p0.Burns.getD (s1.1).toNat default).Known) ((p0.Burns.getD (s1.1).toNat default).Until) p1) .nil) ?_
   refine W.seq ?_
   obtain ⟨hc6,H⟩:=zag H
   refine W.sr env [] [] [1,2,5,6,7,9,10] [2,7,505] rfl rfl rfl (.cons hc6 .nil) .nil ?_
   refine W.block ?_
   refine At.keep (ts:=[1,2,5,6,7,9,10]) (ids:=[2,7,505]) rfl rfl ?_
   refine W.loopGo H (fun (s7:Int×Bool)=>[(1,.int .i64 (p1)),(2,.lp 2 0),(5,.buf 505 (s1.2).length),(6,.int .i64 (s1.1)),(7,.lp 7 0),(9,.bool (s7.2)),(10,.int .i64 (s7.1))]) (fun (s7:Int×Bool)=>[(2,.cells [roL 3 zac p0.Batches,roL 6 zaa p0.Mantles,roL 7 zaf p0.Burns,roL 6 zab p0.Looks]),(7,.cells [.int .i64 ((p0.Burns.getD (s1.1).toNat default).Source),.int .i64 ((p0.Burns.getD (s1.1).toNat default).Lamp),.int .i64 ((p0.Burns.getD (s1.1).toNat default).Night),.int .i64 ((p0.Burns.getD (s1.1).toNat default).Minutes.Lo),.int .i64 ((p0.Burns.getD (s1.1).toNat default).Minutes.Hi),.int .i64 ((p0.Burns.getD (s1.1).toNat default).Known),.int .i64 ((p0.Burns.getD (s1.1).toNat default).Until)]),(505,bufL 4 1 zej s1.2)]) (.cons .qi (.cons .q (.cons .qb (.cons .qi (.cons .q (.cons .q (.cons .qi .nil))))))) (.cons .q (.cons .q (.cons .q .nil))) (fun k7 s7 H K0 hK7=>?_)
   refine W.seq ?_
   refine W.rg env [1,2,5,6,7,9,10,49] [2,7,505] ?_
   refine W.cond rfl (fun hb8=>?_) (fun hb8=>?_)
   · have H:=zal H hb8
     refine W.skip ?_
     refine At.zai ?_
     refine W.seq ?_
     refine W.block ?_
     obtain ⟨hc9,H⟩:=zag H
     refine W.sr env [] [] [1,2,5,6,7,9,10,11] [2,7,11,505] rfl rfl rfl (.cons hc9 .nil) .nil ?_
     refine W.region env [] [⟨.bool ((zaz ((p0.Burns.getD (s7.1).toNat default).Known) ((p0.Burns.getD (s7.1).toNat default).Until) p1)),[],0,[]⟩] rfl rfl rfl (.cons id (.cons id (.cons id (.cons id (.cons id (.cons id (.cons id (.cons id (.cons id (.cons id (.cons (fun hW h=>by revert hW h;first|(simp +contextual;done)|grind) (.cons id (.cons id (.cons id (.cons id (.cons id (.cons id (.cons id (.cons id (.cons (fun hW h=>by revert hW h;first|(simp +contextual;done)|grind) (.cons id .nil))))))))))))))))))))) (.on (fun hW=>zbz ((p0.Burns.getD (s7.1).toNat default).Known) ((p0.Burns.getD (s7.1).toNat default).Until) p1) .nil) (At.keep (ts:=[1,2,5,6,7,9,10]) (ids:=[2,7,505]) rfl rfl ?_)
     refine At.inb ?_
     refine At.zai ?_
     obtain ⟨hc10,H⟩:=zag H
     refine W.region env [] [] rfl rfl rfl (.cons hc10 .nil) .nil (At.keep (ts:=[1,2,5,6,7,9,10]) (ids:=[2,7,505]) rfl rfl ?_)
     refine At.zaE (At.keep (ts:=[1,2,5,6,7,9,10]) (ids:=[2,7,505]) rfl rfl ?_)
     exact At.conv (.cons .qi (.cons .q (.cons .qb (.cons .qi (.cons .q (.cons .q (.cons .qi .nil))))))) (.cons .q (.cons .q (.cons .q .nil))) (hK7 ((s7.1+1),(s7.2 && (((!decide ((p0.Burns.getD (s7.1).toNat default).Lamp=(p0.Burns.getD (s1.1).toNat default).Lamp)) || (!decide ((p0.Burns.getD (s7.1).toNat default).Night=(p0.Burns.getD (s1.1).toNat default).Night))) || (!(zaz ((p0.Burns.getD (s7.1).toNat default).Known) ((p0.Burns.getD (s7.1).toNat default).Until) p1))))) H)
   · have H:=zaj H hb8
     refine W.exit ?_
     refine At.xthen ?_
     refine At.xthen ?_
     refine At.xhere ?_
     refine At.zai ?_
     obtain ⟨hc11,H⟩:=zag H
     refine W.region env [] [] rfl rfl rfl (.cons (⟨by first|rfl|(simp;done)|omega|(simp;omega),by have:=hc11;first|simpa using this|(unfold room at this ⊢;simp at this ⊢;omega)⟩) .nil) .nil (At.keep (ts:=[1,2,5,6]) (ids:=[2,505]) rfl rfl ?_)
     refine At.zbJ (.cons (.refl _) (.cons (y:=bufL 4 1 zej (s1.2++([s7.2]:List Bool))) (BSim.seg (Seg.push (Seg.refl zej _) (Seg.lit (f:=zej) (sz:=1) ([s7.2]:List Bool) rfl rfl (fun _=>rfl)))) .nil)) ?_
     refine At.inb ?_
     refine At.zai ?_
     obtain ⟨hc12,H⟩:=zag H
     refine W.region env [] [] rfl rfl rfl (.cons hc12 .nil) .nil (At.keep (ts:=[1,2,5,6]) (ids:=[2,505]) rfl rfl ?_)
     refine At.zaE (At.keep (ts:=[1,2,5,6]) (ids:=[2,505]) rfl rfl ?_)
     exact At.conv (.cons .qi (.cons .q (.cons .qb (.cons .qi .nil)))) (.cons .q (.cons .q .nil)) (hK1 ((s1.1+1),(s1.2++([s7.2]:List Bool))) H)
 · have H:=zaj H hb2
   refine W.exit ?_
   refine At.xthen ?_
   refine At.xthen ?_
   refine At.xhere ?_
   refine At.zai ?_
   refine W.rg env [4] [505] ?_
   refine W.ret ?_
   cases H
   exact At.ret env.ty rfl rfl (fun q hq=>by cases hq;exact (by first|rfl|(simp;done)|omega|(simp;omega))) (.refl _) hval
theorem zbD (fuel:Nat) (p0:Wear) (p1:Mantle) (p2:(Arr2 Int)) {r:Range} (H:zaM fuel p0 p1 p2=some r):Ctr Tryz.prog 101 [.agg [roL 3 zac p0.Batches,roL 6 zaa p0.Mantles,roL 7 zaf p0.Burns,roL 6 zab p0.Looks],.agg [.int .i64 (p1.Source),.int .i64 (p1.Lamp),.int .i64 (p1.Batch),.int .i64 (p1.Night),.int .i64 (p1.Known),.int .i64 (p1.Until)],.agg [.int .i64 (p2.x0),.int .i64 (p2.x1)]] (.agg [.int .i64 (r.Lo),.int .i64 (r.Hi)]):=by
 unfold zaM at H
 refine Ctr.zao (N:=61) Tryz.func101 (by kernel_rfl) (c:=_) rfl Tryz.ntmps101 rfl (fun w0 h0 hval=>?_)
 refine W.rg env [3,4,5,6] [3,4,5,6] ?_
 refine W.seq ?_
 obtain ⟨y1,hy2,H⟩:=zah H
 refine W.region env [] [⟨roL 1 zej y1,[],0,[]⟩] rfl rfl rfl (.cons (by decide) .nil) (.free (zfx fuel p0 p2.x1 hy2) .nil) (At.keep (ts:=[3,4,5,6,7]) (ids:=[3,4,5,6]) rfl rfl ?_)
 refine At.zai ?_
 refine W.rg env [3,4,5,6,7,8] [3,4,5,6,8] ?_
 refine W.seq ?_
 refine W.rg env [3,4,5,6,7,8,9] [3,4,5,6,8] ?_
 refine W.block ?_
 refine At.keep (ts:=[3,4,5,6,7,8,9]) (ids:=[3,4,5,6,8]) rfl rfl ?_
 refine W.loopGo H (fun (s3:Int×Range)=>[(3,.lp 3 0),(4,.lp 4 0),(5,.lp 5 0),(6,.lp 6 0),(7,roL 1 zej y1),(8,.lp 8 0),(9,.int .i64 (s3.1))]) (fun (s3:Int×Range)=>[(3,.cells [roL 3 zac p0.Batches,roL 6 zaa p0.Mantles,roL 7 zaf p0.Burns,roL 6 zab p0.Looks]),(4,.cells [.int .i64 (p1.Source),.int .i64 (p1.Lamp),.int .i64 (p1.Batch),.int .i64 (p1.Night),.int .i64 (p1.Known),.int .i64 (p1.Until)]),(5,.cells [.int .i64 (p2.x0),.int .i64 (p2.x1)]),(6,.cells [.int .i64 (0),.int .i64 (0)]),(8,.cells [.int .i64 (s3.2.Lo),.int .i64 (s3.2.Hi)])]) (.cons .q (.cons .q (.cons .q (.cons .q (.cons .q (.cons .q (.cons .qi .nil))))))) (.cons .q (.cons .q (.cons .q (.cons .q (.cons .q .nil))))) (fun k3 s3 H K0 hK3=>?_)
 refine W.seq ?_
 refine W.rg env [3,4,5,6,7,8,9,19] [3,4,5,6,8] ?_
 refine W.cond rfl (fun hb4=>?_) (fun hb4=>?_)
 · have H:=zal H hb4
   refine W.skip ?_
   refine At.zai ?_
   refine W.seq ?_
   refine W.block ?_
   obtain ⟨hc5,H⟩:=zag H
   refine W.sr env [] [] [3,4,5,6,7,8,9,10] [3,4,5,6,8,10] rfl rfl rfl (.cons hc5 .nil) .nil ?_
   obtain ⟨hc6,H⟩:=zag H
   refine W.sr env [] [⟨.bool ((zan ((p0.Burns.getD (s3.1).toNat default).Night) p1.Night p2.x0)),[],0,[]⟩] [3,4,5,6,7,8,9,10,46] [3,4,5,6,8,10] rfl rfl rfl (.cons hc6 (.cons id (.cons id (.cons id (.cons id (.cons id (.cons id (.cons id (.cons (fun _=>by decide) (.cons id (.cons id (.cons id (.cons id (.cons id .nil)))))))))))))) (.on (fun hW=>zaY ((p0.Burns.getD (s3.1).toNat default).Night) p1.Night p2.x0) .nil) ?_
   refine W.cond rfl (fun hb7=>?_) (fun hb7=>?_)
   · have H:=zal H hb7
     obtain ⟨hc8,H⟩:=zag H
     obtain ⟨hc9,H⟩:=zag H
     refine W.region env [] [] rfl rfl rfl (.cons hc8 (.cons hc9 .nil)) .nil (At.keep (ts:=[3,4,5,6,7,8,9]) (ids:=[3,4,5,6,8]) rfl rfl ?_)
     refine At.inb ?_
     refine At.zai ?_
     obtain ⟨hc10,H⟩:=zag H
     refine W.region env [] [] rfl rfl rfl (.cons hc10 .nil) .nil (At.keep (ts:=[3,4,5,6,7,8,9]) (ids:=[3,4,5,6,8]) rfl rfl ?_)
     refine At.zaE (At.keep (ts:=[3,4,5,6,7,8,9]) (ids:=[3,4,5,6,8]) rfl rfl ?_)
     exact At.conv (.cons .q (.cons .q (.cons .q (.cons .q (.cons .q (.cons .q (.cons .qi .nil))))))) (.cons .q (.cons .q (.cons .q (.cons .q (.cons .q .nil))))) (hK3 ((s3.1+1),(⟨(s3.2.Lo+(p0.Burns.getD (s3.1).toNat default).Minutes.Lo),(s3.2.Hi+(p0.Burns.getD (s3.1).toNat default).Minutes.Hi)⟩:Range)) H)
   · have H:=zaj H hb7
     refine W.skip ?_
     refine At.inb ?_
     refine At.zai ?_
     obtain ⟨hc11,H⟩:=zag H
     refine W.region env [] [] rfl rfl rfl (.cons hc11 .nil) .nil (At.keep (ts:=[3,4,5,6,7,8,9]) (ids:=[3,4,5,6,8]) rfl rfl ?_)
     refine At.zaE (At.keep (ts:=[3,4,5,6,7,8,9]) (ids:=[3,4,5,6,8]) rfl rfl ?_)
     exact At.conv (.cons .q (.cons .q (.cons .q (.cons .q (.cons .q (.cons .q (.cons .qi .nil))))))) (.cons .q (.cons .q (.cons .q (.cons .q (.cons .q .nil))))) (hK3 ((s3.1+1),s3.2) H)
 · have H:=zaj H hb4
   refine W.exit ?_
   refine At.xthen ?_
   refine At.xthen ?_
   refine At.xhere ?_
   refine At.zai ?_
   refine W.rg env [6] [6] ?_
   refine W.ret ?_
   cases H
   exact At.ret env.ty rfl rfl nofun (.refl _) hval
theorem zhb (fuel:Nat) (p0:Wear) (p1:gasolierref06_When) {r:(Range×Int)} (H:zbC fuel p0 p1=some r):Ctr Tryz.prog 38 [.agg [roL 3 zac p0.Batches,roL 6 zaa p0.Mantles,roL 7 zaf p0.Burns,roL 6 zab p0.Looks],.agg [.int .i64 (p1.Lamp),.int .i64 (p1.Night),.int .i64 (p1.Known)]] (.tup [.agg [.int .i64 (r.1.Lo),.int .i64 (r.1.Hi)],.int .i64 (r.2)]):=by
 unfold zbC at H
 refine Ctr.zao (N:=26) Tryz.func38 (by kernel_rfl) (c:=_) rfl Tryz.ntmps38 rfl (fun w0 h0 hval=>?_)
 refine W.rg env [2,3,4] [2,3,4] ?_
 refine W.seq ?_
 obtain ⟨y1,hy2,H⟩:=zah H
 refine W.region env [] [⟨.tup [.agg [.int .i64 (y1.1.Source),.int .i64 (y1.1.Lamp),.int .i64 (y1.1.Batch),.int .i64 (y1.1.Night),.int .i64 (y1.1.Known),.int .i64 (y1.1.Until)],.int .i64 (y1.2)],[],0,[]⟩] rfl rfl rfl .nil (.free (zcK fuel p0 p1 hy2) .nil) (At.keep (ts:=[2,3,4,6,7]) (ids:=[2,3,4,6]) rfl rfl ?_)
 refine At.zai ?_
 refine W.seq ?_
 refine W.rg env [2,3,4,6,7,15] [2,3,4,6] ?_
 refine W.cond rfl (fun hb3=>?_) (fun hb3=>?_)
 · have H:=zal H hb3
   refine W.rg env [4,5] [4] ?_
   refine W.ret ?_
   refine At.rthen ?_
   cases H
   exact At.ret env.ty rfl rfl nofun (.refl _) hval
 · have H:=zaj H hb3
   refine W.skip ?_
   refine At.zai ?_
   refine W.seq ?_
   obtain ⟨y4,hy5,H⟩:=zah H
   refine W.region env [] [⟨.agg [.int .i64 (y4.Lo),.int .i64 (y4.Hi)],[],0,[]⟩] rfl rfl rfl .nil (.free (zbD fuel p0 y1.1 (⟨p1.Night,p1.Known⟩:(Arr2 Int)) hy5) .nil) (At.keep (ts:=[4,5]) (ids:=[4]) rfl rfl ?_)
   refine At.zai ?_
   refine W.ret ?_
   cases H
   exact At.ret env.ty rfl rfl nofun (.refl _) hval
theorem zgi (fuel:Nat) (p0:Wear) (p1:Int) {r:(List Look)} (H:zb6 fuel p0 p1=some r):Ctr Tryz.prog 110 [.agg [roL 3 zac p0.Batches,roL 6 zaa p0.Mantles,roL 7 zaf p0.Burns,roL 6 zab p0.Looks],.int .i64 (p1)] (roL 6 zab r):=by
 unfold zb6 at H
 refine Ctr.zao (N:=46) Tryz.func110 (by kernel_rfl) (c:=_) rfl Tryz.ntmps110 rfl (fun w0 h0 hval=>?_)
 refine W.rg env [1,2] [2] ?_
 refine W.rg env [1,2,5] [2] ?_
 refine W.seq ?_
 refine W.rg env [1,2,5,6] [2] ?_
 refine W.block ?_
 refine At.zfR 5 505 37 6 (e:=fun i=>zab (([]:List Look).getD i default)) rfl rfl ?_
 refine At.keep (ts:=[1,2,5,6]) (ids:=[2,505]) rfl rfl ?_
 refine W.loopGo H (fun (s1:Int×(List Look))=>[(1,.int .i64 (p1)),(2,.lp 2 0),(5,.buf 505 (s1.2).length),(6,.int .i64 (s1.1))]) (fun (s1:Int×(List Look))=>[(2,.cells [roL 3 zac p0.Batches,roL 6 zaa p0.Mantles,roL 7 zaf p0.Burns,roL 6 zab p0.Looks]),(505,bufL 37 6 zab s1.2)]) (.cons .qi (.cons .q (.cons .qb (.cons .qi .nil)))) (.cons .q (.cons .q .nil)) (fun k1 s1 H K0 hK1=>?_)
 refine W.seq ?_
 refine W.rg env [1,2,5,6,14] [2,505] ?_
 refine W.cond rfl (fun hb2=>?_) (fun hb2=>?_)
 · have H:=zal H hb2
   refine W.skip ?_
   refine At.zai ?_
   refine W.seq ?_
   refine W.block ?_
   obtain ⟨hc3,H⟩:=zag H
   refine W.sr env [] [] [1,2,5,6,7] [2,7,505] rfl rfl rfl (.cons hc3 .nil) .nil ?_
   refine W.seq ?_
   obtain ⟨y4,hy5,H⟩:=zah H
   refine W.region env [] [⟨.tup [.agg [.int .i64 (y4.1.Source),.int .i64 (y4.1.Lamp),.int .i64 (y4.1.Batch),.int .i64 (y4.1.Night),.int .i64 (y4.1.Known),.int .i64 (y4.1.Until)],.bool (y4.2)],[],0,[]⟩] rfl rfl rfl .nil (.free (zcQ fuel p0 ((p0.Looks.getD (s1.1).toNat default).Lamp) ((p0.Looks.getD (s1.1).toNat default).Night) p1 hy5) .nil) (At.keep (ts:=[1,2,5,6,7,9]) (ids:=[2,7,505]) rfl rfl ?_)
   refine At.zai ?_
   refine W.sr env [] [⟨.bool ((zaz ((p0.Looks.getD (s1.1).toNat default).Known) ((p0.Looks.getD (s1.1).toNat default).Until) p1)),[],0,[]⟩] [1,2,5,6,7,40] [2,7,505] rfl rfl rfl (.cons id (.cons id (.cons id (.cons id (.cons id (.cons id .nil)))))) (.on (fun hW=>zbz ((p0.Looks.getD (s1.1).toNat default).Known) ((p0.Looks.getD (s1.1).toNat default).Until) p1) .nil) ?_
   refine W.cond rfl (fun hb6=>?_) (fun hb6=>?_)
   · have H:=zal H hb6
     obtain ⟨hc7,H⟩:=zag H
     refine W.region env [] [] rfl rfl rfl (.cons (⟨by first|rfl|(simp;done)|omega|(simp;omega),by have:=hc7;first|simpa using this|(unfold room at this ⊢;simp at this ⊢;omega)⟩) .nil) .nil (At.keep (ts:=[1,2,5,6]) (ids:=[2,505]) rfl rfl ?_)
     refine At.zbJ (.cons (.refl _) (.cons (y:=bufL 37 6 zab (s1.2++([(p0.Looks.getD (s1.1).toNat default)]:List Look))) (BSim.seg (Seg.push (Seg.refl zab _) (Seg.lit (f:=zab) (sz:=6) ([(p0.Looks.getD (s1.1).toNat default)]:List Look) rfl rfl (fun _=>rfl)))) .nil)) ?_
     refine At.inb ?_
     refine At.zai ?_
     obtain ⟨hc8,H⟩:=zag H
     refine W.region env [] [] rfl rfl rfl (.cons hc8 .nil) .nil (At.keep (ts:=[1,2,5,6]) (ids:=[2,505]) rfl rfl ?_)
     refine At.zaE (At.keep (ts:=[1,2,5,6]) (ids:=[2,505]) rfl rfl ?_)
     exact At.conv (.cons .qi (.cons .q (.cons .qb (.cons .qi .nil)))) (.cons .q (.cons .q .nil)) (hK1 ((s1.1+1),(s1.2++([(p0.Looks.getD (s1.1).toNat default)]:List Look))) H)
   · have H:=zaj H hb6
     refine W.skip ?_
     refine At.inb ?_
     refine At.zai ?_
     obtain ⟨hc9,H⟩:=zag H
     refine W.region env [] [] rfl rfl rfl (.cons hc9 .nil) .nil (At.keep (ts:=[1,2,5,6]) (ids:=[2,505]) rfl rfl ?_)
     refine At.zaE (At.keep (ts:=[1,2,5,6]) (ids:=[2,505]) rfl rfl ?_)
     exact At.conv (.cons .qi (.cons .q (.cons .qb (.cons .qi .nil)))) (.cons .q (.cons .q .nil)) (hK1 ((s1.1+1),s1.2) H)
 · have H:=zaj H hb2
   refine W.exit ?_
   refine At.xthen ?_
   refine At.xthen ?_
   refine At.xhere ?_
   refine At.zai ?_
   refine W.rg env [4] [505] ?_
   refine W.ret ?_
   cases H
   exact At.ret env.ty rfl rfl (fun q hq=>by cases hq;exact (by first|rfl|(simp;done)|omega|(simp;omega))) (.refl _) hval
theorem zgL (fuel:Nat) (p0:Wear) (p1:Int) {r:gasolierref06_Told} (H:zcj fuel p0 p1=some r):Ctr Tryz.prog 102 [.agg [roL 3 zac p0.Batches,roL 6 zaa p0.Mantles,roL 7 zaf p0.Burns,roL 6 zab p0.Looks],.int .i64 (p1)] (.agg [roL 6 zab r.Looks,.int .i64 (r.Known)]):=by
 unfold zcj at H
 refine Ctr.zao (N:=10) Tryz.func102 (by kernel_rfl) (c:=_) rfl Tryz.ntmps102 rfl (fun w0 h0 hval=>?_)
 refine W.rg env [1,2,4] [2,4] ?_
 refine W.seq ?_
 obtain ⟨y1,hy2,H⟩:=zah H
 refine W.region env [] [⟨roL 6 zab y1,[],0,[]⟩] rfl rfl rfl .nil (.free (zgi fuel p0 p1 hy2) .nil) (At.keep (ts:=[4]) (ids:=[4]) rfl rfl ?_)
 refine At.zai ?_
 refine W.ret ?_
 cases H
 exact At.ret env.ty rfl rfl nofun (.refl _) hval
theorem zee (fuel:Nat) (p0:Wear) (p1:Mantle) (p2:gasolierref06_Told) {r:gasolierref06_Seen} (H:zbN fuel p0 p1 p2=some r):Ctr Tryz.prog 155 [.agg [roL 3 zac p0.Batches,roL 6 zaa p0.Mantles,roL 7 zaf p0.Burns,roL 6 zab p0.Looks],.agg [.int .i64 (p1.Source),.int .i64 (p1.Lamp),.int .i64 (p1.Batch),.int .i64 (p1.Night),.int .i64 (p1.Known),.int .i64 (p1.Until)],.agg [roL 6 zab p2.Looks,.int .i64 (p2.Known)]] (.agg [.int .i64 (r.Good),.int .i64 (r.Bad)]):=by
 unfold zbN at H
 refine Ctr.zao (N:=76) Tryz.func155 (by kernel_rfl) (c:=_) rfl Tryz.ntmps155 rfl (fun w0 h0 hval=>?_)
 refine W.rg env [3,4,5,6] [3,4,5,6] ?_
 refine W.rg env [3,4,5,6,7] [3,4,5,6,7] ?_
 refine W.seq ?_
 refine W.rg env [3,4,5,6,7,8] [3,4,5,6,7] ?_
 refine W.block ?_
 refine At.keep (ts:=[3,4,5,6,7,8]) (ids:=[3,4,5,6,7]) rfl rfl ?_
 refine W.loopGo H (fun (s1:Int×gasolierref06_Seen)=>[(3,.lp 3 0),(4,.lp 4 0),(5,.lp 5 0),(6,.lp 6 0),(7,.lp 7 0),(8,.int .i64 (s1.1))]) (fun (s1:Int×gasolierref06_Seen)=>[(3,.cells [roL 3 zac p0.Batches,roL 6 zaa p0.Mantles,roL 7 zaf p0.Burns,roL 6 zab p0.Looks]),(4,.cells [.int .i64 (p1.Source),.int .i64 (p1.Lamp),.int .i64 (p1.Batch),.int .i64 (p1.Night),.int .i64 (p1.Known),.int .i64 (p1.Until)]),(5,.cells [roL 6 zab p2.Looks,.int .i64 (p2.Known)]),(6,.cells [.int .i64 (0),.int .i64 (0)]),(7,.cells [.int .i64 (s1.2.Good),.int .i64 (s1.2.Bad)])]) (.cons .q (.cons .q (.cons .q (.cons .q (.cons .q (.cons .qi .nil)))))) (.cons .q (.cons .q (.cons .q (.cons .q (.cons .q .nil))))) (fun k1 s1 H K0 hK1=>?_)
 refine W.seq ?_
 refine W.rg env [3,4,5,6,7,8,17] [3,4,5,6,7] ?_
 refine W.cond rfl (fun hb2=>?_) (fun hb2=>?_)
 · have H:=zal H hb2
   refine W.skip ?_
   refine At.zai ?_
   refine W.seq ?_
   refine W.zhn H (fun (s3:gasolierref06_Seen)=>[(3,.lp 3 0),(4,.lp 4 0),(5,.lp 5 0),(6,.lp 6 0),(7,.lp 7 0),(8,.int .i64 (s1.1))]) (fun (s3:gasolierref06_Seen)=>[(3,.cells [roL 3 zac p0.Batches,roL 6 zaa p0.Mantles,roL 7 zaf p0.Burns,roL 6 zab p0.Looks]),(4,.cells [.int .i64 (p1.Source),.int .i64 (p1.Lamp),.int .i64 (p1.Batch),.int .i64 (p1.Night),.int .i64 (p1.Known),.int .i64 (p1.Until)]),(5,.cells [roL 6 zab p2.Looks,.int .i64 (p2.Known)]),(6,.cells [.int .i64 (0),.int .i64 (0)]),(7,.cells [.int .i64 (s3.Good),.int .i64 (s3.Bad)])]) (fun s3 H=>?_) (fun k3 H hK3=>?_)
   · obtain ⟨hc4,H⟩:=zag H
     refine W.region env [] [] rfl rfl rfl (.cons hc4 .nil) .nil (At.keep (ts:=[3,4,5,6,7,8]) (ids:=[3,4,5,6,7]) rfl rfl ?_)
     refine At.zaE (At.keep (ts:=[3,4,5,6,7,8]) (ids:=[3,4,5,6,7]) rfl rfl ?_)
     exact At.conv (.cons .q (.cons .q (.cons .q (.cons .q (.cons .q (.cons .qi .nil)))))) (.cons .q (.cons .q (.cons .q (.cons .q (.cons .q .nil))))) (hK1 ((s1.1+1),s3) H)
   · refine W.block ?_
     obtain ⟨hc5,H⟩:=zag H
     refine W.sr env [] [] [3,4,5,6,7,8,9] [3,4,5,6,7,9] rfl rfl rfl (.cons hc5 .nil) .nil ?_
     refine W.seq ?_
     obtain ⟨y6,hy7,H⟩:=zah H
     refine W.region env [] [⟨.tup [.agg [.int .i64 (y6.1.Source),.int .i64 (y6.1.Lamp),.int .i64 (y6.1.Batch),.int .i64 (y6.1.Night),.int .i64 (y6.1.Known),.int .i64 (y6.1.Until)],.bool (y6.2)],[],0,[]⟩] rfl rfl rfl .nil (.free (zcQ fuel p0 ((p2.Looks.getD (s1.1).toNat default).Lamp) ((p2.Looks.getD (s1.1).toNat default).Night) p2.Known hy7) .nil) (At.keep (ts:=[3,4,5,6,7,8,9,10,11]) (ids:=[3,4,5,6,7,9,10]) rfl rfl ?_)
     refine At.zai ?_
     refine W.seq ?_
     refine W.sr env [] [] [3,4,5,6,7,8,9,44] [3,4,5,6,7,9] rfl rfl rfl (.cons id (.cons id (.cons id (.cons id (.cons (fun h=>by rw [h];rfl) .nil))))) .nil ?_
     refine W.cond rfl (fun hb8=>?_) (fun hb8=>?_)
     · have H:=zal H hb8
       refine W.exit ?_
       refine At.xthen ?_
       refine At.xhere ?_
       refine At.zaE (At.keep (ts:=[3,4,5,6,7,8]) (ids:=[3,4,5,6,7]) rfl rfl ?_)
       exact At.conv (.cons .q (.cons .q (.cons .q (.cons .q (.cons .q (.cons .qi .nil)))))) (.cons .q (.cons .q (.cons .q (.cons .q (.cons .q .nil))))) (hK3 s1.2 H)
     · have H:=zaj H hb8
       refine W.skip ?_
       refine At.zai ?_
       refine W.seq ?_
       refine W.sr env [] [] [3,4,5,6,7,8,9,54] [3,4,5,6,7,9] rfl rfl rfl (.cons id (.cons id (.cons id (.cons id (.cons id .nil))))) .nil ?_
       refine W.zhn H (fun (s9:Int)=>[(3,.lp 3 0),(4,.lp 4 0),(5,.lp 5 0),(6,.lp 6 0),(7,.lp 7 0),(8,.int .i64 (s1.1)),(9,.lp 9 0)]) (fun (s9:Int)=>[(3,.cells [roL 3 zac p0.Batches,roL 6 zaa p0.Mantles,roL 7 zaf p0.Burns,roL 6 zab p0.Looks]),(4,.cells [.int .i64 (p1.Source),.int .i64 (p1.Lamp),.int .i64 (p1.Batch),.int .i64 (p1.Night),.int .i64 (p1.Known),.int .i64 (p1.Until)]),(5,.cells [roL 6 zab p2.Looks,.int .i64 (p2.Known)]),(6,.cells [.int .i64 (0),.int .i64 (0)]),(7,.cells [.int .i64 (s9),.int .i64 (s1.2.Bad)]),(9,.cells [.int .i64 ((p2.Looks.getD (s1.1).toNat default).Source),.int .i64 ((p2.Looks.getD (s1.1).toNat default).Lamp),.int .i64 ((p2.Looks.getD (s1.1).toNat default).Night),.bool ((p2.Looks.getD (s1.1).toNat default).Bad),.int .i64 ((p2.Looks.getD (s1.1).toNat default).Known),.int .i64 ((p2.Looks.getD (s1.1).toNat default).Until)])]) (fun s9 H=>?_) (fun k9 H hK9=>?_)
       · refine W.sr env [] [] [3,4,5,6,7,8,9,71] [3,4,5,6,7,9] rfl rfl rfl (.cons id (.cons id (.cons id (.cons id (.cons id (.cons id (.cons id (.cons id (.cons (fun hW h=>by revert hW h;first|(simp +contextual;done)|grind) (.cons id .nil)))))))))) .nil ?_
         refine W.cond rfl (fun hb10=>?_) (fun hb10=>?_)
         · have H:=zal H hb10
           refine W.region env [] [] rfl rfl rfl .nil .nil (At.keep (ts:=[3,4,5,6,7,8]) (ids:=[3,4,5,6,7]) rfl rfl ?_)
           refine At.inb ?_
           refine At.zaE (At.keep (ts:=[3,4,5,6,7,8]) (ids:=[3,4,5,6,7]) rfl rfl ?_)
           exact At.conv (.cons .q (.cons .q (.cons .q (.cons .q (.cons .q (.cons .qi .nil)))))) (.cons .q (.cons .q (.cons .q (.cons .q (.cons .q .nil))))) (hK3 (⟨s9,(p2.Looks.getD (s1.1).toNat default).Night⟩:gasolierref06_Seen) H)
         · have H:=zaj H hb10
           refine W.skip ?_
           refine At.inb ?_
           refine At.zaE (At.keep (ts:=[3,4,5,6,7,8]) (ids:=[3,4,5,6,7]) rfl rfl ?_)
           exact At.conv (.cons .q (.cons .q (.cons .q (.cons .q (.cons .q (.cons .qi .nil)))))) (.cons .q (.cons .q (.cons .q (.cons .q (.cons .q .nil))))) (hK3 (⟨s9,s1.2.Bad⟩:gasolierref06_Seen) H)
       · refine W.cond rfl (fun hb11=>?_) (fun hb11=>?_)
         · have H:=zal H hb11
           refine W.region env [] [] rfl rfl rfl .nil .nil (At.keep (ts:=[3,4,5,6,7,8,9]) (ids:=[3,4,5,6,7,9]) rfl rfl ?_)
           refine At.zaE (At.keep (ts:=[3,4,5,6,7,8,9]) (ids:=[3,4,5,6,7,9]) rfl rfl ?_)
           exact At.conv (.cons .q (.cons .q (.cons .q (.cons .q (.cons .q (.cons .qi (.cons .q .nil))))))) (.cons .q (.cons .q (.cons .q (.cons .q (.cons .q (.cons .q .nil)))))) (hK9 (p2.Looks.getD (s1.1).toNat default).Night H)
         · have H:=zaj H hb11
           refine W.skip ?_
           refine At.zaE (At.keep (ts:=[3,4,5,6,7,8,9]) (ids:=[3,4,5,6,7,9]) rfl rfl ?_)
           exact At.conv (.cons .q (.cons .q (.cons .q (.cons .q (.cons .q (.cons .qi (.cons .q .nil))))))) (.cons .q (.cons .q (.cons .q (.cons .q (.cons .q (.cons .q .nil)))))) (hK9 s1.2.Good H)
 · have H:=zaj H hb2
   refine W.exit ?_
   refine At.xthen ?_
   refine At.xthen ?_
   refine At.xhere ?_
   refine At.zai ?_
   refine W.rg env [6] [6] ?_
   refine W.ret ?_
   cases H
   exact At.ret env.ty rfl rfl nofun (.refl _) hval
end Go.Sp
