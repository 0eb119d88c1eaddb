/- Printed by gen.py: contracts, part 2. -/
import Derived.Test.YtakjeajlmlmkeaaGreatCtr1
set_option linter.all false
set_option maxRecDepth 100000
set_option maxHeartbeats 1000000
namespace Go.Sp
open Go Go.Av Go.Proofs
theorem zgW (p0:mantle_lot) (p1:Int) (p2:Bool) {r:(List (List Int))} (H:zdM p0 p1 p2=some r):Ctr Tryz.prog 163 [.agg (zap p0),.int .i64 (p1),.bool (p2)] (roL 1 zce r):=by
 unfold zdM at H
 refine Ctr.zam (N:=135) Tryz.func163 (by kernel_rfl) (c:=_) rfl Tryz.ntmps163 rfl (fun w0 h0 hval=>?_)
 refine W.rg env [1,2,3] [3] ?_
 refine W.rg env [1,2,3,7] [3] ?_
 refine W.seq (W.seq ?_)
 obtain ⟨y1,hy2,H⟩:=zac H
 refine W.region env [] [⟨roL 1 zab y1,[],0,[]⟩] rfl rfl rfl .nil (.free (zdJ p0 hy2) .nil) (At.kp [1,2,3,7,22,23,24] [3] ?_)
 refine At.zad (W.block (At.zeV 7 507 3 1 (e:=fun i=>zab (([]:List Int).getD i default)) rfl rfl ?_))
 refine At.kp [1,2,3,7,22,23,24] [3,507] ?_
 refine W.len (t:=22) rfl (fun (hn3:y1.length≤maxLen)=>?_)
 refine W.zau H (fun i3 (s3:(List Int))=>[(1,.int .i64 (p1)),(2,.bool (p2)),(3,.lp 3 0),(7,.buf 507 (s3).length),(22,roL 1 zab y1),(23,.int .i64 (((y1.length:Nat):Int))),(24,.int .i64 ((i3:Int)))]) (fun i3 (s3:(List Int))=>[(3,.cells (zap p0)),(507,bufL 3 1 zab s3)]) (.cons .qi (.cons .q (.cons .q (.cons .qb (.cons .q (.cons .qi (.cons .qi .nil))))))) (.cons .q (.cons .q .nil)) (fun k3 i3 s3 hle3 H1 H2 K0 hK3=>?_)
 refine W.rg env [1,2,3,7,22,23,24,25] [3,507] ?_
 refine W.seq (W.cond rfl (fun hb4=>?_) (fun hb4=>?_))
 · have hi3:i3<y1.length:=by have:=of_decide_eq_true hb4;omega
   have H:=H1 hi3
   refine W.skip (At.zad (W.seq (W.block (W.sr env [] [] [1,2,3,7,9,22,23,24] [3,507] rfl rfl rfl (.cons (⟨by omega,by omega⟩:0≤(i3:Int)∧(i3:Int)<((y1.length:Nat):Int)) .nil) .nil ?_))))
   refine W.seq ?_
   obtain ⟨hc5,H⟩:=zaa H
   obtain ⟨y6,hy7,H⟩:=zac H
   refine W.region env [] [⟨.int .i64 (y6),[],0,[]⟩] rfl rfl (by kernel_rfl) (.cons hc5 .nil) (.free (zcK p0.closet (p0.mantles.getD ((y1.getD i3 default)).toNat default) hy7) .nil) (At.kp [1,2,3,7,9,22,23,24,37] [3,507] ?_)
   refine At.zad (W.cond rfl (fun hb8=>?_) (fun hb8=>?_))
   · have H:=zag H hb8
     obtain ⟨hc9,H⟩:=zaa H
     refine W.region env [] [] rfl rfl rfl (.cons (⟨by first|rfl|(simp;done)|omega|(simp;omega),by have:=hc9;first|simpa using this|(unfold room at this ⊢;simp at this ⊢;omega)⟩) .nil) .nil (At.kp [1,2,3,7,22,23,24] [3,507] ?_)
     refine At.zaX (.cons (.refl _) (.cons (y:=bufL 3 1 zab (s3++([(y1.getD i3 default)]:List Int))) (BSim.seg (Seg.push (Seg.refl zab _) (Seg.lit (f:=zab) (sz:=1) ([(y1.getD i3 default)]:List Int) rfl rfl (fun _=>rfl)))) .nil)) ?_
     refine At.inb (At.zad (W.region env [] [] rfl rfl rfl (.cons (by unfold inI;have:=hn3;(try unfold maxLen at this);omega) .nil) .nil (At.kp [1,2,3,7,22,23,24] [3,507] ?_)))
     refine At.zaD (At.kp [1,2,3,7,22,23,24] [3,507] ?_)
     exact At.conv (.cons .qi (.cons .q (.cons .q (.cons .qb (.cons .q (.cons .qi (.cons .qi .nil))))))) (.cons .q (.cons .q .nil)) (hK3 hi3 (s3++([(y1.getD i3 default)]:List Int)) H)
   · have H:=zaf H hb8
     refine W.skip (At.inb (At.zad (W.region env [] [] rfl rfl rfl (.cons (by unfold inI;have:=hn3;(try unfold maxLen at this);omega) .nil) .nil (At.kp [1,2,3,7,22,23,24] [3,507] ?_))))
     refine At.zaD (At.kp [1,2,3,7,22,23,24] [3,507] ?_)
     exact At.conv (.cons .qi (.cons .q (.cons .q (.cons .qb (.cons .q (.cons .qi (.cons .qi .nil))))))) (.cons .q (.cons .q .nil)) (hK3 hi3 s3 H)
 · have H:=H2 (by have:=of_decide_eq_false hb4;omega)
   refine W.exit (At.xthen (At.xthen (At.xhere (At.zad (W.seq ?_)))))
   obtain ⟨hc10,H⟩:=zaa H
   obtain ⟨hc11,H⟩:=zaa H
   refine W.region env [] [] rfl rfl rfl (.cons (by first|rfl|(simp;done)|omega|(simp;omega)) (.cons hc10 (.cons hc11 .nil))) .nil (At.kp [2,3,7,10] [3,46,507] ?_)
   refine At.zaX (.cons (.refl _) (.cons (y:=bufL 56 1 (encN 1 zab) (List.replicate ((((s3.length:Nat):Int)+1)).toNat ([]:(List Int)))) (BSim.madeN) (.cons (.refl _) .nil))) ?_
   refine At.zad (W.seq ?_)
   obtain ⟨hc12,H⟩:=zaa H
   obtain ⟨hc13,H⟩:=zaa H
   refine W.region env [] [] rfl rfl rfl (.cons (by first|rfl|(simp;done)|omega|(simp;omega)) (.cons hc12 (.cons hc13 .nil))) .nil (At.kp [2,3,7,10,11] [3,46,50,507] ?_)
   refine At.zaX (.cons (.refl _) (.cons (.refl _) (.cons (y:=bufL 3 1 zab (List.replicate ((((s3.length:Nat):Int)+1)).toNat (0:Int))) (BSim.seg (Seg.made (f:=zab) 0 rfl)) (.cons (.refl _) .nil)))) ?_
   refine At.zad (W.seq (W.sr env [] [] [2,3,7,10,11,51,52,53] [3,46,50,507] rfl rfl rfl (.cons (by first|rfl|(simp;done)|omega|(simp;omega)) .nil) .nil ?_))
   refine W.block (At.kp [2,3,7,10,11,51,52,53] [3,46,50,507] ?_)
   obtain ⟨hn14,H⟩:=zaa H
   refine W.zau H (fun i14 (s14:(List (List Int))×(List Int))=>[(2,.bool (p2)),(3,.lp 3 0),(7,.buf 507 (s3).length),(10,.buf 46 (s14.1).length),(11,.buf 50 (s14.2).length),(51,.buf 507 (s3).length),(52,.int .i64 (((s3.length:Nat):Int))),(53,.int .i64 ((i14:Int)))]) (fun i14 (s14:(List (List Int))×(List Int))=>[(3,.cells (zap p0)),(46,bufL 56 1 (encN 1 zab) s14.1),(50,bufL 3 1 zab s14.2),(507,bufL 3 1 zab s3)]) (.cons .q (.cons .q (.cons .qb (.cons .qb (.cons .qb (.cons .qb (.cons .qi (.cons .qi .nil)))))))) (.cons .q (.cons .q (.cons .q (.cons .q .nil)))) (fun k14 i14 s14 hle14 H1 H2 K0 hK14=>?_)
   refine W.rg env [2,3,7,10,11,51,52,53,54] [3,46,50,507] ?_
   refine W.seq (W.cond rfl (fun hb15=>?_) (fun hb15=>?_))
   · have hi14:i14<s3.length:=by have:=of_decide_eq_true hb15;omega
     have H:=H1 hi14
     refine W.skip (At.zad (W.seq (W.block (W.sr env [] [] [2,3,7,10,11,13,51,52,53] [3,46,50,507] rfl rfl rfl (.cons (⟨by first|rfl|(simp;done)|omega|(simp;omega),(⟨by omega,by omega⟩:0≤(i14:Int)∧(i14:Int)<((s3.length:Nat):Int))⟩) (.cons (⟨by first|rfl|(simp;done)|omega|(simp;omega),(by have:=(⟨by omega,by omega⟩:0≤(i14:Int)∧(i14:Int)<((s3.length:Nat):Int));first|omega|(simp only [List.length_set];omega)|(simp only [Int.toNat_natCast] at *;omega)|(simp at this ⊢;omega))⟩) .nil)) .nil ?_))))
     refine W.seq ?_
     obtain ⟨y16,hy17,H⟩:=zac H
     refine W.region env [] [⟨.agg (zap y16),[],0,[]⟩] rfl rfl rfl .nil (.free (Ctr.sim (.cons (.refl _) (.cons (Sim.lit (f:=zab) ([(s3.getD i14 default)]:List Int) rfl rfl (fun _=>rfl)) (.cons (.refl _) .nil))) (zdb p0 ([(s3.getD i14 default)]:List Int) p2 hy17)) .nil) (At.kp [2,3,7,10,11,13,14,51,52,53] [3,14,46,50,507] ?_)
     refine At.zad (W.rg env [2,3,7,10,11,13,14,15,51,52,53] [3,14,46,50,507] ?_)
     refine W.seq (W.sr env [] [] [2,3,7,10,11,13,14,15,51,52,53,62,63,64] [3,14,46,50,507] rfl rfl rfl (.cons (by first|rfl|(simp;done)|omega|(simp;omega)) .nil) .nil ?_)
     refine W.block (At.zeV 15 515 3 1 (e:=fun i=>zab (([]:List Int).getD i default)) rfl rfl ?_)
     refine At.kp [2,3,7,10,11,13,14,15,51,52,53,62,63,64] [3,14,46,50,507,515] ?_
     obtain ⟨hn18,H⟩:=zaa H
     refine W.zau H (fun i18 (s18:(List Int))=>[(2,.bool (p2)),(3,.lp 3 0),(7,.buf 507 (s3).length),(10,.buf 46 (s14.1).length),(11,.buf 50 (s14.2).length),(13,.int .i64 ((s3.getD i14 default))),(14,.lp 14 0),(15,.buf 515 (s18).length),(51,.buf 507 (s3).length),(52,.int .i64 (((s3.length:Nat):Int))),(53,.int .i64 ((i14:Int))),(62,.buf 507 (s3).length),(63,.int .i64 (((s3.length:Nat):Int))),(64,.int .i64 ((i18:Int)))]) (fun i18 (s18:(List Int))=>[(3,.cells (zap p0)),(14,.cells (zap y16)),(46,bufL 56 1 (encN 1 zab) s14.1),(50,bufL 3 1 zab s14.2),(507,bufL 3 1 zab s3),(515,bufL 3 1 zab s18)]) (.cons .q (.cons .q (.cons .qb (.cons .qb (.cons .qb (.cons .qi (.cons .q (.cons .qb (.cons .qb (.cons .qi (.cons .qi (.cons .qb (.cons .qi (.cons .qi .nil)))))))))))))) (.cons .q (.cons .q (.cons .q (.cons .q (.cons .q (.cons .q .nil)))))) (fun k18 i18 s18 hle18 H1 H2 K0 hK18=>?_)
     refine W.rg env [2,3,7,10,11,13,14,15,51,52,53,62,63,64,65] [3,14,46,50,507,515] ?_
     refine W.seq (W.cond rfl (fun hb19=>?_) (fun hb19=>?_))
     · have hi18:i18<s3.length:=by have:=of_decide_eq_true hb19;omega
       have H:=H1 hi18
       refine W.skip (At.zad (W.seq (W.block (W.sr env [] [] [2,3,7,10,11,13,14,15,17,51,52,53,62,63,64] [3,14,46,50,507,515] rfl rfl rfl (.cons (⟨by first|rfl|(simp;done)|omega|(simp;omega),(⟨by omega,by omega⟩:0≤(i18:Int)∧(i18:Int)<((s3.length:Nat):Int))⟩) (.cons (⟨by first|rfl|(simp;done)|omega|(simp;omega),(by have:=(⟨by omega,by omega⟩:0≤(i18:Int)∧(i18:Int)<((s3.length:Nat):Int));first|omega|(simp only [List.length_set];omega)|(simp only [Int.toNat_natCast] at *;omega)|(simp at this ⊢;omega))⟩) .nil)) .nil ?_))))
       refine W.seq ?_
       obtain ⟨hc20,H⟩:=zaa H
       obtain ⟨y21,hy22,H⟩:=zac H
       refine W.region env [] [⟨.int .i64 (y21),[],0,[]⟩] rfl rfl (by kernel_rfl) (.cons id (.cons id (.cons hc20 (.cons id (.cons id (.cons id (.cons id (.cons id (.cons id (.cons id (.cons id (.cons id .nil)))))))))))) (.on (fun hW=>zbx y16.closet (p0.mantles.getD ((s3.getD i18 default)).toNat default) p0.night (zag hy22 hW)) .nil) (At.kp [2,3,7,10,11,13,14,15,17,51,52,53,62,63,64,83] [3,14,46,50,507,515] ?_)
       refine At.zad (W.cond rfl (fun hb23=>?_) (fun hb23=>?_))
       · have H:=zag H hb23
         obtain ⟨hc24,H⟩:=zaa H
         refine W.region env [] [] rfl rfl rfl (.cons (⟨by first|rfl|(simp;done)|omega|(simp;omega),by have:=hc24;first|simpa using this|(unfold room at this ⊢;simp at this ⊢;omega)⟩) .nil) .nil (At.kp [2,3,7,10,11,13,14,15,51,52,53,62,63,64] [3,14,46,50,507,515] ?_)
         refine At.zaX (.cons (.refl _) (.cons (.refl _) (.cons (.refl _) (.cons (.refl _) (.cons (.refl _) (.cons (y:=bufL 3 1 zab (s18++([(s3.getD i18 default)]:List Int))) (BSim.seg (Seg.push (Seg.refl zab _) (Seg.lit (f:=zab) (sz:=1) ([(s3.getD i18 default)]:List Int) rfl rfl (fun _=>rfl)))) .nil)))))) ?_
         refine At.inb (At.zad (W.region env [] [] rfl rfl rfl (.cons (by unfold inI;have:=hn18;(try unfold maxLen at this);omega) .nil) .nil (At.kp [2,3,7,10,11,13,14,15,51,52,53,62,63,64] [3,14,46,50,507,515] ?_)))
         refine At.zaD (At.kp [2,3,7,10,11,13,14,15,51,52,53,62,63,64] [3,14,46,50,507,515] ?_)
         exact At.conv (.cons .q (.cons .q (.cons .qb (.cons .qb (.cons .qb (.cons .qi (.cons .q (.cons .qb (.cons .qb (.cons .qi (.cons .qi (.cons .qb (.cons .qi (.cons .qi .nil)))))))))))))) (.cons .q (.cons .q (.cons .q (.cons .q (.cons .q (.cons .q .nil)))))) (hK18 hi18 (s18++([(s3.getD i18 default)]:List Int)) H)
       · have H:=zaf H hb23
         refine W.skip (At.inb (At.zad (W.region env [] [] rfl rfl rfl (.cons (by unfold inI;have:=hn18;(try unfold maxLen at this);omega) .nil) .nil (At.kp [2,3,7,10,11,13,14,15,51,52,53,62,63,64] [3,14,46,50,507,515] ?_))))
         refine At.zaD (At.kp [2,3,7,10,11,13,14,15,51,52,53,62,63,64] [3,14,46,50,507,515] ?_)
         exact At.conv (.cons .q (.cons .q (.cons .qb (.cons .qb (.cons .qb (.cons .qi (.cons .q (.cons .qb (.cons .qb (.cons .qi (.cons .qi (.cons .qb (.cons .qi (.cons .qi .nil)))))))))))))) (.cons .q (.cons .q (.cons .q (.cons .q (.cons .q (.cons .q .nil)))))) (hK18 hi18 s18 H)
     · have H:=H2 (by have:=of_decide_eq_false hb19;omega)
       refine W.exit (At.xthen (At.xthen (At.xhere (At.zad ?_))))
       obtain ⟨hc25,H⟩:=zaa H
       refine W.sr env [] [] [2,3,7,10,11,13,15,51,52,53,91,92] [3,46,50,507,515] rfl rfl rfl (.cons (by first|rfl|(simp;done)|omega|(simp;omega)) (.cons hc25 .nil)) .nil ?_
       refine W.block (At.zl3 515 (K:=[3,46,50,507]) (ts:=[2,3,7,10,11,13,15,51,52,53,91,92]) rfl rfl rfl rfl (.cons (by first|rfl|(simp;done)|omega|(simp;omega)) .nil) .nil (fun _ h=>h) ?_)
       refine At.kp [2,3,7,10,11,13,15,51,52,53,91,92] [3,46,50,507] ?_
       obtain ⟨hn26,H⟩:=zaa H
       refine W.zau H (fun i26 (s26:(List (List Int))×(List Int))=>[(2,.bool (p2)),(3,.lp 3 0),(7,.buf 507 (s3).length),(10,.buf 46 (s26.1).length),(11,.buf 50 (s26.2).length),(13,.int .i64 ((s3.getD i14 default))),(15,roL 1 zab s18),(51,.buf 507 (s3).length),(52,.int .i64 (((s3.length:Nat):Int))),(53,.int .i64 ((i14:Int))),(91,.int .i64 ((((s3.length:Nat):Int)+1))),(92,.int .i64 ((i26:Int)))]) (fun i26 (s26:(List (List Int))×(List Int))=>[(3,.cells (zap p0)),(46,bufL 56 1 (encN 1 zab) s26.1),(50,bufL 3 1 zab s26.2),(507,bufL 3 1 zab s3)]) (.cons .q (.cons .q (.cons .qb (.cons .qb (.cons .qb (.cons .qi (.cons .q (.cons .qb (.cons .qi (.cons .qi (.cons .qi (.cons .qi .nil)))))))))))) (.cons .q (.cons .q (.cons .q (.cons .q .nil)))) (fun k26 i26 s26 hle26 H1 H2 K0 hK26=>?_)
       refine W.rg env [2,3,7,10,11,13,15,51,52,53,91,92,93] [3,46,50,507] ?_
       refine W.seq (W.cond rfl (fun hb27=>?_) (fun hb27=>?_))
       · have hi26:i26<((((s3.length:Nat):Int)+1)).toNat:=by have:=of_decide_eq_true hb27;omega
         have H:=H1 hi26
         refine W.skip (At.zad (W.seq (W.zkd H (fun (s28:(List (List Int))×(List Int))=>[(2,.bool (p2)),(3,.lp 3 0),(7,.buf 507 (s3).length),(10,.buf 46 (s28.1).length),(11,.buf 50 (s28.2).length),(13,.int .i64 ((s3.getD i14 default))),(15,roL 1 zab s18),(51,.buf 507 (s3).length),(52,.int .i64 (((s3.length:Nat):Int))),(53,.int .i64 ((i14:Int))),(91,.int .i64 ((((s3.length:Nat):Int)+1))),(92,.int .i64 ((i26:Int)))]) (fun (s28:(List (List Int))×(List Int))=>[(3,.cells (zap p0)),(46,bufL 56 1 (encN 1 zab) s28.1),(50,bufL 3 1 zab s28.2),(507,bufL 3 1 zab s3)]) (fun s28 H=>?_) (fun k28 H hK28=>?_))))
         · refine W.region env [] [] rfl rfl rfl (.cons (by unfold inI;have:=hn26;(try unfold maxLen at this);omega) .nil) .nil (At.kp [2,3,7,10,11,13,15,51,52,53,91,92] [3,46,50,507] ?_)
           refine At.zaD (At.kp [2,3,7,10,11,13,15,51,52,53,91,92] [3,46,50,507] ?_)
           exact At.conv (.cons .q (.cons .q (.cons .qb (.cons .qb (.cons .qb (.cons .qi (.cons .q (.cons .qb (.cons .qi (.cons .qi (.cons .qi (.cons .qi .nil)))))))))))) (.cons .q (.cons .q (.cons .q (.cons .q .nil)))) (hK26 hi26 (s28.1,s28.2) H)
         · refine W.block (W.rg env [2,3,7,10,11,13,15,18,51,52,53,91,92] [3,46,50,507] ?_)
           refine W.seq (W.rg env [2,3,7,10,11,13,15,18,51,52,53,91,92,96] [3,46,50,507] ?_)
           refine W.cond rfl (fun hb29=>?_) (fun hb29=>?_)
           · have H:=zag H hb29
             refine W.exit (At.xthen (At.xhere (At.zaD (At.kp [2,3,7,10,11,13,15,51,52,53,91,92] [3,46,50,507] ?_))))
             exact At.conv (.cons .q (.cons .q (.cons .qb (.cons .qb (.cons .qb (.cons .qi (.cons .q (.cons .qb (.cons .qi (.cons .qi (.cons .qi (.cons .qi .nil)))))))))))) (.cons .q (.cons .q (.cons .q (.cons .q .nil)))) (hK28 (s26.1,s26.2) H)
           · have H:=zaf H hb29
             refine W.skip (At.zad (W.seq ?_))
             obtain ⟨hc30,H⟩:=zaa H
             obtain ⟨hc31,H⟩:=zaa H
             obtain ⟨hc32,H⟩:=zaa H
             refine W.region env [98,16777322] [] rfl rfl rfl (.cons hc30 (.cons hc31 (.cons (⟨(by first|rfl|(simp;done)|omega|(simp;omega)),(⟨by first|rfl|(simp;done)|omega|(simp;omega),by have:=hc32;first|simpa using this|(unfold room at this ⊢;simp at this ⊢;omega)⟩)⟩) .nil))) .nil (At.kp [2,3,7,10,11,13,15,18,19,51,52,53,91,92] [3,46,50,507] ?_)
             refine At.slot (t:=19) (v:=roL 1 zab (([(s3.getD i14 default)]:List Int)++(s18.take ((min ((i26:Int) - 1) ((s18.length:Nat):Int))).toNat))) (Sim.seg (Seg.push (Seg.lit (f:=zab) (sz:=1) ([(s3.getD i14 default)]:List Int) rfl rfl (fun _=>rfl)) (Seg.take zab s18 (((min ((i26:Int) - 1) ((s18.length:Nat):Int))).toNat) (by omega)))) ?_
             refine At.zad (W.seq ?_)
             obtain ⟨y33,hy34,H⟩:=zac H
             refine W.region env [] [⟨.int .i64 (y33),[],0,[]⟩] rfl rfl rfl .nil (.free (zcW p0 (([(s3.getD i14 default)]:List Int)++(s18.take ((min ((i26:Int) - 1) ((s18.length:Nat):Int))).toNat)) p2 hy34) .nil) (At.kp [2,3,7,10,11,13,15,18,19,20,51,52,53,91,92] [3,46,50,507] ?_)
             refine At.zad ?_
             obtain ⟨hc35,H⟩:=zaa H
             obtain ⟨hc36,H⟩:=zaa H
             refine W.sr env [] [] [2,3,7,10,11,13,15,18,19,20,51,52,53,91,92,123] [3,46,50,507] rfl rfl rfl (.cons (⟨by first|rfl|(simp;done)|omega|(simp;omega),hc35⟩) (.cons (⟨by first|rfl|(simp;done)|omega|(simp;omega),(by have:=hc35;first|omega|(simp only [List.length_set];omega)|(simp only [Int.toNat_natCast] at *;omega)|(simp at this ⊢;omega))⟩) (.cons (fun hW=>⟨by first|rfl|(simp;done)|omega|(simp;omega),hc36 hW⟩) (.cons id (.cons id (.cons (fun hW=>(⟨by first|rfl|(simp;done)|omega|(simp;omega),(by have:=hc36 hW;first|omega|(simp only [List.length_set];omega)|(simp only [Int.toNat_natCast] at *;omega)|(simp at this ⊢;omega))⟩)) (.cons id (.cons id (.cons id (.cons (fun h=>by rw [h];rfl) .nil)))))))))) .nil ?_
             refine W.cond rfl (fun hb37=>?_) (fun hb37=>?_)
             · have H:=zag H hb37
               obtain ⟨hc38,H⟩:=zaa H
               obtain ⟨hc39,H⟩:=zaa H
               obtain ⟨hc40,H⟩:=zaa H
               refine W.region env [] [] rfl rfl rfl (.cons (⟨by first|rfl|(simp;done)|omega|(simp;omega),hc38⟩) (.cons (⟨by first|rfl|(simp;done)|omega|(simp;omega),(by have:=hc38;first|omega|(simp only [List.length_set];omega)|(simp only [Int.toNat_natCast] at *;omega)|(simp at this ⊢;omega))⟩) (.cons (⟨by first|rfl|(simp;done)|omega|(simp;omega),hc40⟩) (.cons (⟨by first|rfl|(simp;done)|omega|(simp;omega),(by have:=hc40;first|omega|(simp only [List.length_set];omega)|(simp only [Int.toNat_natCast] at *;omega)|(simp at this ⊢;omega))⟩) .nil)))) .nil (At.kp [2,3,7,10,11,13,15,51,52,53,91,92] [3,46,50,507] ?_)
               refine At.zaX (.cons (.refl _) (.cons (y:=bufL 56 1 (encN 1 zab) (s26.1.set i26 (([(s3.getD i14 default)]:List Int)++(s18.take ((min ((i26:Int) - 1) ((s18.length:Nat):Int))).toNat)))) (BSim.setS (Seg.refl (encN 1 zab) _) (([(s3.getD i14 default)]:List Int)++(s18.take ((min ((i26:Int) - 1) ((s18.length:Nat):Int))).toNat)) (.cons (Sim.nsOf hc39) .nil)) (.cons (y:=bufL 3 1 zab (s26.2.set i26 y33)) (BSim.seg (Seg.set (Seg.refl zab _) y33 rfl)) (.cons (.refl _) .nil)))) ?_
               refine At.inb (At.zaD (At.kp [2,3,7,10,11,13,15,51,52,53,91,92] [3,46,50,507] ?_))
               exact At.conv (.cons .q (.cons .q (.cons .qb (.cons .qb (.cons .qb (.cons .qi (.cons .q (.cons .qb (.cons .qi (.cons .qi (.cons .qi (.cons .qi .nil)))))))))))) (.cons .q (.cons .q (.cons .q (.cons .q .nil)))) (hK28 ((s26.1.set i26 (([(s3.getD i14 default)]:List Int)++(s18.take ((min ((i26:Int) - 1) ((s18.length:Nat):Int))).toNat))),(s26.2.set i26 y33)) H)
             · have H:=zaf H hb37
               refine W.skip (At.inb (At.zaD (At.kp [2,3,7,10,11,13,15,51,52,53,91,92] [3,46,50,507] ?_)))
               exact At.conv (.cons .q (.cons .q (.cons .qb (.cons .qb (.cons .qb (.cons .qi (.cons .q (.cons .qb (.cons .qi (.cons .qi (.cons .qi (.cons .qi .nil)))))))))))) (.cons .q (.cons .q (.cons .q (.cons .q .nil)))) (hK28 (s26.1,s26.2) H)
       · have H:=H2 (by have:=of_decide_eq_false hb27;omega)
         refine W.exit (At.xthen (At.xthen (At.xhere (At.inb (At.zad (W.region env [] [] rfl rfl rfl (.cons (by unfold inI;have:=hn14;(try unfold maxLen at this);omega) .nil) .nil (At.kp [2,3,7,10,11,51,52,53] [3,46,50,507] ?_)))))))
         refine At.zaD (At.kp [2,3,7,10,11,51,52,53] [3,46,50,507] ?_)
         exact At.conv (.cons .q (.cons .q (.cons .qb (.cons .qb (.cons .qb (.cons .qb (.cons .qi (.cons .qi .nil)))))))) (.cons .q (.cons .q (.cons .q (.cons .q .nil)))) (hK14 hi14 (s26.1,s26.2) H)
   · have H:=H2 (by have:=of_decide_eq_false hb15;omega)
     refine W.exit (At.xthen (At.xthen (At.xhere (At.zad (W.rg env [6] [46] ?_)))))
     refine W.ret ?_
     cases H
     exact At.ret env.ty rfl rfl (fun q hq=>by cases hq;exact (by first|rfl|(simp;done)|omega|(simp;omega))) Sim.roN hval
theorem zfs (p1:Int) {r:(List Int)} (H:zdm p1=some r):CtrO Tryz.prog 195 [.nilS,.int .i64 p1] [] (.buf 900 r.length) [(900,bufL 3 1 zab r)]:=by
 unfold zdm at H
 refine CtrO.zam (N:=27) Tryz.func195 (by kernel_rfl) (c:=_) rfl Tryz.ntmps195 rfl (fun w0 h0 ρb hval hdom=>?_)
 refine W.rg env [0,1] [] ?_
 refine W.seq (W.rg env [0,1,6] [] ?_)
 refine W.zkd H (fun (s1:Unit)=>[(0,.nilS),(1,.int .i64 (p1))]) (fun (s1:Unit)=>[]) (fun s1 H=>?_) (fun k1 H hK1=>?_)
 · refine W.seq ?_
   obtain ⟨hc2,H⟩:=zaa H
   obtain ⟨hc3,H⟩:=zaa H
   refine W.sr env [] [] [0,1] [] rfl rfl rfl (.cons hc2 (.cons hc3 .nil)) .nil ?_
   refine W.rg env [0,1,16] [] ?_
   refine W.cond rfl (fun hb4=>?_) (fun hb4=>?_)
   · have H:=zag H hb4
     obtain ⟨hc5,H⟩:=zaa H
     obtain ⟨hc6,H⟩:=zaa H
     refine W.region env [] [] rfl rfl rfl (.cons rfl (.cons hc5 (.cons (⟨by first|rfl|(simp;done)|omega|(simp;omega),(by first|exact hc6|simpa using hc6)⟩) .nil))) .nil (At.kp [0] [22] ?_)
     refine At.zaX (.cons (y:=bufL 3 1 zab (List.replicate ((p1 - (0 - 0))).toNat (0:Int))) (BSim.seg (Seg.made (f:=zab) 0 rfl)) .nil) ?_
     refine At.zad (W.rg env [4] [22] ?_)
     refine W.ret ?_
     cases H
     refine At.shrink 4 22 850 (K:=[]) (ts:=[]) rfl rfl (by first|rfl|(simp;done)|omega|(simp;omega)) (by have:=hc6;omega) rfl rfl rfl rfl ?_
     refine At.zaX (.cons (y:=bufL 3 1 zab ((List.replicate ((p1 - (0 - 0))).toNat (0:Int)).take 0)) (BSim.seg (Seg.first (Seg.refl zab _) (by have:=hc6;omega))) .nil) ?_
     exact At.retK env.ty [850] 50 rfl rfl rfl rfl (.cons (.refl _) .nil) (.of_eq (by refine zd8 ?_;first|(simp [zaE];done)|omega|(simp [zaE];omega)|rfl)) hval hdom rfl
   · have H:=zaf H hb4
     refine W.skip (At.zad (W.rg env [4] [] ?_))
     refine W.ret ?_
     cases H
     refine At.zeV 4 800 3 1 (e:=fun i=>zab (([]:List Int).getD i default)) rfl rfl ?_
     exact At.retK env.ty [800] 100 rfl rfl rfl rfl (.cons (.refl _) .nil) (.of_eq (by refine zd8 ?_;first|(simp [zaE];done)|omega|(simp [zaE];omega)|rfl)) hval hdom rfl
 · refine W.cond rfl (fun hb7=>?_) (fun hb7=>?_)
   · have H:=zag H hb7
     cases H
   · have H:=zaf H hb7
     refine W.skip (At.zaD (At.kp [0,1] [] ?_))
     exact At.conv (.cons (by first|exact Sim.refl _|exact Sim.nil _ _) (.cons .qi .nil)) .nil (hK1 () H)
theorem zgU (p0:(List (List Int))) {r:(List Int)} (H:zdK p0=some r):Ctr Tryz.prog 164 [roL 1 zce p0] (roL 1 zab r):=by
 unfold zdK at H
 refine Ctr.zam (N:=36) Tryz.func164 (by kernel_rfl) (c:=_) rfl Tryz.ntmps164 rfl (fun w0 h0 hval=>?_)
 refine W.rg env [0] [] ?_
 refine W.rg env [0,3] [] ?_
 refine W.seq (W.rg env [0,3,9,10,11] [] ?_)
 refine W.block (At.kp [0,3,9,10,11] [] ?_)
 refine W.len (t:=9) rfl (fun (hn1:p0.length≤maxLen)=>?_)
 refine W.zau H (fun i1 (s1:Int)=>[(0,roL 1 zce p0),(3,.int .i64 (s1)),(9,roL 1 zce p0),(10,.int .i64 (((p0.length:Nat):Int))),(11,.int .i64 ((i1:Int)))]) (fun i1 (s1:Int)=>[]) (.cons .q (.cons .qi (.cons .q (.cons .qi (.cons .qi .nil))))) .nil (fun k1 i1 s1 hle1 H1 H2 K0 hK1=>?_)
 refine W.rg env [0,3,9,10,11,12] [] ?_
 refine W.seq (W.cond rfl (fun hb2=>?_) (fun hb2=>?_))
 · have hi1:i1<p0.length:=by have:=of_decide_eq_true hb2;omega
   have H:=H1 hi1
   refine W.skip (At.zad (W.seq (W.block (W.sr env [] [] [0,3,5,9,10,11] [] rfl rfl rfl (.cons (⟨by omega,by omega⟩:0≤(i1:Int)∧(i1:Int)<((p0.length:Nat):Int)) .nil) .nil ?_))))
   obtain ⟨hc3,H⟩:=zaa H
   refine W.sr env [] [] [0,3,9,10,11] [] rfl rfl rfl (.cons hc3 .nil) .nil ?_
   refine W.rg env [0,3,9,10,11,20] [] ?_
   refine W.cond rfl (fun hb4=>?_) (fun hb4=>?_)
   · have H:=zag H hb4
     cases H
   · have H:=zaf H hb4
     refine W.skip (At.inb (At.zad (W.region env [] [] rfl rfl rfl (.cons (by unfold inI;have:=hn1;(try unfold maxLen at this);omega) .nil) .nil (At.kp [0,3,9,10,11] [] ?_))))
     refine At.zaD (At.kp [0,3,9,10,11] [] ?_)
     exact At.conv (.cons .q (.cons .qi (.cons .q (.cons .qi (.cons .qi .nil))))) .nil (hK1 hi1 (s1+(((p0.getD i1 default).length:Nat):Int)) H)
 · have H:=H2 (by have:=of_decide_eq_false hb2;omega)
   refine W.exit (At.xthen (At.xthen (At.xhere (At.zad (W.seq ?_)))))
   obtain ⟨y5,hy6,H⟩:=zac H
   refine W.region env [] [⟨.buf 900 y5.length,[(900,bufL 3 1 zab y5)],25000,[]⟩] rfl rfl (by kernel_rfl) .nil (.free (Ctr.ofO (zfs s1 hy6)) .nil) (At.kp [0,6] [25900] ?_)
   refine At.zad (W.seq (W.rg env [6,25,26,27] [25900] ?_))
   refine W.block (At.kp [6,25,26,27] [25900] ?_)
   refine W.len (t:=25) rfl (fun (hn7:p0.length≤maxLen)=>?_)
   refine W.zau H (fun i7 (s7:(List Int))=>[(6,.buf 25900 (s7).length),(25,roL 1 zce p0),(26,.int .i64 (((p0.length:Nat):Int))),(27,.int .i64 ((i7:Int)))]) (fun i7 (s7:(List Int))=>[(25900,bufL 3 1 zab s7)]) (.cons .qb (.cons .q (.cons .qi (.cons .qi .nil)))) (.cons .q .nil) (fun k7 i7 s7 hle7 H1 H2 K0 hK7=>?_)
   refine W.rg env [6,25,26,27,28] [25900] ?_
   refine W.seq (W.cond rfl (fun hb8=>?_) (fun hb8=>?_))
   · have hi7:i7<p0.length:=by have:=of_decide_eq_true hb8;omega
     have H:=H1 hi7
     refine W.skip (At.zad (W.seq (W.block (W.sr env [] [] [6,8,25,26,27] [25900] rfl rfl rfl (.cons (⟨by omega,by omega⟩:0≤(i7:Int)∧(i7:Int)<((p0.length:Nat):Int)) .nil) .nil ?_))))
     obtain ⟨hc9,H⟩:=zaa H
     refine W.region env [] [] rfl rfl rfl (.cons (⟨by first|rfl|(simp;done)|omega|(simp;omega),by have:=hc9;first|simpa using this|(unfold room at this ⊢;simp at this ⊢;omega)⟩) .nil) .nil (At.kp [6,25,26,27] [25900] ?_)
     refine At.zaX (.cons (y:=bufL 3 1 zab (s7++(p0.getD i7 default))) (BSim.seg (Seg.push (Seg.refl zab _) (Seg.refl zab (p0.getD i7 default)))) .nil) ?_
     refine At.inb (At.zad (W.region env [] [] rfl rfl rfl (.cons (by unfold inI;have:=hn7;(try unfold maxLen at this);omega) .nil) .nil (At.kp [6,25,26,27] [25900] ?_)))
     refine At.zaD (At.kp [6,25,26,27] [25900] ?_)
     exact At.conv (.cons .qb (.cons .q (.cons .qi (.cons .qi .nil)))) (.cons .q .nil) (hK7 hi7 (s7++(p0.getD i7 default)) H)
   · have H:=H2 (by have:=of_decide_eq_false hb8;omega)
     refine W.exit (At.xthen (At.xthen (At.xhere (At.zad (W.rg env [2] [25900] ?_)))))
     refine W.ret ?_
     cases H
     exact At.ret env.ty rfl rfl (fun q hq=>by cases hq;exact (by first|rfl|(simp;done)|omega|(simp;omega))) (.refl _) hval
theorem zgC (p0:Range) (p1:Int):Ctr Tryz.prog 122 [.agg [.int .i64 (p0.Lo),.int .i64 (p0.Hi)],.int .i64 (p1)] (.int .i64 ((zcQ p0 p1))):=by
 obtain ⟨r,H⟩:∃ r,zcQ p0 p1=r:=⟨_,rfl⟩
 rw [H]
 unfold zcQ at H
 refine Ctr.zam (N:=15) Tryz.func122 (by kernel_rfl) (c:=_) rfl Tryz.ntmps122 rfl (fun w0 h0 hval=>?_)
 refine W.rg env [1,2] [2] ?_
 refine W.seq (W.block (W.rg env [1,2,5] [2] ?_))
 refine W.cond rfl (fun hb1=>?_) (fun hb1=>?_)
 · have H:=zag H hb1
   refine W.rg env [4] [] ?_
   refine W.ret (At.rinb ?_)
   refine At.rthen ?_
   cases H
   exact At.ret env.ty rfl rfl nofun (.refl _) hval
 · have H:=zaf H hb1
   refine W.rg env [10] [] ?_
   refine W.cond rfl (fun hb2=>?_) (fun hb2=>?_)
   · have H:=zag H hb2
     refine W.rg env [4] [] ?_
     refine W.ret (At.rinb ?_)
     refine At.rthen ?_
     cases H
     exact At.ret env.ty rfl rfl nofun (.refl _) hval
   · have H:=zaf H hb2
     refine W.skip (At.inb (At.zad (W.rg env [4] [] ?_)))
     refine W.ret ?_
     cases H
     exact At.ret env.ty rfl rfl nofun (.refl _) hval
theorem zf3 (p0:mantle_lot) (p1:(List Int)) (p2:Int) (p3:Bool) {r:Bool} (H:zdo p0 p1 p2 p3=some r):Ctr Tryz.prog 127 [.agg (zap p0),roL 1 zab p1,.int .i64 (p2),.bool (p3)] (.bool (r)):=by
 unfold zdo at H
 refine Ctr.zam (N:=29) Tryz.func127 (by kernel_rfl) (c:=_) rfl Tryz.ntmps127 rfl (fun w0 h0 hval=>?_)
 refine W.rg env [1,2,3,4] [4] ?_
 refine W.seq ?_
 obtain ⟨y1,hy2,H⟩:=zac H
 refine W.region env [] [⟨.agg (zap y1),[],0,[]⟩] rfl rfl rfl .nil (.free (zdb p0 p1 p3 hy2) .nil) (At.kp [2,3,9] [9] ?_)
 refine At.zad (W.seq (W.seq ?_))
 obtain ⟨y3,hy4,H⟩:=zac H
 refine W.region env [] [⟨.bool (y3),[],0,[]⟩] rfl rfl rfl .nil (.free (zbh y1.closet hy4) .nil) (At.kp [2,3,9,17] [9] ?_)
 refine At.zad (W.cond rfl (fun hb5=>?_) (fun hb5=>?_))
 · have H:=zag H hb5
   refine W.rg env [8] [] ?_
   refine W.ret (At.rthen ?_)
   cases H
   exact At.ret env.ty rfl rfl nofun (.refl _) hval
 · have H:=zaf H hb5
   refine W.skip (At.zad (W.seq (W.rg env [2,9,18] [9] ?_)))
   refine W.cond rfl (fun hb6=>?_) (fun hb6=>?_)
   · have H:=zag H hb6
     refine W.seq ?_
     obtain ⟨y7,hy8,H⟩:=zac H
     refine W.region env [] [⟨.agg [.int .i64 (y7.Lo),.int .i64 (y7.Hi)],[],0,[]⟩,⟨.int .i64 ((zcQ y7 p2)),[],0,[]⟩] rfl rfl rfl .nil (.free (zda y1 hy8) (.free (zgC y7 p2) .nil)) (At.kp [8] [] ?_)
     refine At.zad (W.ret (At.rthen ?_))
     cases H
     exact At.ret env.ty rfl rfl nofun (.refl _) hval
   · have H:=zaf H hb6
     refine W.skip (At.zad (W.seq ?_))
     obtain ⟨y9,hy10,H⟩:=zac H
     refine W.region env [] [⟨.agg [.int .i64 (y9.Lo),.int .i64 (y9.Hi)],[],0,[]⟩,⟨.int .i64 ((zcQ y9 p2)),[],0,[]⟩] rfl rfl rfl .nil (.free (zda y1 hy10) (.free (zgC y9 p2) .nil)) (At.kp [8] [] ?_)
     refine At.zad (W.ret ?_)
     cases H
     exact At.ret env.ty rfl rfl nofun (.refl _) hval
theorem zfv (fuel:Nat) (p0:mantle_lot) (p1:Int) (p2:Bool) (post:((List Int)×Bool)→Option Unit) {r:Unit} (H:zc8 fuel p0 p1 p2 post=some r):CtrN Tryz.prog 123 [.agg (zap p0),.int .i64 (p1),.bool (p2)] (fun (y:((List Int)×Bool))=>.tup [roL 1 zab y.1,.bool (y.2)]) (fun y=>post y=some r):=by
 unfold zc8 at H
 refine CtrN.zam (N:=107) Tryz.func123 (by kernel_rfl) (c:=_) rfl Tryz.ntmps123 rfl (fun w0 h0 hval=>?_)
 refine W.rg env [1,2,3] [3] ?_
 refine W.seq (W.region env [] [] rfl rfl rfl .nil .nil (At.kp [1,2,3,8] [3,22] ?_))
 refine At.zaX (.cons (.refl _) (.cons (y:=mapL (.slice none 0 0) (fun (x:(List Int))=>roL 1 zab x) ((Mp.empty:Mp (List Int)).set 0 [])) (BSim.zn0 (f:=(fun (x:(List Int))=>roL 1 zab x)) (zg0.set (zg0.empty (f:=(fun (x:(List Int))=>roL 1 zab x)) (Sim.nil _ _)) [] (Sim.nil _ _))) .nil)) ?_
 refine At.zad (W.seq (W.rg env [1,2,3,8,28,29] [3,22] ?_))
 refine W.block (At.zl2 22 (K:=[3]) (ts:=[1,2,3,8,28,29]) rfl rfl rfl rfl (fun _ h=>h) ?_)
 refine At.kp [1,2,3,8,28,29] [3] ?_
 obtain ⟨hn1,H⟩:=zaa H
 refine W.zau H (fun i1 (s1:(Mp (List Int)))=>[(1,.int .i64 (p1)),(2,.bool (p2)),(3,.lp 3 0),(8,romL (.slice none 0 0) (fun (x:(List Int))=>roL 1 zab x) s1),(28,.int .i64 (((p0.closet.w.Batches.length:Nat):Int))),(29,.int .i64 ((i1:Int)))]) (fun i1 (s1:(Mp (List Int)))=>[(3,.cells (zap p0))]) (.cons .qi (.cons .q (.cons .q (.cons .q (.cons .qi (.cons .qi .nil)))))) (.cons .q .nil) (fun k1 i1 s1 hle1 H1 H2 K0 hK1=>?_)
 refine W.rg env [1,2,3,8,28,29,30] [3] ?_
 refine W.seq (W.cond rfl (fun hb2=>?_) (fun hb2=>?_))
 · have hi1:i1<p0.closet.w.Batches.length:=by have:=of_decide_eq_true hb2;omega
   have H:=H1 hi1
   refine W.skip (At.zad (W.seq (W.block (W.rg env [1,2,3,8,9,28,29] [3] ?_))))
   refine W.seq ?_
   obtain ⟨y3,hy4,H⟩:=zac H
   refine W.region env [] [⟨roL 1 zce y3,[],0,[]⟩] rfl rfl rfl .nil (.free (zgW p0 (i1:Int) p2 hy4) .nil) (At.kp [1,2,3,8,10,28,29] [3] ?_)
   refine At.zad (W.seq (W.region env [] [] rfl rfl rfl .nil .nil (At.kp [1,2,3,8,10,11,28,29] [3,36] ?_)))
   refine At.zaX (.cons (.refl _) (.cons (y:=mapL (.slice none 0 0) (fun (x:(List Int))=>roL 1 zab x) (Mp.empty:Mp (List Int))) (BSim.zn0 (f:=(fun (x:(List Int))=>roL 1 zab x)) (zg0.empty (f:=(fun (x:(List Int))=>roL 1 zab x)) (Sim.nil _ _))) .nil)) ?_
   refine At.zad (W.seq (W.rg env [1,2,3,10,11,28,29,38] [3,36,38] ?_))
   refine W.block ?_
   obtain ⟨hok5,H⟩:=zaa H
   refine At.kp [1,2,3,10,11,28,29,38] [38,3,36] ?_
   refine At.zke 38 rfl (fun left hleft=>?_)
   refine At.kp [1,2,3,10,11,28,29,38] [38,3,36] ?_
   refine W.zeo H (Mp.perm hok5 hleft) hleft.2.1 38 (fun k=>(fun (x:(List Int))=>roL 1 zab x) ((s1.get k).getD default)) (fun (s5:(Mp (List Int)))=>[(1,.int .i64 (p1)),(2,.bool (p2)),(3,.lp 3 0),(10,roL 1 zce y3),(11,.mp 36),(28,.int .i64 (((p0.closet.w.Batches.length:Nat):Int))),(29,.int .i64 ((i1:Int))),(38,.lp 38 0)]) (fun (s5:(Mp (List Int)))=>[(3,.cells (zap p0)),(36,mapL (.slice none 0 0) (fun (x:(List Int))=>roL 1 zab x) s5)]) (.cons .qi (.cons .q (.cons .q (.cons .q (.cons .q (.cons .qi (.cons .qi (.cons .q .nil)))))))) (.cons (.refl _) (.cons .q (.cons .q .nil))) (fun left s5 HJ5 hsub5 K hK5=>?_)
   refine W.seq (W.next rfl rfl rfl rfl rfl rfl rfl rfl rfl rfl rfl (fun hz=>?_) (fun q5 left2 hp5=>?_))
   · subst hz
     have H:k1 s5=some r:=HJ5
     refine At.zad (W.seq (W.cond rfl (fun hb18=>by cases hb18) (fun hb18=>?_)))
     refine W.exit (At.xthen (At.xthen (At.xhere (At.zad (At.zl2 36 (K:=[3]) (ts:=[1,2,3,11,28,29]) rfl rfl rfl rfl (fun _ h=>h) ?_)))))
     refine W.region env [] [] rfl rfl rfl .nil .nil (At.kp [1,2,3,8,28,29] [3] ?_)
     refine At.inb (At.zad (W.region env [] [] rfl rfl rfl (.cons (by unfold inI;have:=hn1;(try unfold maxLen at this);omega) .nil) .nil (At.kp [1,2,3,8,28,29] [3] ?_)))
     refine At.zaD (At.kp [1,2,3,8,28,29] [3] ?_)
     exact At.conv (.cons .qi (.cons .q (.cons .q (.cons .q (.cons .qi (.cons .qi .nil)))))) (.cons .q .nil) (hK1 hi1 s5 H)
   · have H:=zlW hp5 HJ5
     refine At.zad (W.seq (W.cond rfl (fun hb6=>?_) (fun hb6=>by cases hb6)))
     refine W.skip (At.zad (W.block (W.rg env [1,2,3,10,11,12,13,28,29,38] [3,36,38] ?_)))
     refine W.rg env [1,2,3,10,11,12,13,28,29,38,44,45,46] [3,36,38] ?_
     refine W.block (At.kp [1,2,3,10,11,12,13,28,29,38,44,45,46] [3,36,38] ?_)
     refine W.len (t:=44) rfl (fun (hn7:y3.length≤maxLen)=>?_)
     refine W.zau H (fun i7 (s7:(Mp (List Int)))=>[(1,.int .i64 (p1)),(2,.bool (p2)),(3,.lp 3 0),(10,roL 1 zce y3),(11,.mp 36),(12,.int .i64 (q5)),(13,roL 1 zab ((s1.get q5).getD default)),(28,.int .i64 (((p0.closet.w.Batches.length:Nat):Int))),(29,.int .i64 ((i1:Int))),(38,.lp 38 0),(44,roL 1 zce y3),(45,.int .i64 (((y3.length:Nat):Int))),(46,.int .i64 ((i7:Int)))]) (fun i7 (s7:(Mp (List Int)))=>[(3,.cells (zap p0)),(36,mapL (.slice none 0 0) (fun (x:(List Int))=>roL 1 zab x) s7),(38,.iter (fun k=>(fun (x:(List Int))=>roL 1 zab x) ((s1.get k).getD default)) (some q5) (fun l=>l=left2))]) (.cons .qi (.cons .q (.cons .q (.cons .q (.cons .q (.cons .qi (.cons .q (.cons .qi (.cons .qi (.cons .q (.cons .q (.cons .qi (.cons .qi .nil))))))))))))) (.cons .q (.cons .q (.cons .q .nil))) (fun k7 i7 s7 hle7 H1 H2 K0 hK7=>?_)
     refine W.rg env [1,2,3,10,11,12,13,28,29,38,44,45,46,47] [3,36,38] ?_
     refine W.seq (W.cond rfl (fun hb8=>?_) (fun hb8=>?_))
     · have hi7:i7<y3.length:=by have:=of_decide_eq_true hb8;omega
       have H:=H1 hi7
       refine W.skip (At.zad (W.seq (W.block (W.sr env [] [] [1,2,3,10,11,12,13,15,28,29,38,44,45,46] [3,36,38] rfl rfl rfl (.cons (⟨by omega,by omega⟩:0≤(i7:Int)∧(i7:Int)<((y3.length:Nat):Int)) .nil) .nil ?_))))
       refine W.seq ?_
       obtain ⟨y9,hy10,H⟩:=zac H
       refine W.region env [] [⟨roL 1 zab y9,[],0,[]⟩] rfl rfl rfl .nil (.free (Ctr.sim (.cons (Sim.lit (f:=zce) ([((s1.get q5).getD default),(y3.getD i7 default)]:List (List Int)) rfl rfl (fun _=>rfl)) .nil) (zgU ([((s1.get q5).getD default),(y3.getD i7 default)]:List (List Int)) hy10)) .nil) (At.kp [1,2,3,10,11,12,13,15,16,28,29,38,44,45,46] [3,36,38] ?_)
       refine At.zad ?_
       obtain ⟨hc11,H⟩:=zaa H
       refine W.sr env [] [] [1,2,3,10,11,12,13,15,16,17,18,28,29,38,44,45,46] [3,36,38] rfl rfl rfl (.cons hc11 (.cons rfl .nil)) .nil ?_
       refine W.seq ?_
       obtain ⟨y12,hy13,H⟩:=zac H
       obtain ⟨y14,hy15,H⟩:=zac H
       refine W.region env [] [⟨.int .i64 (y12),[],0,[]⟩,⟨.int .i64 (y14),[],0,[]⟩] rfl rfl (by kernel_rfl) (.cons id (.cons id (.cons id (.cons id (.cons id (.cons id (.cons id (.cons id (.cons (fun h=>by rw [h];rfl) .nil))))))))) (.on (fun hW=>zcW p0 y9 p2 (zag hy13 hW)) (.on (fun hW=>zcW p0 ((s7.get (q5+(((y3.getD i7 default).length:Nat):Int))).getD default) p2 (zag hy15 hW)) .nil)) (At.kp [1,2,3,10,11,12,13,15,16,28,29,38,44,45,46,75] [3,36,38] ?_)
       refine At.zad (W.cond rfl (fun hb16=>?_) (fun hb16=>?_))
       · have H:=zag H hb16
         obtain ⟨hc17,H⟩:=zaa H
         refine W.region env [] [] rfl rfl rfl (.cons hc17 .nil) .nil (At.kp [1,2,3,10,11,12,13,28,29,38,44,45,46] [3,36,38] ?_)
         refine At.zaX (.cons (.refl _) (.cons (y:=mapL (.slice none 0 0) (fun (x:(List Int))=>roL 1 zab x) (s7.set (q5+(((y3.getD i7 default).length:Nat):Int)) y9)) (BSim.mseg (f:=(fun (x:(List Int))=>roL 1 zab x)) (MSeg.set (MSeg.refl (fun (x:(List Int))=>roL 1 zab x) _) y9 rfl)) (.cons (.refl _) .nil))) ?_
         refine At.inb (At.zad (W.region env [] [] rfl rfl rfl (.cons (by unfold inI;have:=hn7;(try unfold maxLen at this);omega) .nil) .nil (At.kp [1,2,3,10,11,12,13,28,29,38,44,45,46] [3,36,38] ?_)))
         refine At.zaD (At.kp [1,2,3,10,11,12,13,28,29,38,44,45,46] [3,36,38] ?_)
         exact At.conv (.cons .qi (.cons .q (.cons .q (.cons .q (.cons .q (.cons .qi (.cons .q (.cons .qi (.cons .qi (.cons .q (.cons .q (.cons .qi (.cons .qi .nil))))))))))))) (.cons .q (.cons .q (.cons .q .nil))) (hK7 hi7 (s7.set (q5+(((y3.getD i7 default).length:Nat):Int)) y9) H)
       · have H:=zaf H hb16
         refine W.skip (At.inb (At.zad (W.region env [] [] rfl rfl rfl (.cons (by unfold inI;have:=hn7;(try unfold maxLen at this);omega) .nil) .nil (At.kp [1,2,3,10,11,12,13,28,29,38,44,45,46] [3,36,38] ?_))))
         refine At.zaD (At.kp [1,2,3,10,11,12,13,28,29,38,44,45,46] [3,36,38] ?_)
         exact At.conv (.cons .qi (.cons .q (.cons .q (.cons .q (.cons .q (.cons .qi (.cons .q (.cons .qi (.cons .qi (.cons .q (.cons .q (.cons .qi (.cons .qi .nil))))))))))))) (.cons .q (.cons .q (.cons .q .nil))) (hK7 hi7 s7 H)
     · have H:=H2 (by have:=of_decide_eq_false hb8;omega)
       refine W.exit (At.xthen (At.xthen (At.xhere (At.inb (At.zaD (At.kp [1,2,3,10,11,28,29,38] [38,3,36] ?_))))))
       exact At.conv (.cons .qi (.cons .q (.cons .q (.cons .q (.cons .q (.cons .qi (.cons .qi (.cons .q .nil)))))))) (.cons (.refl _) (.cons .q (.cons .q .nil))) (hK5 _ left2 s7 hp5 H)
 · have H:=H2 (by have:=of_decide_eq_false hb2;omega)
   refine W.exit (At.xthen (At.xthen (At.xhere (At.zad (W.seq (W.rg env [1,2,3,8,19] [3] ?_))))))
   refine W.block (At.kp [1,2,3,8,19] [3] ?_)
   refine W.loopGo H (fun (s19:Int)=>[(1,.int .i64 (p1)),(2,.bool (p2)),(3,.lp 3 0),(8,romL (.slice none 0 0) (fun (x:(List Int))=>roL 1 zab x) s1),(19,.int .i64 (s19))]) (fun (s19:Int)=>[(3,.cells (zap p0))]) (.cons .qi (.cons .q (.cons .q (.cons .q (.cons .qi .nil))))) (.cons .q .nil) (fun k19 s19 H K0 hK19=>?_)
   refine W.seq (W.rg env [1,2,3,8,19,89] [3] ?_)
   refine W.cond rfl (fun hb20=>?_) (fun hb20=>?_)
   · have H:=zag H hb20
     refine W.skip (At.zad (W.seq (W.block (W.sr env [] [] [1,2,3,8,19,20,21] [3] rfl rfl rfl (.cons rfl .nil) .nil ?_))))
     refine W.seq ?_
     obtain ⟨y21,hy22,H⟩:=zac H
     refine W.region env [] [⟨.bool (y21),[],0,[]⟩] rfl rfl rfl (.cons id (.cons id (.cons id (.cons id (.cons id .nil))))) (.on (fun hW=>zf3 p0 ((s1.get s19).getD default) p1 p2 (zag hy22 hW)) .nil) (At.kp [1,2,3,8,19,20,105] [3] ?_)
     refine At.zad (W.cond rfl (fun hb23=>?_) (fun hb23=>?_))
     · have H:=zag H hb23
       refine W.rg env [6,7] [] ?_
       refine W.ret (At.rinb ?_)
       refine At.rthen ?_
       refine At.rthen ?_
       refine At.rinb ?_
       refine At.rthen ?_
       exact At.retN env.ty (((s1.get s19).getD default),true) H rfl rfl nofun (.refl _) hval
     · have H:=zaf H hb23
       refine W.skip (At.inb (At.zad ?_))
       obtain ⟨hc24,H⟩:=zaa H
       refine W.region env [] [] rfl rfl rfl (.cons hc24 .nil) .nil (At.kp [1,2,3,8,19] [3] ?_)
       refine At.zaD (At.kp [1,2,3,8,19] [3] ?_)
       exact At.conv (.cons .qi (.cons .q (.cons .q (.cons .q (.cons .qi .nil))))) (.cons .q .nil) (hK19 (s19+1) H)
   · have H:=zaf H hb20
     refine W.exit (At.xthen (At.xthen (At.xhere (At.zad (W.rg env [6,7] [] ?_)))))
     exact W.ret (At.retN env.ty ([],false) H rfl rfl nofun (Sim.tupL (.cons (Sim.nil _ _) (.cons (.refl _) .nil))) hval)
theorem zeF (p0:List Int) {r:List Int} (H:zbV p0=some r):CtrO Tryz.prog 120 [.buf 90000 p0.length] [(90000,bufL 3 1 zab p0)] (.tup []) [(90000,bufL 3 1 zab r)]:=
 zo5 (Go.Av.enters_of Tryz.func120 (by kernel_rfl) (c:=_) rfl) (Any.slices_Sort_int zkR) (Any.slices_Sort_int_none zkR) 3 p0 H
theorem zhM (fuel:Nat) (p0:Wear) (p1:(List Int)) (p2:Int) (p3:Int) (p4:Int) (p5:Bool) (post:((List Int)×Int)→Option Unit) {r:Unit} (H:zeq fuel p0 p1 p2 p3 p4 p5 post=some r):CtrN Tryz.prog 53 [.agg (zar p0),roL 1 zab p1,.int .i64 (p2),.int .i64 (p3),.int .i64 (p4),.bool (p5)] (fun (y:((List Int)×Int))=>.tup [roL 1 zab y.1,.int .i64 (y.2)]) (fun y=>post y=some r):=by
 unfold zeq at H
 refine CtrN.zam (N:=59) Tryz.func53 (by kernel_rfl) (c:=_) rfl Tryz.ntmps53 rfl (fun w0 h0 hval=>?_)
 refine W.rg env [1,2,3,4,5,6] [6] ?_
 refine W.seq ?_
 obtain ⟨y1,hy2,H⟩:=zac H
 refine W.region env [] [⟨.tup [.agg (zap y1.1),.int .i64 (y1.2)],[],0,[]⟩] rfl rfl rfl .nil (.free (ze0 fuel p0 p1 p2 p3 p4 hy2) .nil) (At.kp [1,4,5,14,15] [14] ?_)
 refine At.zad (W.seq (W.rg env [1,4,5,14,15,31] [14] ?_))
 refine W.cond rfl (fun hb3=>?_) (fun hb3=>?_)
 · have H:=zag H hb3
   refine W.rg env [12,13] [] ?_
   refine W.ret (At.rthen ?_)
   exact At.retN env.ty ([],y1.2) H rfl rfl nofun (Sim.tupL (.cons (Sim.nil _ _) (.cons (.refl _) .nil))) hval
 · have H:=zaf H hb3
   refine W.skip (At.zad (W.seq (W.znQ env [] 3 [] [] rfl rfl rfl rfl rfl rfl (fun _=>rfl) rfl .nil .nil (fun _=>.nil) (fun _=>.nil) (fun _=>rfl) (zfv fuel y1.1 p4 p5 _ H) (fun y4 H=>?_))))
   refine At.kp [1,16,17] [] ?_
   refine At.zad (W.seq (W.rg env [1,16,41] [] ?_))
   refine W.cond rfl (fun hb5=>?_) (fun hb5=>?_)
   · have H:=zag H hb5
     refine W.rg env [12,13] [] ?_
     refine W.ret (At.rthen ?_)
     exact At.retN env.ty ([],3) H rfl rfl nofun (Sim.tupL (.cons (Sim.nil _ _) (.cons (.refl _) .nil))) hval
   · have H:=zaf H hb5
     refine W.skip (At.zad (W.rg env [1,16,18] [] ?_))
     refine W.seq (W.rg env [1,18,42,43,44] [] ?_)
     refine W.block (At.zeV 18 518 3 1 (e:=fun i=>zab (([]:List Int).getD i default)) rfl rfl ?_)
     refine At.kp [1,18,42,43,44] [518] ?_
     refine W.len (t:=42) rfl (fun (hn6:y4.1.length≤maxLen)=>?_)
     refine W.zau H (fun i6 (s6:(List Int))=>[(1,roL 1 zab p1),(18,.buf 518 (s6).length),(42,roL 1 zab y4.1),(43,.int .i64 (((y4.1.length:Nat):Int))),(44,.int .i64 ((i6:Int)))]) (fun i6 (s6:(List Int))=>[(518,bufL 3 1 zab s6)]) (.cons .q (.cons .qb (.cons .q (.cons .qi (.cons .qi .nil))))) (.cons .q .nil) (fun k6 i6 s6 hle6 H1 H2 K0 hK6=>?_)
     refine W.rg env [1,18,42,43,44,45] [518] ?_
     refine W.seq (W.cond rfl (fun hb7=>?_) (fun hb7=>?_))
     · have hi6:i6<y4.1.length:=by have:=of_decide_eq_true hb7;omega
       have H:=H1 hi6
       refine W.skip (At.zad (W.seq (W.block (W.sr env [] [] [1,18,20,42,43,44] [518] rfl rfl rfl (.cons (⟨by omega,by omega⟩:0≤(i6:Int)∧(i6:Int)<((y4.1.length:Nat):Int)) .nil) .nil ?_))))
       obtain ⟨hc8,H⟩:=zaa H
       obtain ⟨hc9,H⟩:=zaa H
       refine W.region env [] [] rfl rfl rfl (.cons hc8 (.cons (⟨by first|rfl|(simp;done)|omega|(simp;omega),by have:=hc9;first|simpa using this|(unfold room at this ⊢;simp at this ⊢;omega)⟩) .nil)) .nil (At.kp [1,18,42,43,44] [518] ?_)
       refine At.zaX (.cons (y:=bufL 3 1 zab (s6++([(p1.getD ((y4.1.getD i6 default)).toNat default)]:List Int))) (BSim.seg (Seg.push (Seg.refl zab _) (Seg.lit (f:=zab) (sz:=1) ([(p1.getD ((y4.1.getD i6 default)).toNat default)]:List Int) rfl rfl (fun _=>rfl)))) .nil) ?_
       refine At.inb (At.zad (W.region env [] [] rfl rfl rfl (.cons (by unfold inI;have:=hn6;(try unfold maxLen at this);omega) .nil) .nil (At.kp [1,18,42,43,44] [518] ?_)))
       refine At.zaD (At.kp [1,18,42,43,44] [518] ?_)
       exact At.conv (.cons .q (.cons .qb (.cons .q (.cons .qi (.cons .qi .nil))))) (.cons .q .nil) (hK6 hi6 (s6++([(p1.getD ((y4.1.getD i6 default)).toNat default)]:List Int)) H)
     · have H:=H2 (by have:=of_decide_eq_false hb7;omega)
       refine W.exit (At.xthen (At.xthen (At.xhere (At.zad (W.seq ?_)))))
       obtain ⟨y10,hy11,H⟩:=zac H
       obtain ⟨hc12,H⟩:=zaa H
       refine W.region env [] [⟨.tup [],[(518,bufL 3 1 zab y10)],0,[518]⟩] rfl rfl (by kernel_rfl) .nil (.free (CtrO.sim (CtrO.ren (zeF s6 hy11) [(90000,518)]) (.cons .qc .nil) (.cons (.refl _) .nil)) .nil) (At.kp [18] [518] ?_)
       refine At.zad (W.rg env [12,13] [518] ?_)
       exact W.ret (At.retN env.ty (y10,0) H rfl rfl (fun q hq=>by cases hq;exact (by first|rfl|(simp;done)|omega|(simp;omega))) (.refl _) hval)
theorem zd4 (fuel:Nat) (p0:(List Look)) (p1:Look) (p2:Look→Look→Option Int) (p2_g:Nat) (p2_a p2_b:List AV) (p2_h:∀ x0 x1 r,p2 x0 x1=some r→Ctr Tryz.prog p2_g (p2_a++([.agg [.int .i64 (x0.Source),.int .i64 (x0.Lamp),.int .i64 (x0.Night),.bool (x0.Bad),.int .i64 (x0.Known),.int .i64 (x0.Until)],.agg [.int .i64 (x1.Source),.int .i64 (x1.Lamp),.int .i64 (x1.Night),.bool (x1.Bad),.int .i64 (x1.Known),.int .i64 (x1.Until)]]++p2_b)) (.int .i64 (r))) {r:(Int×Bool)} (H:zbQ fuel p0 p1 p2=some r):Ctr Tryz.prog 60 [roL 6 zak p0,.agg [.int .i64 (p1.Source),.int .i64 (p1.Lamp),.int .i64 (p1.Night),.bool (p1.Bad),.int .i64 (p1.Known),.int .i64 (p1.Until)],.clo (.func p2_g) p2_a p2_b] (.tup [.int .i64 (r.1),.bool (r.2)]):=by
 unfold zbQ at H
 refine Ctr.zam (N:=49) Tryz.func60 (by kernel_rfl) (c:=_) rfl Tryz.ntmps60 rfl (fun w0 h0 hval=>?_)
 refine W.rg env [0,2,4] [4] ?_
 refine W.rg env [0,2,4,8] [4] ?_
 refine W.rg env [0,2,4,8,9,10] [4] ?_
 refine W.seq (W.block (At.kp [0,2,4,8,9,10] [4] ?_))
 refine W.loopGo H (fun (s1:Int×Int)=>[(0,roL 6 zak p0),(2,.clo (.func p2_g) p2_a p2_b),(4,.lp 4 0),(8,.int .i64 (((p0.length:Nat):Int))),(9,.int .i64 (s1.2)),(10,.int .i64 (s1.1))]) (fun (s1:Int×Int)=>[(4,.cells [.int .i64 (p1.Source),.int .i64 (p1.Lamp),.int .i64 (p1.Night),.bool (p1.Bad),.int .i64 (p1.Known),.int .i64 (p1.Until)])]) (.cons .q (.cons .q (.cons .q (.cons .qi (.cons .qi (.cons .qi .nil)))))) (.cons .q .nil) (fun k1 s1 H K0 hK1=>?_)
 refine W.seq (W.rg env [0,2,4,8,9,10,17] [4] ?_)
 refine W.cond rfl (fun hb2=>?_) (fun hb2=>?_)
 · have H:=zag H hb2
   refine W.skip (At.zad (W.block ?_))
   obtain ⟨hc3,H⟩:=zaa H
   obtain ⟨hc4,H⟩:=zaa H
   obtain ⟨hc5,H⟩:=zaa H
   refine W.sr env [] [] [0,2,4,8,9,10,11] [4] rfl rfl rfl (.cons hc3 (.cons hc4 (.cons (by decide) (.cons hc5 .nil)))) .nil ?_
   refine W.seq ?_
   obtain ⟨hc6,H⟩:=zaa H
   obtain ⟨y7,hy8,H⟩:=zac H
   refine W.region env [] [⟨.int .i64 (y7),[],0,[]⟩] rfl rfl (by kernel_rfl) (.cons hc6 .nil) (.free (p2_h (p0.getD ((Int.fdiv (s1.2+s1.1) (2 ^ (1:Int).toNat))).toNat default) p1 _ hy8) .nil) (At.kp [0,2,4,8,9,10,11,31] [4] ?_)
   refine At.zad (W.cond rfl (fun hb9=>?_) (fun hb9=>?_))
   · have H:=zag H hb9
     obtain ⟨hc10,H⟩:=zaa H
     refine W.region env [] [] rfl rfl rfl (.cons hc10 .nil) .nil (At.kp [0,2,4,8,9,10] [4] ?_)
     refine At.inb (At.zaD (At.kp [0,2,4,8,9,10] [4] ?_))
     exact At.conv (.cons .q (.cons .q (.cons .q (.cons .qi (.cons .qi (.cons .qi .nil)))))) (.cons .q .nil) (hK1 (s1.1,((Int.fdiv (s1.2+s1.1) (2 ^ (1:Int).toNat))+1)) H)
   · have H:=zaf H hb9
     refine W.region env [] [] rfl rfl rfl .nil .nil (At.kp [0,2,4,8,9,10] [4] ?_)
     refine At.inb (At.zaD (At.kp [0,2,4,8,9,10] [4] ?_))
     exact At.conv (.cons .q (.cons .q (.cons .q (.cons .qi (.cons .qi (.cons .qi .nil)))))) (.cons .q .nil) (hK1 ((Int.fdiv (s1.2+s1.1) (2 ^ (1:Int).toNat)),s1.2) H)
 · have H:=zaf H hb2
   refine W.exit (At.xthen (At.xthen (At.xhere (At.zad (W.seq ?_)))))
   obtain ⟨hc11,H⟩:=zaa H
   obtain ⟨y12,hy13,H⟩:=zac H
   refine W.region env [] [⟨.int .i64 (y12),[],0,[]⟩] rfl rfl (by kernel_rfl) (.cons hc11 (.cons id (.cons id (.cons id (.cons id (.cons id (.cons id (.cons id (.cons id .nil))))))))) (.on (fun hW=>p2_h (p0.getD (s1.2).toNat default) p1 _ (zag hy13 hW)) .nil) (At.kp [6,7] [] ?_)
   refine At.zad (W.ret ?_)
   cases H
   exact At.ret env.ty rfl rfl nofun (.refl _) hval
theorem zhN (p0:Look) (p1:Look):Ctr Tryz.prog 61 [.agg [.int .i64 (p0.Source),.int .i64 (p0.Lamp),.int .i64 (p0.Night),.bool (p0.Bad),.int .i64 (p0.Known),.int .i64 (p0.Until)],.agg [.int .i64 (p1.Source),.int .i64 (p1.Lamp),.int .i64 (p1.Night),.bool (p1.Bad),.int .i64 (p1.Known),.int .i64 (p1.Until)]] (.int .i64 ((zcR p0 p1))):=by
 obtain ⟨r,H⟩:∃ r,zcR p0 p1=r:=⟨_,rfl⟩
 rw [H]
 unfold zcR at H
 refine Ctr.zam (N:=10) Tryz.func61 (by kernel_rfl) (c:=_) rfl Tryz.ntmps61 rfl (fun w0 h0 hval=>?_)
 refine W.rg env [2,3] [2,3] ?_
 refine W.sr env [] [⟨.int .i64 ((zbo p0.Source p1.Source)),[],0,[]⟩] [4] [] rfl rfl rfl .nil (.free (ze1 p0.Source p1.Source) .nil) ?_
 refine W.ret ?_
 cases H
 exact At.ret env.ty rfl rfl nofun (.refl _) hval
theorem zgx (p0:(List Batch)) {r:(List Batch)} (H:zdy p0=some r):Ctr Tryz.prog 63 [roL 3 zav p0] (roL 3 zav r):=by
 unfold zdy at H
 refine Ctr.zam (N:=8) Tryz.func63 (by kernel_rfl) (c:=_) rfl Tryz.ntmps63 rfl (fun w0 h0 hval=>?_)
 refine W.rg env [0] [] ?_
 refine W.seq (W.rg env [0,4] [] ?_)
 refine W.zfW rfl (fun hz=>?_) ?_
 · obtain rfl:p0=[]:=List.length_eq_zero_iff.1 hz
   obtain ⟨hc1,H⟩:=zaa H
   refine W.rg env [2] [] ?_
   refine W.ret (At.rthen ?_)
   cases H
   exact At.ret env.ty rfl rfl nofun (Sim.nil _ _) hval
 · refine W.skip (At.zad (W.seq ?_))
   obtain ⟨hc1,H⟩:=zaa H
   refine W.region env [5] [] rfl rfl rfl (.cons (⟨by first|rfl|(simp;done)|omega|(simp;omega),by have:=hc1;first|simpa using this|(unfold room at this ⊢;simp at this ⊢;omega)⟩) .nil) .nil (At.kp [2] [5] ?_)
   refine At.zaX (.cons (y:=bufL 31 3 zav (([]:List Batch)++p0)) (BSim.seg (Seg.push (Seg.lit (f:=zav) (sz:=3) ([]:List Batch) rfl rfl (fun _=>rfl)) (Seg.refl zav p0))) .nil) ?_
   refine At.zad (W.ret ?_)
   cases H
   exact At.ret env.ty rfl rfl (fun q hq=>by cases hq;exact (by first|rfl|(simp;done)|omega|(simp;omega))) (.refl _) hval
theorem zf2 (p0:(List Mantle)) {r:(List Mantle)} (H:zbe p0=some r):Ctr Tryz.prog 64 [roL 6 zaj p0] (roL 6 zaj r):=by
 unfold zbe at H
 refine Ctr.zam (N:=8) Tryz.func64 (by kernel_rfl) (c:=_) rfl Tryz.ntmps64 rfl (fun w0 h0 hval=>?_)
 refine W.rg env [0] [] ?_
 refine W.seq (W.rg env [0,4] [] ?_)
 refine W.zfW rfl (fun hz=>?_) ?_
 · obtain rfl:p0=[]:=List.length_eq_zero_iff.1 hz
   obtain ⟨hc1,H⟩:=zaa H
   refine W.rg env [2] [] ?_
   refine W.ret (At.rthen ?_)
   cases H
   exact At.ret env.ty rfl rfl nofun (Sim.nil _ _) hval
 · refine W.skip (At.zad (W.seq ?_))
   obtain ⟨hc1,H⟩:=zaa H
   refine W.region env [5] [] rfl rfl rfl (.cons (⟨by first|rfl|(simp;done)|omega|(simp;omega),by have:=hc1;first|simpa using this|(unfold room at this ⊢;simp at this ⊢;omega)⟩) .nil) .nil (At.kp [2] [5] ?_)
   refine At.zaX (.cons (y:=bufL 33 6 zaj (([]:List Mantle)++p0)) (BSim.seg (Seg.push (Seg.lit (f:=zaj) (sz:=6) ([]:List Mantle) rfl rfl (fun _=>rfl)) (Seg.refl zaj p0))) .nil) ?_
   refine At.zad (W.ret ?_)
   cases H
   exact At.ret env.ty rfl rfl (fun q hq=>by cases hq;exact (by first|rfl|(simp;done)|omega|(simp;omega))) (.refl _) hval
theorem zgV (p0:(List Burn)) {r:(List Burn)} (H:zby p0=some r):Ctr Tryz.prog 65 [roL 7 zas p0] (roL 7 zas r):=by
 unfold zby at H
 refine Ctr.zam (N:=8) Tryz.func65 (by kernel_rfl) (c:=_) rfl Tryz.ntmps65 rfl (fun w0 h0 hval=>?_)
 refine W.rg env [0] [] ?_
 refine W.seq (W.rg env [0,4] [] ?_)
 refine W.zfW rfl (fun hz=>?_) ?_
 · obtain rfl:p0=[]:=List.length_eq_zero_iff.1 hz
   obtain ⟨hc1,H⟩:=zaa H
   refine W.rg env [2] [] ?_
   refine W.ret (At.rthen ?_)
   cases H
   exact At.ret env.ty rfl rfl nofun (Sim.nil _ _) hval
 · refine W.skip (At.zad (W.seq ?_))
   obtain ⟨hc1,H⟩:=zaa H
   refine W.region env [5] [] rfl rfl rfl (.cons (⟨by first|rfl|(simp;done)|omega|(simp;omega),by have:=hc1;first|simpa using this|(unfold room at this ⊢;simp at this ⊢;omega)⟩) .nil) .nil (At.kp [2] [5] ?_)
   refine At.zaX (.cons (y:=bufL 35 7 zas (([]:List Burn)++p0)) (BSim.seg (Seg.push (Seg.lit (f:=zas) (sz:=7) ([]:List Burn) rfl rfl (fun _=>rfl)) (Seg.refl zas p0))) .nil) ?_
   refine At.zad (W.ret ?_)
   cases H
   exact At.ret env.ty rfl rfl (fun q hq=>by cases hq;exact (by first|rfl|(simp;done)|omega|(simp;omega))) (.refl _) hval
theorem zmh (p0:(List Look)) {r:(List Look)} (H:za3 p0=some r):Ctr Tryz.prog 67 [roL 6 zak p0] (roL 6 zak r):=by
 unfold za3 at H
 refine Ctr.zam (N:=8) Tryz.func67 (by kernel_rfl) (c:=_) rfl Tryz.ntmps67 rfl (fun w0 h0 hval=>?_)
 refine W.rg env [0] [] ?_
 refine W.seq (W.rg env [0,4] [] ?_)
 refine W.zfW rfl (fun hz=>?_) ?_
 · obtain rfl:p0=[]:=List.length_eq_zero_iff.1 hz
   obtain ⟨hc1,H⟩:=zaa H
   refine W.rg env [2] [] ?_
   refine W.ret (At.rthen ?_)
   cases H
   exact At.ret env.ty rfl rfl nofun (Sim.nil _ _) hval
 · refine W.skip (At.zad (W.seq ?_))
   obtain ⟨hc1,H⟩:=zaa H
   refine W.region env [5] [] rfl rfl rfl (.cons (⟨by first|rfl|(simp;done)|omega|(simp;omega),by have:=hc1;first|simpa using this|(unfold room at this ⊢;simp at this ⊢;omega)⟩) .nil) .nil (At.kp [2] [5] ?_)
   refine At.zaX (.cons (y:=bufL 37 6 zak (([]:List Look)++p0)) (BSim.seg (Seg.push (Seg.lit (f:=zak) (sz:=6) ([]:List Look) rfl rfl (fun _=>rfl)) (Seg.refl zak p0))) .nil) ?_
   refine At.zad (W.ret ?_)
   cases H
   exact At.ret env.ty rfl rfl (fun q hq=>by cases hq;exact (by first|rfl|(simp;done)|omega|(simp;omega))) (.refl _) hval
theorem zck (p0:(List Look)) {r:(List Look)} (H:za3 p0=some r):CtrO Tryz.prog 67 [roL 6 zak p0] [] (.buf 900 r.length) [(900,bufL 37 6 zak r)]:=by
 unfold za3 at H
 refine CtrO.zam (N:=8) Tryz.func67 (by kernel_rfl) (c:=_) rfl Tryz.ntmps67 rfl (fun w0 h0 ρb hval hdom=>?_)
 refine W.rg env [0] [] ?_
 refine W.seq (W.rg env [0,4] [] ?_)
 refine W.zfW rfl (fun hz=>?_) ?_
 · obtain rfl:p0=[]:=List.length_eq_zero_iff.1 hz
   obtain ⟨hc1,H⟩:=zaa H
   refine W.rg env [2] [] ?_
   refine W.ret (At.rthen ?_)
   cases H
   refine At.zeV 2 800 37 6 (e:=fun i=>zak (([]:List Look).getD i default)) rfl rfl ?_
   exact At.retK env.ty [800] 100 rfl rfl rfl rfl (.cons (.refl _) .nil) (.of_eq (by refine zd8 ?_;first|(simp [zaE];done)|omega|(simp [zaE];omega)|rfl)) hval hdom rfl
 · refine W.skip (At.zad (W.seq ?_))
   obtain ⟨hc1,H⟩:=zaa H
   refine W.region env [5] [] rfl rfl rfl (.cons (⟨by first|rfl|(simp;done)|omega|(simp;omega),by have:=hc1;first|simpa using this|(unfold room at this ⊢;simp at this ⊢;omega)⟩) .nil) .nil (At.kp [2] [5] ?_)
   refine At.zaX (.cons (y:=bufL 37 6 zak (([]:List Look)++p0)) (BSim.seg (Seg.push (Seg.lit (f:=zak) (sz:=6) ([]:List Look) rfl rfl (fun _=>rfl)) (Seg.refl zak p0))) .nil) ?_
   refine At.zad (W.ret ?_)
   cases H
   exact At.retK env.ty [5] 895 rfl rfl rfl rfl (.cons (.refl _) .nil) (.of_eq (by refine zd8 ?_;first|(simp [zaE];done)|omega|(simp [zaE];omega)|rfl)) hval hdom rfl
theorem zf1 (p0:List Look) (p1:Int) (p2:Look) {r:List Look} (H:zdw p0 p1 p2=some r):CtrO Tryz.prog 66 [.buf 700 p0.length,.int .i64 p1,.buf 701 1] [(700,bufL 37 6 zak p0),(701,bufL 37 6 zak [p2])] (.buf 900 r.length) [(701,bufL 37 6 zak [p2]),(700,.dead),(900,bufL 37 6 zak r)]:=by
 unfold zdw at H
 obtain ⟨h1,H⟩:=zaa H
 obtain ⟨h2,H⟩:=zaa H
 cases H
 exact znm (Go.Av.enters_of Tryz.func66 (by kernel_rfl) (c:=_) rfl) zlc zld (by kernel_rfl) (by kernel_rfl) (env.ty 37 _ rfl) rfl (by decide) zak p0 p1 p2 h1 h2
theorem zjh (fuel:Nat) (p0:Wear) (p1:Look) {r:(Wear×Int)} (H:zfc fuel p0 p1=some r):Ctr Tryz.prog 14 [.agg (zar p0),.agg [.int .i64 (p1.Source),.int .i64 (p1.Lamp),.int .i64 (p1.Night),.bool (p1.Bad),.int .i64 (p1.Known),.int .i64 (p1.Until)]] (.tup [.agg (zar r.1),.int .i64 (r.2)]):=by
 unfold zfc at H
 refine Ctr.zam (N:=56) Tryz.func14 (by kernel_rfl) (c:=_) rfl Tryz.ntmps14 rfl (fun w0 h0 hval=>?_)
 refine W.rg env [2,3,4] [2,3,4] ?_
 refine W.seq (W.seq ?_)
 obtain ⟨y1,hy2,H⟩:=zac H
 refine W.region env [] [⟨.int .i64 (y1),[],0,[]⟩] rfl rfl rfl .nil (.free (zdW p0 hy2) .nil) (At.kp [2,3,4,6] [2,3,4] ?_)
 refine At.zad (W.rg env [2,3,4,6,13] [2,3,4] ?_)
 refine W.cond rfl (fun hb3=>?_) (fun hb3=>?_)
 · have H:=zag H hb3
   refine W.rg env [4,5] [4] ?_
   refine W.ret (At.rthen ?_)
   cases H
   exact At.ret env.ty rfl rfl nofun (Sim.tupL (.cons (Sim.aggL (.cons (Sim.nil _ _) (.cons (Sim.nil _ _) (.cons (Sim.nil _ _) (.cons (Sim.nil _ _) .nil))))) (.cons (.refl _) .nil))) hval
 · have H:=zaf H hb3
   refine W.skip (At.zad (W.seq ?_))
   obtain ⟨y4,hy5,H⟩:=zac H
   refine W.region env [] [⟨.tup [.int .i64 (y4.1),.bool (y4.2)],[],0,[]⟩] rfl rfl rfl .nil (.free (zd4 fuel p0.Looks p1 (fun x0 x1=>some (zcR x0 x1)) 61 [] [] (fun x0 x1 r h=>by cases h;exact zhN x0 x1) hy5) .nil) (At.kp [2,3,4,7,8] [2,3,4] ?_)
   refine At.zad (W.seq (W.block (W.sr env [] [⟨.int .i64 ((za2 p1)),[],0,[]⟩] [2,3,4,7,23] [2,3,4] rfl rfl rfl (.cons (fun h=>by rw [h];rfl) .nil) (.free (zeG p1) .nil) ?_)))
   refine W.cond rfl (fun hb6=>?_) (fun hb6=>?_)
   · have H:=zag H hb6
     refine W.rg env [4,5] [4] ?_
     refine W.ret (At.rinb ?_)
     refine At.rthen ?_
     cases H
     exact At.ret env.ty rfl rfl nofun (Sim.tupL (.cons (Sim.aggL (.cons (Sim.nil _ _) (.cons (Sim.nil _ _) (.cons (Sim.nil _ _) (.cons (Sim.nil _ _) .nil))))) (.cons (.refl _) .nil))) hval
   · have H:=zaf H hb6
     refine W.rg env [2,3,4,7,31] [2,3,4] ?_
     refine W.cond rfl (fun hb7=>?_) (fun hb7=>?_)
     · have H:=zag H hb7
       refine W.rg env [4,5] [4] ?_
       refine W.ret (At.rinb ?_)
       refine At.rthen ?_
       cases H
       exact At.ret env.ty rfl rfl nofun (Sim.tupL (.cons (Sim.aggL (.cons (Sim.nil _ _) (.cons (Sim.nil _ _) (.cons (Sim.nil _ _) (.cons (Sim.nil _ _) .nil))))) (.cons (.refl _) .nil))) hval
     · have H:=zaf H hb7
       refine W.skip (At.inb (At.zad (W.seq ?_)))
       obtain ⟨y8,hy9,H⟩:=zac H
       obtain ⟨y10,hy11,H⟩:=zac H
       obtain ⟨y12,hy13,H⟩:=zac H
       refine W.region env [] [⟨roL 3 zav y8,[],0,[]⟩,⟨roL 6 zaj y10,[],0,[]⟩,⟨roL 7 zas y12,[],0,[]⟩] rfl rfl (by kernel_rfl) .nil (.free (zgx p0.Batches hy9) (.free (zf2 p0.Mantles hy11) (.free (zgV p0.Burns hy13) .nil))) (At.kp [2,3,4,7,9] [2,3,4,9] ?_)
       refine At.zad (W.seq ?_)
       obtain ⟨y14,hy15,H⟩:=zac H
       obtain ⟨y16,hy17,H⟩:=zac H
       refine W.region env [52] [⟨.buf 900 y14.length,[(900,bufL 37 6 zak y14)],50000,[]⟩,⟨.buf 54900 y16.length,[(52,bufL 37 6 zak ([p1]:List Look)),(50900,.dead),(54900,bufL 37 6 zak y16)],0,[50900,52]⟩] rfl rfl (by kernel_rfl) .nil (.free ((Ctr.ofO (zck p0.Looks hy15))) (.free (CtrO.sim (CtrO.ren (zf1 y14 y4.1 p1 hy17) [(700,50900),(701,52),(900,54900)]) (.cons .qc (.cons (.refl _) (.cons .qc .nil))) (.cons (.refl _) (.cons (BSim.seg (Seg.lit (f:=zak) (sz:=6) ([p1]:List Look) rfl rfl (fun _=>rfl))) .nil))) .nil)) (At.kp [4,9] [4,9,54900] ?_)
       refine At.zad (W.rg env [4,5] [4,54900] ?_)
       refine W.ret ?_
       cases H
       exact At.ret env.ty rfl rfl (fun q hq=>by cases hq;exact (by first|rfl|(simp;done)|omega|(simp;omega))) (.refl _) hval
theorem zfj (p0:(List Look)) (p1:Look→Option Bool) (p1_g:Nat) (p1_a p1_b:List AV) (p1_h:∀ x0 r,p1 x0=some r→Ctr Tryz.prog p1_g (p1_a++([.agg [.int .i64 (x0.Source),.int .i64 (x0.Lamp),.int .i64 (x0.Night),.bool (x0.Bad),.int .i64 (x0.Known),.int .i64 (x0.Until)]]++p1_b)) (.bool (r))) {r:Int} (H:zcO p0 p1=some r):Ctr Tryz.prog 160 [roL 6 zak p0,.clo (.func p1_g) p1_a p1_b] (.int .i64 (r)):=by
 unfold zcO at H
 refine Ctr.zam (N:=19) Tryz.func160 (by kernel_rfl) (c:=_) rfl Tryz.ntmps160 rfl (fun w0 h0 hval=>?_)
 refine W.rg env [0,1] [] ?_
 refine W.seq (W.rg env [0,1,7,8] [] ?_)
 refine W.block (At.kp [0,1,7,8] [] ?_)
 refine W.len (t:=0) rfl (fun (hn1:p0.length≤maxLen)=>?_)
 refine W.zau H (fun i1 (s1:Unit)=>[(0,roL 6 zak p0),(1,.clo (.func p1_g) p1_a p1_b),(7,.int .i64 (((p0.length:Nat):Int))),(8,.int .i64 ((i1:Int)))]) (fun i1 (s1:Unit)=>[]) (.cons .q (.cons .q (.cons .qi (.cons .qi .nil)))) .nil (fun k1 i1 s1 hle1 H1 H2 K0 hK1=>?_)
 refine W.rg env [0,1,7,8,9] [] ?_
 refine W.seq (W.cond rfl (fun hb2=>?_) (fun hb2=>?_))
 · have hi1:i1<p0.length:=by have:=of_decide_eq_true hb2;omega
   have H:=H1 hi1
   refine W.skip (At.zad (W.seq (W.block (W.rg env [0,1,5,7,8] [] ?_))))
   refine W.seq ?_
   obtain ⟨y3,hy4,H⟩:=zac H
   refine W.region env [] [⟨.bool (y3),[],0,[]⟩] rfl rfl rfl (.cons (⟨by omega,by omega⟩:0≤(i1:Int)∧(i1:Int)<((p0.length:Nat):Int)) .nil) (.free (p1_h (p0.getD i1 default) _ hy4) .nil) (At.kp [0,1,5,7,8,16] [] ?_)
   refine At.zad (W.cond rfl (fun hb5=>?_) (fun hb5=>?_))
   · have H:=zag H hb5
     refine W.rg env [4] [] ?_
     refine W.ret (At.rinb ?_)
     refine At.rthen ?_
     refine At.rthen ?_
     refine At.rinb ?_
     refine At.rthen ?_
     cases H
     exact At.ret env.ty rfl rfl nofun (.refl _) hval
   · have H:=zaf H hb5
     refine W.skip (At.inb (At.zad (W.region env [] [] rfl rfl rfl (.cons (by unfold inI;have:=hn1;(try unfold maxLen at this);omega) .nil) .nil (At.kp [0,1,7,8] [] ?_))))
     refine At.zaD (At.kp [0,1,7,8] [] ?_)
     exact At.conv (.cons .q (.cons .q (.cons .qi (.cons .qi .nil)))) .nil (hK1 hi1 () H)
 · have H:=H2 (by have:=of_decide_eq_false hb2;omega)
   refine W.exit (At.xthen (At.xthen (At.xhere (At.zad (W.rg env [4] [] ?_)))))
   refine W.ret ?_
   cases H
   exact At.ret env.ty rfl rfl nofun (.refl _) hval
theorem zdh (fuel:Nat) (p0:(List Look)) (p1:Look→Option Bool) (p1_g:Nat) (p1_a p1_b:List AV) (p1_h:∀ x0 r,p1 x0=some r→Ctr Tryz.prog p1_g (p1_a++([.agg [.int .i64 (x0.Source),.int .i64 (x0.Lamp),.int .i64 (x0.Night),.bool (x0.Bad),.int .i64 (x0.Known),.int .i64 (x0.Until)]]++p1_b)) (.bool (r))) {r:(List Look)} (H:zbw fuel p0 p1=some r):CtrO Tryz.prog 118 [.buf 700 (p0).length,.clo (.func p1_g) p1_a p1_b] [(700,bufL 37 6 zak p0)] (.buf 900 r.length) [(900,bufL 37 6 zak r)]:=by
 unfold zbw at H
 refine CtrO.zam (N:=42) Tryz.func118 (by kernel_rfl) (c:=_) rfl Tryz.ntmps118 rfl (fun w0 h0 ρb hval hdom=>?_)
 refine W.rg env [0,1] [700] ?_
 refine W.seq ?_
 obtain ⟨y1,hy2,H⟩:=zac H
 refine W.region env [] [⟨.int .i64 (y1),[],0,[]⟩] rfl rfl rfl (.cons (by first|rfl|(simp;done)|omega|(simp;omega)) .nil) (.free (zfj p0 p1 p1_g p1_a p1_b p1_h hy2) .nil) (At.kp [0,1,5] [700] ?_)
 refine At.zad (W.seq (W.rg env [0,1,5,12] [700] ?_))
 refine W.cond rfl (fun hb3=>?_) (fun hb3=>?_)
 · have H:=zag H hb3
   refine W.rg env [4] [700] ?_
   refine W.ret (At.rthen ?_)
   cases H
   exact At.retK env.ty [700] 200 rfl rfl rfl rfl (.cons (.refl _) .nil) (.of_eq (by refine zd8 ?_;first|(simp [zaE];done)|omega|(simp [zaE];omega)|rfl)) hval hdom rfl
 · have H:=zaf H hb3
   refine W.skip (At.zad (W.seq ?_))
   obtain ⟨hc4,H⟩:=zaa H
   refine W.sr env [] [] [0,1,5,6] [700] rfl rfl rfl (.cons hc4 .nil) .nil ?_
   refine W.block (At.kp [0,1,5,6] [700] ?_)
   refine W.loopGo H (fun (s5:Int×Int×(List Look))=>[(0,.buf 700 (s5.2.2).length),(1,.clo (.func p1_g) p1_a p1_b),(5,.int .i64 (s5.1)),(6,.int .i64 (s5.2.1))]) (fun (s5:Int×Int×(List Look))=>[(700,bufL 37 6 zak s5.2.2)]) (.cons .qb (.cons .q (.cons .qi (.cons .qi .nil)))) (.cons .q .nil) (fun k5 s5 H K0 hK5=>?_)
   refine W.seq (W.sr env [] [] [0,1,5,6,19] [700] rfl rfl rfl (.cons (by first|rfl|(simp;done)|omega|(simp;omega)) .nil) .nil ?_)
   refine W.cond rfl (fun hb6=>?_) (fun hb6=>?_)
   · have H:=zag H hb6
     refine W.skip (At.zad (W.seq (W.block ?_)))
     obtain ⟨hc7,H⟩:=zaa H
     refine W.sr env [] [] [0,1,5,6,7] [7,700] rfl rfl rfl (.cons (⟨by first|rfl|(simp;done)|omega|(simp;omega),hc7⟩) (.cons (⟨by first|rfl|(simp;done)|omega|(simp;omega),(by have:=hc7;first|omega|(simp only [List.length_set];omega)|(simp only [Int.toNat_natCast] at *;omega)|(simp at this ⊢;omega))⟩) .nil)) .nil ?_
     refine W.seq ?_
     obtain ⟨y8,hy9,H⟩:=zac H
     refine W.region env [] [⟨.bool (y8),[],0,[]⟩] rfl rfl rfl .nil (.free (p1_h (s5.2.2.getD (s5.2.1).toNat default) _ hy9) .nil) (At.kp [0,1,5,6,7,29] [7,700] ?_)
     refine At.zad (W.cond rfl (fun hb10=>?_) (fun hb10=>?_))
     · have H:=zag H hb10
       refine W.seq ?_
       obtain ⟨hc11,H⟩:=zaa H
       refine W.region env [] [] rfl rfl rfl (.cons (⟨by first|rfl|(simp;done)|omega|(simp;omega),hc11⟩) (.cons (⟨by first|rfl|(simp;done)|omega|(simp;omega),(by have:=hc11;first|omega|(simp only [List.length_set];omega)|(simp only [Int.toNat_natCast] at *;omega)|(simp at this ⊢;omega))⟩) .nil)) .nil (At.kp [0,1,5,6] [700] ?_)
       refine At.zaX (.cons (y:=bufL 37 6 zak (s5.2.2.set (s5.1).toNat (s5.2.2.getD (s5.2.1).toNat default))) (BSim.seg (Seg.set (Seg.refl zak _) (s5.2.2.getD (s5.2.1).toNat default) rfl)) .nil) ?_
       refine At.zad ?_
       obtain ⟨hc12,H⟩:=zaa H
       refine W.region env [] [] rfl rfl rfl (.cons hc12 .nil) .nil (At.kp [0,1,5,6] [700] ?_)
       refine At.inb (At.zad ?_)
       obtain ⟨hc13,H⟩:=zaa H
       refine W.region env [] [] rfl rfl rfl (.cons hc13 .nil) .nil (At.kp [0,1,5,6] [700] ?_)
       refine At.zaD (At.kp [0,1,5,6] [700] ?_)
       exact At.conv (.cons .qb (.cons .q (.cons .qi (.cons .qi .nil)))) (.cons .q .nil) (hK5 ((s5.1+1),(s5.2.1+1),(s5.2.2.set (s5.1).toNat (s5.2.2.getD (s5.2.1).toNat default))) H)
     · have H:=zaf H hb10
       refine W.skip (At.inb (At.zad ?_))
       obtain ⟨hc14,H⟩:=zaa H
       refine W.region env [] [] rfl rfl rfl (.cons hc14 .nil) .nil (At.kp [0,1,5,6] [700] ?_)
       refine At.zaD (At.kp [0,1,5,6] [700] ?_)
       exact At.conv (.cons .qb (.cons .q (.cons .qi (.cons .qi .nil)))) (.cons .q .nil) (hK5 (s5.1,(s5.2.1+1),s5.2.2) H)
   · have H:=zaf H hb6
     refine W.exit (At.xthen (At.xthen (At.xhere (At.zad (W.seq ?_)))))
     obtain ⟨hc15,H⟩:=zaa H
     refine W.region env [] [] rfl rfl rfl (.cons (⟨by first|rfl|(simp;done)|omega|(simp;omega),hc15⟩) (.cons (⟨by first|rfl|(simp;done)|omega|(simp;omega),(by have:=hc15;omega),(by have:=hc15;omega)⟩) .nil)) .nil (At.kp [0,5] [700] ?_)
     refine At.zaX (.cons (y:=bufL 37 6 zak (zaE s5.2.2 ((s5.1).toNat) (s5.2.2.length - (s5.1).toNat) (fun _=>(⟨0,0,0,false,0,0⟩:Look)))) (BSim.seg (Seg.cleared (a:=(s5.1).toNat) (b:=s5.2.2.length) (Seg.refl zak _) (⟨0,0,0,false,0,0⟩:Look) rfl (by have:=hc15;omega))) .nil) ?_
     refine At.zad ?_
     obtain ⟨hc16,H⟩:=zaa H
     refine W.sr env [] [] [4] [700] rfl rfl rfl (.cons (⟨by first|rfl|(simp [zbE];done)|(simp [zbE];omega),hc16⟩) .nil) .nil ?_
     refine W.ret ?_
     cases H
     refine At.shrink 4 700 850 (K:=[]) (ts:=[]) rfl rfl (by first|rfl|(simp;done)|omega|(simp;omega)) (by have:=hc16;omega) rfl rfl rfl rfl ?_
     refine At.zaX (.cons (y:=bufL 37 6 zak ((zaE s5.2.2 ((s5.1).toNat) (s5.2.2.length - (s5.1).toNat) (fun _=>(⟨0,0,0,false,0,0⟩:Look))).take ((s5.1).toNat))) (BSim.seg (Seg.first (Seg.refl zak _) (by have:=hc16;omega))) .nil) ?_
     exact At.retK env.ty [850] 50 rfl rfl rfl rfl (.cons (.refl _) .nil) (.of_eq (by refine zd8 ?_;first|(simp [zaE];done)|omega|(simp [zaE];omega)|rfl)) hval hdom rfl
theorem zhk (p0:Look) (c0:Int) (c1:Wear) {r:Bool} (H:zdk p0 c0 c1=some r):Ctr Tryz.prog 157 [.agg [.int .i64 (p0.Source),.int .i64 (p0.Lamp),.int .i64 (p0.Night),.bool (p0.Bad),.int .i64 (p0.Known),.int .i64 (p0.Until)],.rp [.int .i64 (c0)],.rp (zar c1)] (.bool (r)):=by
 unfold zdk at H
 refine Ctr.zam (N:=22) Tryz.func157 (by kernel_rfl) (c:=_) rfl Tryz.ntmps157 rfl (fun w0 h0 hval=>?_)
 refine W.rg env [1,2,3] [3] ?_
 refine W.seq ?_
 obtain ⟨y1,hy2,H⟩:=zac H
 refine W.region env [] [⟨.bool ((zax p0.Known p0.Until c0)),[],0,[]⟩,⟨.int .i64 (y1),[],0,[]⟩] rfl rfl rfl (.cons id (.cons id (.cons id (.cons id (.cons id (.cons id (.cons id (.cons (fun h=>by rw [h];rfl) .nil)))))))) (.free (zcZ p0.Known p0.Until c0) (.on (fun hW=>zcY c1 p0.Lamp p0.Night c0 (zag hy2 hW)) .nil)) (At.kp [4] [] ?_)
 refine At.zad (W.ret ?_)
 cases H
 exact At.ret env.ty rfl rfl nofun (.refl _) hval
theorem zh7 (fuel:Nat) (p0:Wear) (p1:Int) {r:(List Look)} (H:zeM fuel p0 p1=some r):Ctr Tryz.prog 108 [.agg (zar p0),.int .i64 (p1)] (roL 6 zak r):=by
 unfold zeM at H
 refine Ctr.zam (N:=10) Tryz.func108 (by kernel_rfl) (c:=_) rfl Tryz.ntmps108 rfl (fun w0 h0 hval=>?_)
 refine W.rg env [2,3] [2,3] ?_
 refine W.seq (At.zkm 2 (K:=[3]) (ts:=[2,3]) rfl rfl rfl rfl rfl (fun _ h=>h) ?_)
 refine At.zkm 3 (K:=[]) (ts:=[2,3]) rfl rfl rfl rfl rfl (fun _ h=>h) ?_
 obtain ⟨y1,hy2,H⟩:=zac H
 obtain ⟨y3,hy4,H⟩:=zac H
 refine W.region env [] [⟨.buf 900 y1.length,[(900,bufL 37 6 zak y1)],8000,[]⟩,⟨.buf 900 y3.length,[(8900,.dead),(900,bufL 37 6 zak y3)],10000,[]⟩] rfl rfl (by kernel_rfl) .nil (.free ((Ctr.ofO (zck p0.Looks hy2))) (.free (CtrO.sim (CtrO.at (zdh fuel y1 (fun x0=>zdk x0 p1 p0) 157 [] ([.rp [.int .i64 (p1)],.rp (zar p0)]) (fun x0 r h=>zhk x0 p1 p0 h) hy4) rfl 8900) (.cons .qc (.cons (Sim.zop rfl) .nil)) (.cons (.refl _) .nil)) .nil)) (At.kp [4] [10900] ?_)
 refine At.zad (W.ret ?_)
 cases H
 exact At.ret env.ty rfl rfl (fun q hq=>by cases hq;exact (by first|rfl|(simp;done)|omega|(simp;omega))) (.refl _) hval
theorem zfX (p0:(List Look)) (p1:Int) (p2:Int) {r:(List Look)} (H:zdx p0 p1 p2=some r):CtrO Tryz.prog 158 [.buf 700 (p0).length,.int .i64 (p1),.int .i64 (p2)] [(700,bufL 37 6 zak p0)] (.buf 900 r.length) [(900,bufL 37 6 zak r)]:=by
 unfold zdx at H
 refine CtrO.zam (N:=33) Tryz.func158 (by kernel_rfl) (c:=_) rfl Tryz.ntmps158 rfl (fun w0 h0 ρb hval hdom=>?_)
 refine W.rg env [0,1,2] [700] ?_
 obtain ⟨hc1,H⟩:=zaa H
 refine W.sr env [] [] [0,1,2] [700] rfl rfl rfl (.cons (by first|rfl|(simp;done)|omega|(simp;omega)) (.cons (⟨by first|rfl|(simp;done)|omega|(simp;omega),hc1⟩) .nil)) .nil ?_
 refine W.seq (W.rg env [0,1,2,16] [700] ?_)
 refine W.cond rfl (fun hb2=>?_) (fun hb2=>?_)
 · have H:=zag H hb2
   refine W.rg env [6] [700] ?_
   refine W.ret (At.rthen ?_)
   cases H
   exact At.retK env.ty [700] 200 rfl rfl rfl rfl (.cons (.refl _) .nil) (.of_eq (by refine zd8 ?_;first|(simp [zaE];done)|omega|(simp [zaE];omega)|rfl)) hval hdom rfl
 · have H:=zaf H hb2
   refine W.skip (At.zad (W.sr env [] [] [0,1,2,7] [700] rfl rfl rfl (.cons (by first|rfl|(simp;done)|omega|(simp;omega)) .nil) .nil ?_))
   refine W.seq ?_
   obtain ⟨hc3,H⟩:=zaa H
   obtain ⟨hc4,H⟩:=zaa H
   obtain ⟨hc5,H⟩:=zaa H
   refine W.region env [] [] rfl rfl (by first|rfl|kernel_rfl) (.cons (⟨by first|rfl|(simp;done)|omega|(simp;omega),hc3⟩) (.cons (⟨by first|rfl|(simp;done)|omega|(simp;omega),hc4⟩) (.cons (⟨rfl,rfl,by omega,by omega,by omega⟩) .nil))) .nil (At.kp [0,7] [26] ?_)
   refine At.zaX (.cons (y:=zqf 37 6 p0.length zak (p0.take ((p1).toNat)++p0.drop ((p2).toNat))) (BSim.kseg (Seg.moved (f:=zak) (l:=p0) ((p1).toNat) ((p2).toNat) (by omega) (by omega))) .nil) ?_
   refine At.zad (W.seq ?_)
   obtain ⟨hc6,H⟩:=zaa H
   refine W.region env [] [] rfl rfl rfl (.cons (by first|rfl|(simp;done)|omega|(simp;omega)) (.cons (⟨by first|rfl|(simp;done)|omega|(simp;omega),hc6⟩) (.cons (⟨by first|rfl|(simp;done)|omega|(simp;omega),by first|rfl|(simp;done)|omega|(simp;omega),by first|omega|(simp;omega)⟩) .nil))) .nil (At.kp [0] [26] ?_)
   refine At.zaX (.cons (y:=zqf 37 6 p0.length zak (p0.take ((p1).toNat)++p0.drop ((p2).toNat))) (BSim.kseg (Seg.refl zak _)) .nil) ?_
   refine At.zad (W.rg env [6] [26] ?_)
   refine W.ret ?_
   cases H
   exact At.retK env.ty [26] 874 rfl rfl rfl rfl (.cons (.bufk (.refl _)) .nil) (.of_eq (by refine zd8 ?_;first|(simp [zaE];done)|omega|(simp [zaE];omega)|rfl)) hval hdom rfl
theorem zkG (p0:(List Look)) (p1:Int) {r:(List Look)} (H:zgP p0 p1=some r):Ctr Tryz.prog 109 [roL 6 zak p0,.int .i64 (p1)] (roL 6 zak r):=by
 unfold zgP at H
 refine Ctr.zam (N:=11) Tryz.func109 (by kernel_rfl) (c:=_) rfl Tryz.ntmps109 rfl (fun w0 h0 hval=>?_)
 refine W.rg env [0,1] [] ?_
 refine W.seq ?_
 obtain ⟨y1,hy2,H⟩:=zac H
 obtain ⟨hc3,H⟩:=zaa H
 obtain ⟨y4,hy5,H⟩:=zac H
 refine W.region env [] [⟨.buf 900 y1.length,[(900,bufL 37 6 zak y1)],7000,[]⟩,⟨.buf 900 y4.length,[(7900,.dead),(900,bufL 37 6 zak y4)],11000,[]⟩] rfl rfl (by kernel_rfl) (.cons hc3 .nil) (.free ((Ctr.ofO (zck p0 hy2))) (.free (CtrO.sim (CtrO.at (zfX y1 p1 (p1+1) hy5) rfl 7900) (.cons .qc (.cons (.refl _) (.cons (.refl _) .nil))) (.cons (.refl _) .nil)) .nil)) (At.kp [4] [11900] ?_)
 refine At.zad (W.ret ?_)
 cases H
 exact At.ret env.ty rfl rfl (fun q hq=>by cases hq;exact (by first|rfl|(simp;done)|omega|(simp;omega))) (.refl _) hval
theorem zjv (fuel:Nat) (p0:Wear) (p1:Int) {r:((List Int)×Int)} (H:zfO fuel p0 p1=some r):Ctr Tryz.prog 42 [.agg (zar p0),.int .i64 (p1)] (.tup [roL 1 zab r.1,.int .i64 (r.2)]):=by
 unfold zfO at H
 refine Ctr.zam (N:=58) Tryz.func42 (by kernel_rfl) (c:=_) rfl Tryz.ntmps42 rfl (fun w0 h0 hval=>?_)
 refine W.rg env [1,2] [2] ?_
 refine W.seq (W.seq ?_)
 obtain ⟨y1,hy2,H⟩:=zac H
 refine W.region env [] [⟨.int .i64 (y1),[],0,[]⟩] rfl rfl rfl .nil (.free (Ctr.sim (.cons (.refl _) (.cons (Sim.lit (f:=zab) ([p1]:List Int) rfl rfl (fun _=>rfl)) .nil)) (zdG p0 ([p1]:List Int) hy2)) .nil) (At.kp [1,2,6] [2] ?_)
 refine At.zad (W.rg env [1,2,6,18] [2] ?_)
 refine W.cond rfl (fun hb3=>?_) (fun hb3=>?_)
 · have H:=zag H hb3
   refine W.rg env [4,5] [] ?_
   refine W.ret (At.rthen ?_)
   cases H
   exact At.ret env.ty rfl rfl nofun (Sim.tupL (.cons (Sim.nil _ _) (.cons (.refl _) .nil))) hval
 · have H:=zaf H hb3
   refine W.skip (At.zad (W.seq ?_))
   obtain ⟨y4,hy5,H⟩:=zac H
   refine W.region env [] [⟨roL 6 zak y4,[],0,[]⟩] rfl rfl rfl .nil (.free (zh7 fuel p0 p1 hy5) .nil) (At.kp [1,2,7] [2] ?_)
   refine At.zad (W.seq (W.seq ?_))
   obtain ⟨y6,hy7,H⟩:=zac H
   obtain ⟨y8,hy9,H⟩:=zac H
   refine W.region env [] [⟨.agg (zaI y6),[],0,[]⟩,⟨.bool (y8),[],0,[]⟩] rfl rfl rfl .nil (.free (zdH fuel p0 y4 p1 hy7) (.free (zbh y6 hy9) .nil)) (At.kp [1,2,7,27] [2] ?_)
   refine At.zad (W.cond rfl (fun hb10=>?_) (fun hb10=>?_))
   · have H:=zag H hb10
     refine W.rg env [4,5] [] ?_
     refine W.ret (At.rthen ?_)
     cases H
     exact At.ret env.ty rfl rfl nofun (Sim.tupL (.cons (Sim.nil _ _) (.cons (.refl _) .nil))) hval
   · have H:=zaf H hb10
     refine W.skip (At.zad (W.seq ?_))
     obtain ⟨hc11,H⟩:=zaa H
     refine W.sr env [] [] [1,2,7,8] [2] rfl rfl rfl (.cons hc11 .nil) .nil ?_
     refine W.block (At.kp [1,2,7,8] [2] ?_)
     refine W.loopGo H (fun (s12:Int×(List Look))=>[(1,.int .i64 (p1)),(2,.lp 2 0),(7,roL 6 zak s12.2),(8,.int .i64 (s12.1))]) (fun (s12:Int×(List Look))=>[(2,.cells (zar p0))]) (.cons .qi (.cons .q (.cons .q (.cons .qi .nil)))) (.cons .q .nil) (fun k12 s12 H K0 hK12=>?_)
     refine W.seq (W.rg env [1,2,7,8,32] [2] ?_)
     refine W.cond rfl (fun hb13=>?_) (fun hb13=>?_)
     · have H:=zag H hb13
       refine W.skip (At.zad (W.seq (W.block (W.seq ?_))))
       obtain ⟨y14,hy15,H⟩:=zac H
       refine W.region env [] [⟨roL 6 zak y14,[],0,[]⟩] rfl rfl rfl .nil (.free (zkG s12.2 s12.1 hy15) .nil) (At.kp [1,2,7,8,9] [2] ?_)
       refine At.zad (W.seq ?_)
       obtain ⟨y16,hy17,H⟩:=zac H
       obtain ⟨y18,hy19,H⟩:=zac H
       refine W.region env [] [⟨.agg (zaI y16),[],0,[]⟩,⟨.bool (y18),[],0,[]⟩] rfl rfl rfl .nil (.free (zdH fuel p0 y14 p1 hy17) (.free (zbh y16 hy19) .nil)) (At.kp [1,2,7,8,9,43] [2] ?_)
       refine At.zad (W.cond rfl (fun hb20=>?_) (fun hb20=>?_))
       · have H:=zag H hb20
         refine W.region env [] [] rfl rfl rfl .nil .nil (At.kp [1,2,7,8] [2] ?_)
         refine At.inb (At.zad ?_)
         obtain ⟨hc21,H⟩:=zaa H
         refine W.region env [] [] rfl rfl rfl (.cons hc21 .nil) .nil (At.kp [1,2,7,8] [2] ?_)
         refine At.zaD (At.kp [1,2,7,8] [2] ?_)
         exact At.conv (.cons .qi (.cons .q (.cons .q (.cons .qi .nil)))) (.cons .q .nil) (hK12 ((s12.1 - 1),y14) H)
       · have H:=zaf H hb20
         refine W.skip (At.inb (At.zad ?_))
         obtain ⟨hc22,H⟩:=zaa H
         refine W.region env [] [] rfl rfl rfl (.cons hc22 .nil) .nil (At.kp [1,2,7,8] [2] ?_)
         refine At.zaD (At.kp [1,2,7,8] [2] ?_)
         exact At.conv (.cons .qi (.cons .q (.cons .q (.cons .qi .nil)))) (.cons .q .nil) (hK12 ((s12.1 - 1),s12.2) H)
     · have H:=zaf H hb13
       refine W.exit (At.xthen (At.xthen (At.xhere (At.zad (W.rg env [7,10] [] ?_)))))
       refine W.seq (W.rg env [10,45,46,47] [] ?_)
       refine W.block (At.zeV 10 510 3 1 (e:=fun i=>zab (([]:List Int).getD i default)) rfl rfl ?_)
       refine At.kp [10,45,46,47] [510] ?_
       refine W.len (t:=45) rfl (fun (hn23:s12.2.length≤maxLen)=>?_)
       refine W.zau H (fun i23 (s23:(List Int))=>[(10,.buf 510 (s23).length),(45,roL 6 zak s12.2),(46,.int .i64 (((s12.2.length:Nat):Int))),(47,.int .i64 ((i23:Int)))]) (fun i23 (s23:(List Int))=>[(510,bufL 3 1 zab s23)]) (.cons .qb (.cons .q (.cons .qi (.cons .qi .nil)))) (.cons .q .nil) (fun k23 i23 s23 hle23 H1 H2 K0 hK23=>?_)
       refine W.rg env [10,45,46,47,48] [510] ?_
       refine W.seq (W.cond rfl (fun hb24=>?_) (fun hb24=>?_))
       · have hi23:i23<s12.2.length:=by have:=of_decide_eq_true hb24;omega
         have H:=H1 hi23
         refine W.skip (At.zad (W.seq (W.block (W.sr env [] [] [10,12,45,46,47] [12,510] rfl rfl rfl (.cons (⟨by omega,by omega⟩:0≤(i23:Int)∧(i23:Int)<((s12.2.length:Nat):Int)) .nil) .nil ?_))))
         obtain ⟨hc25,H⟩:=zaa H
         refine W.region env [] [] rfl rfl rfl (.cons (⟨by first|rfl|(simp;done)|omega|(simp;omega),by have:=hc25;first|simpa using this|(unfold room at this ⊢;simp at this ⊢;omega)⟩) .nil) .nil (At.kp [10,45,46,47] [510] ?_)
         refine At.zaX (.cons (y:=bufL 3 1 zab (s23++([(s12.2.getD i23 default).Source]:List Int))) (BSim.seg (Seg.push (Seg.refl zab _) (Seg.lit (f:=zab) (sz:=1) ([(s12.2.getD i23 default).Source]:List Int) rfl rfl (fun _=>rfl)))) .nil) ?_
         refine At.inb (At.zad (W.region env [] [] rfl rfl rfl (.cons (by unfold inI;have:=hn23;(try unfold maxLen at this);omega) .nil) .nil (At.kp [10,45,46,47] [510] ?_)))
         refine At.zaD (At.kp [10,45,46,47] [510] ?_)
         exact At.conv (.cons .qb (.cons .q (.cons .qi (.cons .qi .nil)))) (.cons .q .nil) (hK23 hi23 (s23++([(s12.2.getD i23 default).Source]:List Int)) H)
       · have H:=H2 (by have:=of_decide_eq_false hb24;omega)
         refine W.exit (At.xthen (At.xthen (At.xhere (At.zad (W.rg env [4,5] [510] ?_)))))
         refine W.ret ?_
         cases H
         exact At.ret env.ty rfl rfl (fun q hq=>by cases hq;exact (by first|rfl|(simp;done)|omega|(simp;omega))) (.refl _) hval
theorem zef (fuel:Nat) (p0:(List Int)) (p1:(List Int)) {r:Bool} (H:zcN fuel p0 p1=some r):Ctr Tryz.prog 44 [roL 1 zab p0,roL 1 zab p1] (.bool (r)):=by
 unfold zcN at H
 refine Ctr.zam (N:=31) Tryz.func44 (by kernel_rfl) (c:=_) rfl Tryz.ntmps44 rfl (fun w0 h0 hval=>?_)
 refine W.rg env [0,1] [] ?_
 refine W.rg env [0,1,5] [] ?_
 refine W.seq (W.rg env [0,1,5,6] [] ?_)
 refine W.block (At.kp [0,1,5,6] [] ?_)
 refine W.loopGo H (fun (s1:Bool×Int)=>[(0,roL 1 zab p0),(1,roL 1 zab p1),(5,.bool (s1.1)),(6,.int .i64 (s1.2))]) (fun (s1:Bool×Int)=>[]) (.cons .q (.cons .q (.cons .q (.cons .qi .nil)))) .nil (fun k1 s1 H K0 hK1=>?_)
 refine W.seq (W.sr env [] [] [0,1,5,6,18] [] rfl rfl rfl (.cons id .nil) .nil ?_)
 refine W.cond rfl (fun hb2=>?_) (fun hb2=>?_)
 · have H:=zag H hb2
   refine W.skip (At.zad (W.seq (W.block ?_)))
   obtain ⟨hc3,H⟩:=zaa H
   obtain ⟨hc4,H⟩:=zaa H
   refine W.region env [] [] rfl rfl (by first|rfl|kernel_rfl) (.cons hc3 (.cons hc4 .nil)) .nil (At.kp [0,1,5,6] [] ?_)
   refine At.inb (At.zad ?_)
   obtain ⟨hc5,H⟩:=zaa H
   refine W.region env [] [] rfl rfl rfl (.cons hc5 .nil) .nil (At.kp [0,1,5,6] [] ?_)
   refine At.zaD (At.kp [0,1,5,6] [] ?_)
   exact At.conv (.cons .q (.cons .q (.cons .q (.cons .qi .nil)))) .nil (hK1 ((decide ((p0.getD (s1.2).toNat default)=(p1.getD (s1.2).toNat default))),(s1.2+1)) H)
 · have H:=zaf H hb2
   refine W.exit (At.xthen (At.xthen (At.xhere (At.zad (W.rg env [4] [] ?_)))))
   refine W.ret ?_
   cases H
   exact At.ret env.ty rfl rfl nofun (.refl _) hval
theorem zfx (fuel:Nat) (post:Bool→Option Unit) {r:Unit} (H:zc9 fuel post=some r):CtrN Tryz.prog 13 [] (fun (y:Bool)=>.bool (y)) (fun y=>post y=some r):=by
 unfold zc9 at H
 refine CtrN.zam (N:=148) Tryz.func13 (by kernel_rfl) (c:=_) rfl Tryz.ntmps13 rfl (fun w0 h0 hval=>?_)
 refine W.rg env [] [] ?_
 refine W.sr env [] [⟨.agg [roL 3 zav ((zan).Batches),roL 6 zaj ((zan).Mantles),roL 7 zas ((zan).Burns),roL 6 zak ((zan).Looks)],[],0,[]⟩] [1] [1] rfl rfl rfl .nil (.free (zfo) .nil) ?_
 refine W.seq (W.region env [] [] rfl rfl rfl .nil .nil (At.kp [1,2] [1] ?_))
 refine At.slot (t:=2) (v:=roL 1 zab ([10,11,12]:List Int)) (Sim.lit (f:=zab) ([10,11,12]:List Int) rfl rfl (fun _=>rfl)) ?_
 refine At.zad (W.seq ?_)
 obtain ⟨y1,hy2,H⟩:=zac H
 refine W.region env [] [⟨.tup [.agg [.int .i64 (y1.1.Lo),.int .i64 (y1.1.Hi)],.int .i64 (y1.2)],[],0,[]⟩] rfl rfl rfl .nil (.free (zlx fuel (zan) 10 2 5 hy2) .nil) (At.kp [1,2,3,4] [1,3] ?_)
 refine At.zad (W.seq ?_)
 obtain ⟨y3,hy4,H⟩:=zac H
 refine W.region env [] [⟨.tup [.agg [.int .i64 (y3.1.Lo),.int .i64 (y3.1.Hi)],.int .i64 (y3.2)],[],0,[]⟩] rfl rfl rfl .nil (.free (zkH fuel (zan) 1 5 hy4) .nil) (At.kp [1,2,3,4,5,6] [1,3,5] ?_)
 refine At.zad (W.seq ?_)
 obtain ⟨y5,hy6,H⟩:=zac H
 refine W.region env [] [⟨.tup [.int .i64 (y5.1),.int .i64 (y5.2)],[],0,[]⟩] rfl rfl rfl .nil (.free (zcf fuel (zan) 10 2 4 hy6) .nil) (At.kp [1,2,3,4,5,6,7,8] [1,3,5] ?_)
 refine At.zad (W.seq ?_)
 obtain ⟨y7,hy8,H⟩:=zac H
 refine W.region env [] [⟨.tup [.int .i64 (y7.1),.int .i64 (y7.2)],[],0,[]⟩] rfl rfl rfl .nil (.free (zcf fuel (zan) 10 1 5 hy8) .nil) (At.kp [1,2,3,4,5,6,7,8,9,10] [1,3,5] ?_)
 refine At.zad (W.seq ?_)
 obtain ⟨y9,hy10,H⟩:=zac H
 refine W.region env [] [⟨.tup [.agg [.int .i64 (y9.1.Lo),.int .i64 (y9.1.Hi)],.int .i64 (y9.2)],[],0,[]⟩] rfl rfl rfl .nil (.free (zh2 fuel (zan) ([10,11,12]:List Int) 2 4 hy10) .nil) (At.kp [1,2,3,4,5,6,7,8,9,10,11,12] [1,3,5,11] ?_)
 refine At.zad (W.seq ?_)
 obtain ⟨y11,hy12,H⟩:=zac H
 refine W.region env [] [⟨.tup [.agg [.int .i64 (y11.1.Lo),.int .i64 (y11.1.Hi)],.int .i64 (y11.2)],[],0,[]⟩] rfl rfl rfl .nil (.free (zh2 fuel (zan) ([10,11,12]:List Int) 2 5 hy12) .nil) (At.kp [1,2,3,4,5,6,7,8,9,10,11,12,13,14] [1,3,5,11,13] ?_)
 refine At.zad (W.seq (W.znQ env [] 2 [] [] rfl rfl rfl rfl rfl rfl (fun _=>rfl) rfl .nil .nil (fun _=>.nil) (fun _=>.nil) (fun _=>rfl) (zhM fuel (zan) ([10,11,12]:List Int) 2 4 0 false _ H) (fun y13 H=>?_)))
 refine At.kp [1,3,4,5,6,7,8,9,10,11,12,13,14,15,16] [1,3,5,11,13] ?_
 refine At.zad (W.seq ?_)
 obtain ⟨y14,hy15,H⟩:=zac H
 refine W.region env [] [⟨.tup [.agg (zar y14.1),.int .i64 (y14.2)],[],0,[]⟩] rfl rfl rfl .nil (.free (zjh fuel (zan) (⟨24,10,3,false,0,0⟩:Look) hy15) .nil) (At.kp [3,4,5,6,7,8,9,10,11,12,13,14,15,16,17,18] [3,5,11,13,17] ?_)
 refine At.zad (W.seq ?_)
 obtain ⟨y16,hy17,H⟩:=zac H
 refine W.region env [] [⟨.tup [roL 1 zab y16.1,.int .i64 (y16.2)],[],0,[]⟩] rfl rfl rfl .nil (.free (zjv fuel y14.1 5 hy17) .nil) (At.kp [3,4,5,6,7,8,9,10,11,12,13,14,15,16,18,19,20] [3,5,11,13] ?_)
 refine At.zad (W.sr env [] [] [3,5,7,9,11,13,15,19,21] [3,5,11,13] rfl rfl rfl (.cons id (.cons id (.cons id (.cons id (.cons id (.cons id (.cons id (.cons id (.cons id (.cons id (.cons id (.cons id (.cons id (.cons id (.cons id (.cons id .nil)))))))))))))))) .nil ?_)
 refine W.sr env [] [] [7,9,15,19,21,22] [] rfl rfl rfl (.cons id (.cons id (.cons id (.cons id (.cons id (.cons id (.cons id (.cons id (.cons id .nil))))))))) .nil ?_
 refine W.seq ?_
 obtain ⟨y18,hy19,H⟩:=zac H
 obtain ⟨y20,hy21,H⟩:=zac H
 refine W.region env [] [⟨.bool (y18),[],0,[]⟩,⟨.bool (y20),[],0,[]⟩] rfl rfl rfl (.cons id (.cons id (.cons id (.cons id (.cons id (.cons id (.cons id (.cons id (.cons id (.cons id (.cons id .nil))))))))))) (.on (fun hW=>Ctr.sim (.cons (.refl _) (.cons (Sim.lit (f:=zab) ([10]:List Int) rfl rfl (fun _=>rfl)) .nil)) (zef fuel y13.1 ([10]:List Int) (zag hy19 hW))) (.on (fun hW=>Ctr.sim (.cons (.refl _) (.cons (Sim.lit (f:=zab) ([22,24]:List Int) rfl rfl (fun _=>rfl)) .nil)) (zef fuel y16.1 ([22,24]:List Int) (zag hy21 hW))) .nil)) (At.kp [0] [] ?_)
 exact At.zad (W.ret (At.retN env.ty ((((((((((((((decide (y1.2=0)) && (decide (y3.2=0))) && (decide (y5.2=0))) && (decide (y7.2=0))) && (decide (y9.2=0))) && (decide (y11.2=0))) && (decide (y13.2=0))) && (decide (y14.2=0))) && (decide (y16.2=0))) && (((((decide (y1.1.Lo=1300)) && (decide (y1.1.Hi=1600))) && ((decide (y3.1.Lo=1000)) && (decide (y3.1.Hi=1599)))) && ((decide (y9.1.Lo=0)) && (decide (y9.1.Hi=2)))) && ((decide (y11.1.Lo=1)) && (decide (y11.1.Hi=2))))) && (decide (y5.1=2))) && (decide (y7.1=0))) && y18) && y20) H rfl rfl nofun (.refl _) hval))
theorem zgA (fuel:Nat) {r:Bool} (H:zdD fuel=some r):Ctr Tryz.prog 13 [] (.bool r):=by
 obtain ⟨u,H2,hr⟩:=znc H
 subst hr
 exact CtrN.one (zfx fuel _ H2) znV
theorem zaw (p0:Int) (p1:Int) {r:Int} (H:zat p0 p1=some r):Ctr Tryz.prog 27 [.int .i64 (p0),.int .i64 (p1)] (.int .i64 (r)):=by
 unfold zat at H
 refine Ctr.zam (N:=12) Tryz.func27 (by kernel_rfl) (c:=_) rfl Tryz.ntmps27 rfl (fun w0 h0 hval=>?_)
 refine W.rg env [0,1] [] ?_
 obtain ⟨hc1,H⟩:=zaa H
 obtain ⟨hc2,H⟩:=zaa H
 obtain ⟨hc3,H⟩:=zaa H
 refine W.sr env [] [] [4] [] rfl rfl rfl (.cons hc1 (.cons hc2 (.cons hc3 .nil))) .nil ?_
 refine W.ret ?_
 cases H
 exact At.ret env.ty rfl rfl nofun (.refl _) hval
theorem zee (p0:(List Int)) (p1:Int) {r:Int} (H:zbO p0 p1=some r):Ctr Tryz.prog 88 [roL 1 zab p0,.int .i64 (p1)] (.int .i64 (r)):=by
 unfold zbO at H
 refine Ctr.zam (N:=15) Tryz.func88 (by kernel_rfl) (c:=_) rfl Tryz.ntmps88 rfl (fun w0 h0 hval=>?_)
 refine W.rg env [0,1] [] ?_
 refine W.seq (W.rg env [0,1,7] [] ?_)
 refine W.cond rfl (fun hb1=>?_) (fun hb1=>?_)
 · have H:=zag H hb1
   refine W.rg env [4] [] ?_
   refine W.ret (At.rthen ?_)
   cases H
   exact At.ret env.ty rfl rfl nofun (.refl _) hval
 · have H:=zaf H hb1
   refine W.skip (At.zad ?_)
   obtain ⟨hc2,H⟩:=zaa H
   obtain ⟨hc3,H⟩:=zaa H
   refine W.sr env [] [] [4] [] rfl rfl rfl (.cons hc2 (.cons hc3 .nil)) .nil ?_
   refine W.ret ?_
   cases H
   exact At.ret env.ty rfl rfl nofun (.refl _) hval
theorem zgz (fuel:Nat) (p0:gasolierref06_Raw) (p1:(List Int)) {r:(Wear×Lives)} (H:zcc fuel p0 p1=some r):Ctr Tryz.prog 28 [.agg [roL 2 zcT p0.Batches,roL 4 za7 p0.Mantles,roL 5 zcS p0.Burns,roL 4 za7 p0.Looks],roL 1 zab p1] (.tup [.agg (zar r.1),.agg [roL 1 zab r.2.Lives,roL 1 zab r.2.Minutes]]):=by
 unfold zcc at H
 refine Ctr.zam (N:=234) Tryz.func28 (by kernel_rfl) (c:=_) rfl Tryz.ntmps28 rfl (fun w0 h0 hval=>?_)
 refine W.rg env [1,2,4,5] [2,4,5] ?_
 refine W.rg env [1,2,4,5,6] [2,4,5,6] ?_
 refine W.rg env [1,2,4,5,6,7] [2,4,5,6,7] ?_
 refine W.seq (W.rg env [1,2,4,5,6,7,8] [2,4,5,6,7] ?_)
 refine W.block (At.zbM 6 0 900 31 3 (e:=fun i=>zav (([]:List Batch).getD i default)) rfl rfl rfl ?_)
 refine At.zbM 7 0 950 3 1 (e:=fun i=>zab (([]:List Int).getD i default)) rfl rfl rfl ?_
 refine At.kp [1,2,4,5,6,7,8] [2,4,5,6,7,900,950] ?_
 refine W.loopGo H (fun (s1:Int×(List Batch)×(List Int))=>[(1,roL 1 zab p1),(2,.lp 2 0),(4,.lp 4 0),(5,.lp 5 0),(6,.lp 6 0),(7,.lp 7 0),(8,.int .i64 (s1.1))]) (fun (s1:Int×(List Batch)×(List Int))=>[(2,.cells [roL 2 zcT p0.Batches,roL 4 za7 p0.Mantles,roL 5 zcS p0.Burns,roL 4 za7 p0.Looks]),(4,.cells [.nilS,.nilS,.nilS,.nilS]),(5,.cells [.nilS,.nilS]),(6,.cells [.buf 900 (s1.2.1).length,.nilS,.nilS,.nilS]),(7,.cells [.buf 950 (s1.2.2).length,.nilS]),(900,bufL 31 3 zav s1.2.1),(950,bufL 3 1 zab s1.2.2)]) (.cons .q (.cons .q (.cons .q (.cons .q (.cons .q (.cons .q (.cons .qi .nil))))))) (.cons .q (.cons (BSim.cells (.cons (by first|exact Sim.refl _|exact Sim.nil _ _) (.cons (by first|exact Sim.refl _|exact Sim.nil _ _) (.cons (by first|exact Sim.refl _|exact Sim.nil _ _) (.cons (by first|exact Sim.refl _|exact Sim.nil _ _) .nil))))) (.cons (BSim.cells (.cons (by first|exact Sim.refl _|exact Sim.nil _ _) (.cons (by first|exact Sim.refl _|exact Sim.nil _ _) .nil))) (.cons (BSim.cells (.cons .qc (.cons (by first|exact Sim.refl _|exact Sim.nil _ _) (.cons (by first|exact Sim.refl _|exact Sim.nil _ _) (.cons (by first|exact Sim.refl _|exact Sim.nil _ _) .nil))))) (.cons (BSim.cells (.cons .qc (.cons (by first|exact Sim.refl _|exact Sim.nil _ _) .nil))) (.cons .q (.cons .q .nil))))))) (fun k1 s1 H K0 hK1=>?_)
 refine W.seq (W.sr env [] [] [1,2,4,5,6,7,8,32] [2,4,5,6,7,900,950] rfl rfl rfl (.cons id (.cons id (.cons id (.cons (fun h=>by rw [h];rfl) .nil)))) .nil ?_)
 refine W.cond rfl (fun hb2=>?_) (fun hb2=>?_)
 · have H:=zag H hb2
   refine W.skip (At.zad (W.seq (W.block (W.rg env [1,2,4,5,6,7,8,9] [2,4,5,6,7,9,900,950] ?_))))
   refine W.seq (W.rg env [1,2,4,5,6,7,8,9,40] [2,4,5,6,7,9,900,950] ?_)
   refine W.zkd H (fun (s3:(Arr2 Int))=>[(1,roL 1 zab p1),(2,.lp 2 0),(4,.lp 4 0),(5,.lp 5 0),(6,.lp 6 0),(7,.lp 7 0),(8,.int .i64 (s1.1)),(9,.lp 9 0)]) (fun (s3:(Arr2 Int))=>[(2,.cells [roL 2 zcT p0.Batches,roL 4 za7 p0.Mantles,roL 5 zcS p0.Burns,roL 4 za7 p0.Looks]),(4,.cells [.nilS,.nilS,.nilS,.nilS]),(5,.cells [.nilS,.nilS]),(6,.cells [.buf 900 (s1.2.1).length,.nilS,.nilS,.nilS]),(7,.cells [.buf 950 (s1.2.2).length,.nilS]),(9,.cells [.int .i64 (s3.x0),.int .i64 (s3.x1)]),(900,bufL 31 3 zav s1.2.1),(950,bufL 3 1 zab s1.2.2)]) (fun s3 H=>?_) (fun k3 H hK3=>?_)
   · refine W.seq ?_
     obtain ⟨y4,hy5,H⟩:=zac H
     refine W.region env [] [⟨.int .i64 (y4),[],0,[]⟩] rfl rfl rfl (.cons (by decide) .nil) (.free (zaw s3.x0 120 hy5) .nil) (At.kp [1,2,4,5,6,7,8,9,10] [2,4,5,6,7,9,900,950] ?_)
     refine At.zad (W.seq ?_)
     obtain ⟨hc6,H⟩:=zaa H
     obtain ⟨y7,hy8,H⟩:=zac H
     obtain ⟨hc9,H⟩:=zaa H
     refine W.region env [] [⟨.int .i64 (y7),[],0,[]⟩] rfl rfl rfl (.cons hc6 (.cons (by decide) (.cons hc9 .nil))) (.free (zaw s3.x1 90 hy8) .nil) (At.kp [1,2,4,5,6,7,8,11] [2,4,5,6,7,11,900,950] ?_)
     refine At.zad (W.seq ?_)
     obtain ⟨hc10,H⟩:=zaa H
     refine W.region env [] [] rfl rfl rfl (.cons (⟨by first|rfl|(simp;done)|omega|(simp;omega),by have:=hc10;first|simpa using this|(unfold room at this ⊢;simp at this ⊢;omega)⟩) .nil) .nil (At.kp [1,2,4,5,6,7,8,11] [2,4,5,6,7,11,900,950] ?_)
     refine At.zaX (.cons (.refl _) (.cons (.refl _) (.cons (.refl _) (.cons (.refl _) (.cons (.refl _) (.cons (.refl _) (.cons (y:=bufL 31 3 zav (s1.2.1++([(⟨(s1.1+1),(⟨y4,(y4+y7)⟩:Range)⟩:Batch)]:List Batch))) (BSim.seg (Seg.push (Seg.refl zav _) (Seg.lit (f:=zav) (sz:=3) ([(⟨(s1.1+1),(⟨y4,(y4+y7)⟩:Range)⟩:Batch)]:List Batch) rfl rfl (fun _=>rfl)))) (.cons (.refl _) .nil)))))))) ?_
     refine At.zad ?_
     obtain ⟨y11,hy12,H⟩:=zac H
     obtain ⟨hc13,H⟩:=zaa H
     obtain ⟨hc14,H⟩:=zaa H
     obtain ⟨y15,hy16,H⟩:=zac H
     obtain ⟨hc17,H⟩:=zaa H
     obtain ⟨hc18,H⟩:=zaa H
     refine W.region env [] [⟨.int .i64 (y11),[],0,[]⟩,⟨.int .i64 (y15),[],0,[]⟩] rfl rfl (by kernel_rfl) (.cons hc13 (.cons hc14 (.cons hc17 (.cons (⟨by first|rfl|(simp;done)|omega|(simp;omega),by have:=hc18;first|simpa using this|(unfold room at this ⊢;simp at this ⊢;omega)⟩) .nil)))) (.free (zee p1 s1.1 hy12) (.free (zaw y11 (((y4+y7) - y4)+1) hy16) .nil)) (At.kp [1,2,4,5,6,7,8] [2,4,5,6,7,900,950] ?_)
     refine At.zaX (.cons (.refl _) (.cons (.refl _) (.cons (.refl _) (.cons (.refl _) (.cons (.refl _) (.cons (.refl _) (.cons (y:=bufL 3 1 zab (s1.2.2++([(y4+y15)]:List Int))) (BSim.seg (Seg.push (Seg.refl zab _) (Seg.lit (f:=zab) (sz:=1) ([(y4+y15)]:List Int) rfl rfl (fun _=>rfl)))) .nil))))))) ?_
     refine At.inb (At.zad ?_)
     obtain ⟨hc19,H⟩:=zaa H
     refine W.region env [] [] rfl rfl rfl (.cons hc19 .nil) .nil (At.kp [1,2,4,5,6,7,8] [2,4,5,6,7,900,950] ?_)
     refine At.zaD (At.kp [1,2,4,5,6,7,8] [2,4,5,6,7,900,950] ?_)
     exact At.conv (.cons .q (.cons .q (.cons .q (.cons .q (.cons .q (.cons .q (.cons .qi .nil))))))) (.cons .q (.cons (BSim.cells (.cons (by first|exact Sim.refl _|exact Sim.nil _ _) (.cons (by first|exact Sim.refl _|exact Sim.nil _ _) (.cons (by first|exact Sim.refl _|exact Sim.nil _ _) (.cons (by first|exact Sim.refl _|exact Sim.nil _ _) .nil))))) (.cons (BSim.cells (.cons (by first|exact Sim.refl _|exact Sim.nil _ _) (.cons (by first|exact Sim.refl _|exact Sim.nil _ _) .nil))) (.cons (BSim.cells (.cons .qc (.cons (by first|exact Sim.refl _|exact Sim.nil _ _) (.cons (by first|exact Sim.refl _|exact Sim.nil _ _) (.cons (by first|exact Sim.refl _|exact Sim.nil _ _) .nil))))) (.cons (BSim.cells (.cons .qc (.cons (by first|exact Sim.refl _|exact Sim.nil _ _) .nil))) (.cons .q (.cons .q .nil))))))) (hK1 ((s1.1+1),(s1.2.1++([(⟨(s1.1+1),(⟨y4,(y4+y7)⟩:Range)⟩:Batch)]:List Batch)),(s1.2.2++([(y4+y15)]:List Int))) H)
   · refine W.cond rfl (fun hb20=>?_) (fun hb20=>?_)
     · have H:=zag H hb20
       obtain ⟨hc21,H⟩:=zaa H
       refine W.region env [] [] rfl rfl rfl (.cons hc21 .nil) .nil (At.kp [1,2,4,5,6,7,8,9] [2,4,5,6,7,9,900,950] ?_)
       refine At.zaD (At.kp [1,2,4,5,6,7,8,9] [2,4,5,6,7,9,900,950] ?_)
       exact At.conv (.cons .q (.cons .q (.cons .q (.cons .q (.cons .q (.cons .q (.cons .qi (.cons .q .nil)))))))) (.cons .q (.cons (BSim.cells (.cons (by first|exact Sim.refl _|exact Sim.nil _ _) (.cons (by first|exact Sim.refl _|exact Sim.nil _ _) (.cons (by first|exact Sim.refl _|exact Sim.nil _ _) (.cons (by first|exact Sim.refl _|exact Sim.nil _ _) .nil))))) (.cons (BSim.cells (.cons (by first|exact Sim.refl _|exact Sim.nil _ _) (.cons (by first|exact Sim.refl _|exact Sim.nil _ _) .nil))) (.cons (BSim.cells (.cons .qc (.cons (by first|exact Sim.refl _|exact Sim.nil _ _) (.cons (by first|exact Sim.refl _|exact Sim.nil _ _) (.cons (by first|exact Sim.refl _|exact Sim.nil _ _) .nil))))) (.cons (BSim.cells (.cons .qc (.cons (by first|exact Sim.refl _|exact Sim.nil _ _) .nil))) (.cons .q (.cons .q (.cons .q .nil)))))))) (hK3 (p0.Batches.getD (s1.1).toNat default) H)
     · have H:=zaf H hb20
       refine W.skip (At.zaD (At.kp [1,2,4,5,6,7,8,9] [2,4,5,6,7,9,900,950] ?_))
       exact At.conv (.cons .q (.cons .q (.cons .q (.cons .q (.cons .q (.cons .q (.cons .qi (.cons .q .nil)))))))) (.cons .q (.cons (BSim.cells (.cons (by first|exact Sim.refl _|exact Sim.nil _ _) (.cons (by first|exact Sim.refl _|exact Sim.nil _ _) (.cons (by first|exact Sim.refl _|exact Sim.nil _ _) (.cons (by first|exact Sim.refl _|exact Sim.nil _ _) .nil))))) (.cons (BSim.cells (.cons (by first|exact Sim.refl _|exact Sim.nil _ _) (.cons (by first|exact Sim.refl _|exact Sim.nil _ _) .nil))) (.cons (BSim.cells (.cons .qc (.cons (by first|exact Sim.refl _|exact Sim.nil _ _) (.cons (by first|exact Sim.refl _|exact Sim.nil _ _) (.cons (by first|exact Sim.refl _|exact Sim.nil _ _) .nil))))) (.cons (BSim.cells (.cons .qc (.cons (by first|exact Sim.refl _|exact Sim.nil _ _) .nil))) (.cons .q (.cons .q (.cons .q .nil)))))))) (hK3 (⟨40,60⟩:(Arr2 Int)) H)
 · have H:=zaf H hb2
   refine W.exit (At.xthen (At.xthen (At.xhere (At.zad (W.seq (W.rg env [1,2,4,5,6,7,12] [2,4,5,6,7,900,950] ?_))))))
   refine W.block (At.zbM 6 1 901 33 6 (e:=fun i=>zaj (([]:List Mantle).getD i default)) rfl rfl rfl ?_)
   refine At.kp [1,2,4,5,6,7,12] [2,4,5,6,7,900,901,950] ?_
   refine W.loopGo H (fun (s22:Int×(List Mantle))=>[(1,roL 1 zab p1),(2,.lp 2 0),(4,.lp 4 0),(5,.lp 5 0),(6,.lp 6 0),(7,.lp 7 0),(12,.int .i64 (s22.1))]) (fun (s22:Int×(List Mantle))=>[(2,.cells [roL 2 zcT p0.Batches,roL 4 za7 p0.Mantles,roL 5 zcS p0.Burns,roL 4 za7 p0.Looks]),(4,.cells [.nilS,.nilS,.nilS,.nilS]),(5,.cells [.nilS,.nilS]),(6,.cells [.buf 900 (s1.2.1).length,.buf 901 (s22.2).length,.nilS,.nilS]),(7,.cells [.buf 950 (s1.2.2).length,.nilS]),(900,bufL 31 3 zav s1.2.1),(901,bufL 33 6 zaj s22.2),(950,bufL 3 1 zab s1.2.2)]) (.cons .q (.cons .q (.cons .q (.cons .q (.cons .q (.cons .q (.cons .qi .nil))))))) (.cons .q (.cons (BSim.cells (.cons (by first|exact Sim.refl _|exact Sim.nil _ _) (.cons (by first|exact Sim.refl _|exact Sim.nil _ _) (.cons (by first|exact Sim.refl _|exact Sim.nil _ _) (.cons (by first|exact Sim.refl _|exact Sim.nil _ _) .nil))))) (.cons (BSim.cells (.cons (by first|exact Sim.refl _|exact Sim.nil _ _) (.cons (by first|exact Sim.refl _|exact Sim.nil _ _) .nil))) (.cons (BSim.cells (.cons .qc (.cons .qc (.cons (by first|exact Sim.refl _|exact Sim.nil _ _) (.cons (by first|exact Sim.refl _|exact Sim.nil _ _) .nil))))) (.cons (BSim.cells (.cons .qc (.cons (by first|exact Sim.refl _|exact Sim.nil _ _) .nil))) (.cons .q (.cons .q (.cons .q .nil)))))))) (fun k22 s22 H K0 hK22=>?_)
   refine W.seq (W.sr env [] [] [1,2,4,5,6,7,12,94] [2,4,5,6,7,900,901,950] rfl rfl rfl (.cons id (.cons id .nil)) .nil ?_)
   refine W.cond rfl (fun hb23=>?_) (fun hb23=>?_)
   · have H:=zag H hb23
     refine W.skip (At.zad (W.seq (W.block ?_)))
     obtain ⟨hc24,H⟩:=zaa H
     refine W.sr env [] [] [1,2,4,5,6,7,12,13] [2,4,5,6,7,13,900,901,950] rfl rfl rfl (.cons hc24 .nil) .nil ?_
     obtain ⟨hc25,H⟩:=zaa H
     obtain ⟨y26,hy27,H⟩:=zac H
     obtain ⟨hc28,H⟩:=zaa H
     obtain ⟨y29,hy30,H⟩:=zac H
     obtain ⟨hc31,H⟩:=zaa H
     obtain ⟨y32,hy33,H⟩:=zac H
     obtain ⟨y34,hy35,H⟩:=zac H
     obtain ⟨hc36,H⟩:=zaa H
     refine W.region env [] [⟨.int .i64 (y26),[],0,[]⟩,⟨.int .i64 (y29),[],0,[]⟩,⟨.int .i64 (y32),[],0,[]⟩,⟨.int .i64 (y34),[],0,[]⟩] rfl rfl (by kernel_rfl) (.cons hc25 (.cons (by decide) (.cons hc28 (.cons (by decide) (.cons (by first|rfl|(simp;done)|omega|(simp;omega)) (.cons hc31 (.cons (by decide) (.cons (by decide) (.cons (⟨by first|rfl|(simp;done)|omega|(simp;omega),by have:=hc36;first|simpa using this|(unfold room at this ⊢;simp at this ⊢;omega)⟩) .nil))))))))) (.free (zaw ((p0.Mantles.getD (s22.1).toNat default).x0) 5 hy27) (.free (zaw ((p0.Mantles.getD (s22.1).toNat default).x1) ((s1.2.1.length:Nat):Int) hy30) (.free (zaw ((p0.Mantles.getD (s22.1).toNat default).x2) 6 hy33) (.free (zaw ((p0.Mantles.getD (s22.1).toNat default).x3) 8 hy35) .nil)))) (At.kp [1,2,4,5,6,7,12] [2,4,5,6,7,900,901,950] ?_)
     refine At.zaX (.cons (.refl _) (.cons (.refl _) (.cons (.refl _) (.cons (.refl _) (.cons (.refl _) (.cons (.refl _) (.cons (y:=bufL 33 6 zaj (s22.2++([(⟨(1+s22.1),(1+y26),(1+y29),y32,y34,0⟩:Mantle)]:List Mantle))) (BSim.seg (Seg.push (Seg.refl zaj _) (Seg.lit (f:=zaj) (sz:=6) ([(⟨(1+s22.1),(1+y26),(1+y29),y32,y34,0⟩:Mantle)]:List Mantle) rfl rfl (fun _=>rfl)))) (.cons (.refl _) .nil)))))))) ?_
     refine At.inb (At.zad ?_)
     obtain ⟨hc37,H⟩:=zaa H
     refine W.region env [] [] rfl rfl rfl (.cons hc37 .nil) .nil (At.kp [1,2,4,5,6,7,12] [2,4,5,6,7,900,901,950] ?_)
     refine At.zaD (At.kp [1,2,4,5,6,7,12] [2,4,5,6,7,900,901,950] ?_)
     exact At.conv (.cons .q (.cons .q (.cons .q (.cons .q (.cons .q (.cons .q (.cons .qi .nil))))))) (.cons .q (.cons (BSim.cells (.cons (by first|exact Sim.refl _|exact Sim.nil _ _) (.cons (by first|exact Sim.refl _|exact Sim.nil _ _) (.cons (by first|exact Sim.refl _|exact Sim.nil _ _) (.cons (by first|exact Sim.refl _|exact Sim.nil _ _) .nil))))) (.cons (BSim.cells (.cons (by first|exact Sim.refl _|exact Sim.nil _ _) (.cons (by first|exact Sim.refl _|exact Sim.nil _ _) .nil))) (.cons (BSim.cells (.cons .qc (.cons .qc (.cons (by first|exact Sim.refl _|exact Sim.nil _ _) (.cons (by first|exact Sim.refl _|exact Sim.nil _ _) .nil))))) (.cons (BSim.cells (.cons .qc (.cons (by first|exact Sim.refl _|exact Sim.nil _ _) .nil))) (.cons .q (.cons .q (.cons .q .nil)))))))) (hK22 ((s22.1+1),(s22.2++([(⟨(1+s22.1),(1+y26),(1+y29),y32,y34,0⟩:Mantle)]:List Mantle))) H)
   · have H:=zaf H hb23
     refine W.exit (At.xthen (At.xthen (At.xhere (At.zad (W.seq (W.rg env [1,2,4,5,6,7,14] [2,4,5,6,7,900,901,950] ?_))))))
     refine W.block (At.zbM 6 2 902 35 7 (e:=fun i=>zas (([]:List Burn).getD i default)) rfl rfl rfl ?_)
     refine At.zbM 7 1 951 3 1 (e:=fun i=>zab (([]:List Int).getD i default)) rfl rfl rfl ?_
     refine At.kp [1,2,4,5,6,7,14] [2,4,5,6,7,900,901,902,950,951] ?_
     refine W.loopGo H (fun (s38:Int×(List Burn)×(List Int))=>[(1,roL 1 zab p1),(2,.lp 2 0),(4,.lp 4 0),(5,.lp 5 0),(6,.lp 6 0),(7,.lp 7 0),(14,.int .i64 (s38.1))]) (fun (s38:Int×(List Burn)×(List Int))=>[(2,.cells [roL 2 zcT p0.Batches,roL 4 za7 p0.Mantles,roL 5 zcS p0.Burns,roL 4 za7 p0.Looks]),(4,.cells [.nilS,.nilS,.nilS,.nilS]),(5,.cells [.nilS,.nilS]),(6,.cells [.buf 900 (s1.2.1).length,.buf 901 (s22.2).length,.buf 902 (s38.2.1).length,.nilS]),(7,.cells [.buf 950 (s1.2.2).length,.buf 951 (s38.2.2).length]),(900,bufL 31 3 zav s1.2.1),(901,bufL 33 6 zaj s22.2),(902,bufL 35 7 zas s38.2.1),(950,bufL 3 1 zab s1.2.2),(951,bufL 3 1 zab s38.2.2)]) (.cons .q (.cons .q (.cons .q (.cons .q (.cons .q (.cons .q (.cons .qi .nil))))))) (.cons .q (.cons (BSim.cells (.cons (by first|exact Sim.refl _|exact Sim.nil _ _) (.cons (by first|exact Sim.refl _|exact Sim.nil _ _) (.cons (by first|exact Sim.refl _|exact Sim.nil _ _) (.cons (by first|exact Sim.refl _|exact Sim.nil _ _) .nil))))) (.cons (BSim.cells (.cons (by first|exact Sim.refl _|exact Sim.nil _ _) (.cons (by first|exact Sim.refl _|exact Sim.nil _ _) .nil))) (.cons (BSim.cells (.cons .qc (.cons .qc (.cons .qc (.cons (by first|exact Sim.refl _|exact Sim.nil _ _) .nil))))) (.cons (BSim.cells (.cons .qc (.cons .qc .nil))) (.cons .q (.cons .q (.cons .q (.cons .q (.cons .q .nil)))))))))) (fun k38 s38 H K0 hK38=>?_)
     refine W.seq (W.sr env [] [] [1,2,4,5,6,7,14,135] [2,4,5,6,7,900,901,902,950,951] rfl rfl rfl (.cons id (.cons id .nil)) .nil ?_)
     refine W.cond rfl (fun hb39=>?_) (fun hb39=>?_)
     · have H:=zag H hb39
       refine W.skip (At.zad (W.seq (W.block ?_)))
       obtain ⟨hc40,H⟩:=zaa H
       refine W.sr env [] [] [1,2,4,5,6,7,14,15] [2,4,5,6,7,15,900,901,902,950,951] rfl rfl rfl (.cons hc40 .nil) .nil ?_
       refine W.seq ?_
       obtain ⟨y41,hy42,H⟩:=zac H
       refine W.region env [] [⟨.int .i64 (y41),[],0,[]⟩] rfl rfl rfl (.cons (by decide) .nil) (.free (zaw ((p0.Burns.getD (s38.1).toNat default).x2) 40 hy42) .nil) (At.kp [1,2,4,5,6,7,14,15,16] [2,4,5,6,7,15,900,901,902,950,951] ?_)
       refine At.zad (W.seq ?_)
       obtain ⟨hc43,H⟩:=zaa H
       obtain ⟨y44,hy45,H⟩:=zac H
       obtain ⟨hc46,H⟩:=zaa H
       obtain ⟨y47,hy48,H⟩:=zac H
       obtain ⟨y49,hy50,H⟩:=zac H
       obtain ⟨hc51,H⟩:=zaa H
       obtain ⟨y52,hy53,H⟩:=zac H
       refine W.region env [] [⟨.int .i64 (y44),[],0,[]⟩,⟨.int .i64 (y47),[],0,[]⟩,⟨.int .i64 (y49),[],0,[]⟩,⟨.int .i64 (y52),[],0,[]⟩] rfl rfl (by kernel_rfl) (.cons hc43 (.cons (by decide) (.cons hc46 (.cons (by decide) (.cons (by decide) (.cons hc51 (.cons (by decide) .nil))))))) (.free (zaw ((p0.Burns.getD (s38.1).toNat default).x0) 5 hy45) (.free (zaw ((p0.Burns.getD (s38.1).toNat default).x1) 10 hy48) (.free (zaw ((p0.Burns.getD (s38.1).toNat default).x3) 30 hy50) (.free (zaw ((p0.Burns.getD (s38.1).toNat default).x4) 12 hy53) .nil)))) (At.kp [1,2,4,5,6,7,14,17] [2,4,5,6,7,17,900,901,902,950,951] ?_)
       refine At.zad (W.seq ?_)
       obtain ⟨hc54,H⟩:=zaa H
       refine W.region env [] [] rfl rfl rfl (.cons (⟨by first|rfl|(simp;done)|omega|(simp;omega),by have:=hc54;first|simpa using this|(unfold room at this ⊢;simp at this ⊢;omega)⟩) .nil) .nil (At.kp [1,2,4,5,6,7,14,17] [2,4,5,6,7,17,900,901,902,950,951] ?_)
       refine At.zaX (.cons (.refl _) (.cons (.refl _) (.cons (.refl _) (.cons (.refl _) (.cons (.refl _) (.cons (.refl _) (.cons (.refl _) (.cons (.refl _) (.cons (y:=bufL 35 7 zas (s38.2.1++([(⟨(20+s38.1),(1+y44),y47,(⟨y41,(y41+y49)⟩:Range),y52,0⟩:Burn)]:List Burn))) (BSim.seg (Seg.push (Seg.refl zas _) (Seg.lit (f:=zas) (sz:=7) ([(⟨(20+s38.1),(1+y44),y47,(⟨y41,(y41+y49)⟩:Range),y52,0⟩:Burn)]:List Burn) rfl rfl (fun _=>rfl)))) (.cons (.refl _) (.cons (.refl _) .nil))))))))))) ?_
       refine At.zad ?_
       obtain ⟨hc55,H⟩:=zaa H
       obtain ⟨y56,hy57,H⟩:=zac H
       obtain ⟨hc58,H⟩:=zaa H
       obtain ⟨hc59,H⟩:=zaa H
       obtain ⟨y60,hy61,H⟩:=zac H
       obtain ⟨hc62,H⟩:=zaa H
       obtain ⟨hc63,H⟩:=zaa H
       refine W.region env [] [⟨.int .i64 (y56),[],0,[]⟩,⟨.int .i64 (y60),[],0,[]⟩] rfl rfl (by kernel_rfl) (.cons hc55 (.cons hc58 (.cons hc59 (.cons hc62 (.cons (⟨by first|rfl|(simp;done)|omega|(simp;omega),by have:=hc63;first|simpa using this|(unfold room at this ⊢;simp at this ⊢;omega)⟩) .nil))))) (.free (zee p1 (s38.1+2) hy57) (.free (zaw y56 (((y41+y49) - y41)+1) hy61) .nil)) (At.kp [1,2,4,5,6,7,14] [2,4,5,6,7,900,901,902,950,951] ?_)
       refine At.zaX (.cons (.refl _) (.cons (.refl _) (.cons (.refl _) (.cons (.refl _) (.cons (.refl _) (.cons (.refl _) (.cons (.refl _) (.cons (.refl _) (.cons (.refl _) (.cons (y:=bufL 3 1 zab (s38.2.2++([(y41+y60)]:List Int))) (BSim.seg (Seg.push (Seg.refl zab _) (Seg.lit (f:=zab) (sz:=1) ([(y41+y60)]:List Int) rfl rfl (fun _=>rfl)))) .nil)))))))))) ?_
       refine At.inb (At.zad ?_)
       obtain ⟨hc64,H⟩:=zaa H
       refine W.region env [] [] rfl rfl rfl (.cons hc64 .nil) .nil (At.kp [1,2,4,5,6,7,14] [2,4,5,6,7,900,901,902,950,951] ?_)
       refine At.zaD (At.kp [1,2,4,5,6,7,14] [2,4,5,6,7,900,901,902,950,951] ?_)
       exact At.conv (.cons .q (.cons .q (.cons .q (.cons .q (.cons .q (.cons .q (.cons .qi .nil))))))) (.cons .q (.cons (BSim.cells (.cons (by first|exact Sim.refl _|exact Sim.nil _ _) (.cons (by first|exact Sim.refl _|exact Sim.nil _ _) (.cons (by first|exact Sim.refl _|exact Sim.nil _ _) (.cons (by first|exact Sim.refl _|exact Sim.nil _ _) .nil))))) (.cons (BSim.cells (.cons (by first|exact Sim.refl _|exact Sim.nil _ _) (.cons (by first|exact Sim.refl _|exact Sim.nil _ _) .nil))) (.cons (BSim.cells (.cons .qc (.cons .qc (.cons .qc (.cons (by first|exact Sim.refl _|exact Sim.nil _ _) .nil))))) (.cons (BSim.cells (.cons .qc (.cons .qc .nil))) (.cons .q (.cons .q (.cons .q (.cons .q (.cons .q .nil)))))))))) (hK38 ((s38.1+1),(s38.2.1++([(⟨(20+s38.1),(1+y44),y47,(⟨y41,(y41+y49)⟩:Range),y52,0⟩:Burn)]:List Burn)),(s38.2.2++([(y41+y60)]:List Int))) H)
     · have H:=zaf H hb39
       refine W.exit (At.xthen (At.xthen (At.xhere (At.zad (W.seq (W.rg env [2,4,5,6,7,18] [2,4,5,6,7,900,901,902,950,951] ?_))))))
       refine W.block (At.zbM 6 3 903 37 6 (e:=fun i=>zak (([]:List Look).getD i default)) rfl rfl rfl ?_)
       refine At.kp [2,4,5,6,7,18] [2,4,5,6,7,900,901,902,903,950,951] ?_
       refine W.loopGo H (fun (s65:Int×(List Look))=>[(2,.lp 2 0),(4,.lp 4 0),(5,.lp 5 0),(6,.lp 6 0),(7,.lp 7 0),(18,.int .i64 (s65.1))]) (fun (s65:Int×(List Look))=>[(2,.cells [roL 2 zcT p0.Batches,roL 4 za7 p0.Mantles,roL 5 zcS p0.Burns,roL 4 za7 p0.Looks]),(4,.cells [.nilS,.nilS,.nilS,.nilS]),(5,.cells [.nilS,.nilS]),(6,.cells [.buf 900 (s1.2.1).length,.buf 901 (s22.2).length,.buf 902 (s38.2.1).length,.buf 903 (s65.2).length]),(7,.cells [.buf 950 (s1.2.2).length,.buf 951 (s38.2.2).length]),(900,bufL 31 3 zav s1.2.1),(901,bufL 33 6 zaj s22.2),(902,bufL 35 7 zas s38.2.1),(903,bufL 37 6 zak s65.2),(950,bufL 3 1 zab s1.2.2),(951,bufL 3 1 zab s38.2.2)]) (.cons .q (.cons .q (.cons .q (.cons .q (.cons .q (.cons .qi .nil)))))) (.cons .q (.cons (BSim.cells (.cons (by first|exact Sim.refl _|exact Sim.nil _ _) (.cons (by first|exact Sim.refl _|exact Sim.nil _ _) (.cons (by first|exact Sim.refl _|exact Sim.nil _ _) (.cons (by first|exact Sim.refl _|exact Sim.nil _ _) .nil))))) (.cons (BSim.cells (.cons (by first|exact Sim.refl _|exact Sim.nil _ _) (.cons (by first|exact Sim.refl _|exact Sim.nil _ _) .nil))) (.cons (BSim.cells (.cons .qc (.cons .qc (.cons .qc (.cons .qc .nil))))) (.cons (BSim.cells (.cons .qc (.cons .qc .nil))) (.cons .q (.cons .q (.cons .q (.cons .q (.cons .q (.cons .q .nil))))))))))) (fun k65 s65 H K0 hK65=>?_)
       refine W.seq (W.sr env [] [] [2,4,5,6,7,18,202] [2,4,5,6,7,900,901,902,903,950,951] rfl rfl rfl (.cons id (.cons id .nil)) .nil ?_)
       refine W.cond rfl (fun hb66=>?_) (fun hb66=>?_)
       · have H:=zag H hb66
         refine W.skip (At.zad (W.seq (W.block ?_)))
         obtain ⟨hc67,H⟩:=zaa H
         refine W.sr env [] [] [2,4,5,6,7,18,19] [2,4,5,6,7,19,900,901,902,903,950,951] rfl rfl rfl (.cons hc67 .nil) .nil ?_
         obtain ⟨hc68,H⟩:=zaa H
         obtain ⟨y69,hy70,H⟩:=zac H
         obtain ⟨hc71,H⟩:=zaa H
         obtain ⟨y72,hy73,H⟩:=zac H
         obtain ⟨y74,hy75,H⟩:=zac H
         obtain ⟨y76,hy77,H⟩:=zac H
         obtain ⟨hc78,H⟩:=zaa H
         refine W.region env [] [⟨.int .i64 (y69),[],0,[]⟩,⟨.int .i64 (y72),[],0,[]⟩,⟨.int .i64 (y74),[],0,[]⟩,⟨.int .i64 (y76),[],0,[]⟩] rfl rfl (by kernel_rfl) (.cons hc68 (.cons (by decide) (.cons hc71 (.cons (by decide) (.cons (by decide) (.cons (by decide) (.cons (⟨by first|rfl|(simp;done)|omega|(simp;omega),by have:=hc78;first|simpa using this|(unfold room at this ⊢;simp at this ⊢;omega)⟩) .nil))))))) (.free (zaw ((p0.Looks.getD (s65.1).toNat default).x0) 5 hy70) (.free (zaw ((p0.Looks.getD (s65.1).toNat default).x1) 10 hy73) (.free (zaw ((p0.Looks.getD (s65.1).toNat default).x2) 2 hy75) (.free (zaw ((p0.Looks.getD (s65.1).toNat default).x3) 12 hy77) .nil)))) (At.kp [2,4,5,6,7,18] [2,4,5,6,7,900,901,902,903,950,951] ?_)
         refine At.zaX (.cons (.refl _) (.cons (.refl _) (.cons (.refl _) (.cons (.refl _) (.cons (.refl _) (.cons (.refl _) (.cons (.refl _) (.cons (.refl _) (.cons (y:=bufL 37 6 zak (s65.2++([(⟨(50+s65.1),(1+y69),y72,(decide (y74=1)),y76,0⟩:Look)]:List Look))) (BSim.seg (Seg.push (Seg.refl zak _) (Seg.lit (f:=zak) (sz:=6) ([(⟨(50+s65.1),(1+y69),y72,(decide (y74=1)),y76,0⟩:Look)]:List Look) rfl rfl (fun _=>rfl)))) (.cons (.refl _) (.cons (.refl _) .nil))))))))))) ?_
         refine At.inb (At.zad ?_)
         obtain ⟨hc79,H⟩:=zaa H
         refine W.region env [] [] rfl rfl rfl (.cons hc79 .nil) .nil (At.kp [2,4,5,6,7,18] [2,4,5,6,7,900,901,902,903,950,951] ?_)
         refine At.zaD (At.kp [2,4,5,6,7,18] [2,4,5,6,7,900,901,902,903,950,951] ?_)
         exact At.conv (.cons .q (.cons .q (.cons .q (.cons .q (.cons .q (.cons .qi .nil)))))) (.cons .q (.cons (BSim.cells (.cons (by first|exact Sim.refl _|exact Sim.nil _ _) (.cons (by first|exact Sim.refl _|exact Sim.nil _ _) (.cons (by first|exact Sim.refl _|exact Sim.nil _ _) (.cons (by first|exact Sim.refl _|exact Sim.nil _ _) .nil))))) (.cons (BSim.cells (.cons (by first|exact Sim.refl _|exact Sim.nil _ _) (.cons (by first|exact Sim.refl _|exact Sim.nil _ _) .nil))) (.cons (BSim.cells (.cons .qc (.cons .qc (.cons .qc (.cons .qc .nil))))) (.cons (BSim.cells (.cons .qc (.cons .qc .nil))) (.cons .q (.cons .q (.cons .q (.cons .q (.cons .q (.cons .q .nil))))))))))) (hK65 ((s65.1+1),(s65.2++([(⟨(50+s65.1),(1+y69),y72,(decide (y74=1)),y76,0⟩:Look)]:List Look))) H)
       · have H:=zaf H hb66
         refine W.exit (At.xthen (At.xthen (At.xhere (At.zad (W.sr env [] [] [4,5] [4,5,900,901,902,903,950,951] rfl rfl (by first|rfl|kernel_rfl) .nil .nil ?_)))))
         refine W.ret ?_
         cases H
         exact At.ret env.ty rfl rfl (fun q hq=>by cases hq;exact (by (repeat' apply And.intro) <;> first|rfl|(simp;done)|omega|(simp;omega))) (.refl _) hval
theorem zfn (fuel:Nat) (p0:Wear) (p1:Int) {r:(Wear×Bool)} (H:zbI fuel p0 p1=some r):Ctr Tryz.prog 49 [.agg (zar p0),.int .i64 (p1)] (.tup [.agg (zar r.1),.bool (r.2)]):=by
 unfold zbI at H
 refine Ctr.zam (N:=114) Tryz.func49 (by kernel_rfl) (c:=_) rfl Tryz.ntmps49 rfl (fun w0 h0 hval=>?_)
 refine W.rg env [1,2,4] [2,4] ?_
 refine W.seq ?_
 obtain ⟨hc1,H⟩:=zaa H
 refine W.region env [10] [] rfl rfl rfl (.cons (⟨by first|rfl|(simp;done)|omega|(simp;omega),by have:=hc1;first|simpa using this|(unfold room at this ⊢;simp at this ⊢;omega)⟩) .nil) .nil (At.kp [1,2,4,6] [2,4,6,10] ?_)
 refine At.zaX (.cons (.refl _) (.cons (.refl _) (.cons (.refl _) (.cons (y:=bufL 31 3 zav (([]:List Batch)++p0.Batches)) (BSim.seg (Seg.push (Seg.lit (f:=zav) (sz:=3) ([]:List Batch) rfl rfl (fun _=>rfl)) (Seg.refl zav p0.Batches))) .nil)))) ?_
 refine At.zad (W.seq (W.rg env [1,2,4,6,7] [2,4,6,10] ?_))
 refine W.block (At.zbM 6 1 901 33 6 (e:=fun i=>zaj (([]:List Mantle).getD i default)) rfl rfl rfl ?_)
 refine At.kp [1,2,4,6,7] [2,4,6,10,901] ?_
 refine W.loopGo H (fun (s2:Int×(List Mantle))=>[(1,.int .i64 (p1)),(2,.lp 2 0),(4,.lp 4 0),(6,.lp 6 0),(7,.int .i64 (s2.1))]) (fun (s2:Int×(List Mantle))=>[(2,.cells (zar p0)),(4,.cells [.nilS,.nilS,.nilS,.nilS]),(6,.cells [.buf 10 ((([]:List Batch)++p0.Batches)).length,.buf 901 (s2.2).length,.nilS,.nilS]),(10,bufL 31 3 zav (([]:List Batch)++p0.Batches)),(901,bufL 33 6 zaj s2.2)]) (.cons .qi (.cons .q (.cons .q (.cons .q (.cons .qi .nil))))) (.cons .q (.cons (BSim.cells (.cons (by first|exact Sim.refl _|exact Sim.nil _ _) (.cons (by first|exact Sim.refl _|exact Sim.nil _ _) (.cons (by first|exact Sim.refl _|exact Sim.nil _ _) (.cons (by first|exact Sim.refl _|exact Sim.nil _ _) .nil))))) (.cons (BSim.cells (.cons .qc (.cons .qc (.cons (by first|exact Sim.refl _|exact Sim.nil _ _) (.cons (by first|exact Sim.refl _|exact Sim.nil _ _) .nil))))) (.cons .q (.cons .q .nil))))) (fun k2 s2 H K0 hK2=>?_)
 refine W.seq (W.rg env [1,2,4,6,7,19] [2,4,6,10,901] ?_)
 refine W.cond rfl (fun hb3=>?_) (fun hb3=>?_)
 · have H:=zag H hb3
   refine W.skip (At.zad (W.seq (W.block ?_)))
   obtain ⟨hc4,H⟩:=zaa H
   refine W.sr env [] [] [1,2,4,6,7,29] [2,4,6,10,901] rfl rfl rfl (.cons hc4 .nil) .nil ?_
   refine W.cond rfl (fun hb5=>?_) (fun hb5=>?_)
   · have H:=zag H hb5
     obtain ⟨hc6,H⟩:=zaa H
     obtain ⟨hc7,H⟩:=zaa H
     refine W.region env [] [] rfl rfl (by first|rfl|kernel_rfl) (.cons hc6 (.cons (⟨by first|rfl|(simp;done)|omega|(simp;omega),by have:=hc7;first|simpa using this|(unfold room at this ⊢;simp at this ⊢;omega)⟩) .nil)) .nil (At.kp [1,2,4,6,7] [2,4,6,10,901] ?_)
     refine At.zaX (.cons (.refl _) (.cons (.refl _) (.cons (.refl _) (.cons (.refl _) (.cons (y:=bufL 33 6 zaj (s2.2++([(p0.Mantles.getD (s2.1).toNat default)]:List Mantle))) (BSim.seg (Seg.push (Seg.refl zaj _) (Seg.lit (f:=zaj) (sz:=6) ([(p0.Mantles.getD (s2.1).toNat default)]:List Mantle) rfl rfl (fun _=>rfl)))) .nil))))) ?_
     refine At.inb (At.zad ?_)
     obtain ⟨hc8,H⟩:=zaa H
     refine W.region env [] [] rfl rfl rfl (.cons hc8 .nil) .nil (At.kp [1,2,4,6,7] [2,4,6,10,901] ?_)
     refine At.zaD (At.kp [1,2,4,6,7] [2,4,6,10,901] ?_)
     exact At.conv (.cons .qi (.cons .q (.cons .q (.cons .q (.cons .qi .nil))))) (.cons .q (.cons (BSim.cells (.cons (by first|exact Sim.refl _|exact Sim.nil _ _) (.cons (by first|exact Sim.refl _|exact Sim.nil _ _) (.cons (by first|exact Sim.refl _|exact Sim.nil _ _) (.cons (by first|exact Sim.refl _|exact Sim.nil _ _) .nil))))) (.cons (BSim.cells (.cons .qc (.cons .qc (.cons (by first|exact Sim.refl _|exact Sim.nil _ _) (.cons (by first|exact Sim.refl _|exact Sim.nil _ _) .nil))))) (.cons .q (.cons .q .nil))))) (hK2 ((s2.1+1),(s2.2++([(p0.Mantles.getD (s2.1).toNat default)]:List Mantle))) H)
   · have H:=zaf H hb5
     refine W.skip (At.inb (At.zad ?_))
     obtain ⟨hc9,H⟩:=zaa H
     refine W.region env [] [] rfl rfl rfl (.cons hc9 .nil) .nil (At.kp [1,2,4,6,7] [2,4,6,10,901] ?_)
     refine At.zaD (At.kp [1,2,4,6,7] [2,4,6,10,901] ?_)
     exact At.conv (.cons .qi (.cons .q (.cons .q (.cons .q (.cons .qi .nil))))) (.cons .q (.cons (BSim.cells (.cons (by first|exact Sim.refl _|exact Sim.nil _ _) (.cons (by first|exact Sim.refl _|exact Sim.nil _ _) (.cons (by first|exact Sim.refl _|exact Sim.nil _ _) (.cons (by first|exact Sim.refl _|exact Sim.nil _ _) .nil))))) (.cons (BSim.cells (.cons .qc (.cons .qc (.cons (by first|exact Sim.refl _|exact Sim.nil _ _) (.cons (by first|exact Sim.refl _|exact Sim.nil _ _) .nil))))) (.cons .q (.cons .q .nil))))) (hK2 ((s2.1+1),s2.2) H)
 · have H:=zaf H hb3
   refine W.exit (At.xthen (At.xthen (At.xhere (At.zad (W.seq (W.rg env [1,2,4,6,8] [2,4,6,10,901] ?_))))))
   refine W.block (At.zbM 6 2 902 35 7 (e:=fun i=>zas (([]:List Burn).getD i default)) rfl rfl rfl ?_)
   refine At.kp [1,2,4,6,8] [2,4,6,10,901,902] ?_
   refine W.loopGo H (fun (s10:Int×(List Burn))=>[(1,.int .i64 (p1)),(2,.lp 2 0),(4,.lp 4 0),(6,.lp 6 0),(8,.int .i64 (s10.1))]) (fun (s10:Int×(List Burn))=>[(2,.cells (zar p0)),(4,.cells [.nilS,.nilS,.nilS,.nilS]),(6,.cells [.buf 10 ((([]:List Batch)++p0.Batches)).length,.buf 901 (s2.2).length,.buf 902 (s10.2).length,.nilS]),(10,bufL 31 3 zav (([]:List Batch)++p0.Batches)),(901,bufL 33 6 zaj s2.2),(902,bufL 35 7 zas s10.2)]) (.cons .qi (.cons .q (.cons .q (.cons .q (.cons .qi .nil))))) (.cons .q (.cons (BSim.cells (.cons (by first|exact Sim.refl _|exact Sim.nil _ _) (.cons (by first|exact Sim.refl _|exact Sim.nil _ _) (.cons (by first|exact Sim.refl _|exact Sim.nil _ _) (.cons (by first|exact Sim.refl _|exact Sim.nil _ _) .nil))))) (.cons (BSim.cells (.cons .qc (.cons .qc (.cons .qc (.cons (by first|exact Sim.refl _|exact Sim.nil _ _) .nil))))) (.cons .q (.cons .q (.cons .q .nil)))))) (fun k10 s10 H K0 hK10=>?_)
   refine W.seq (W.rg env [1,2,4,6,8,44] [2,4,6,10,901,902] ?_)
   refine W.cond rfl (fun hb11=>?_) (fun hb11=>?_)
   · have H:=zag H hb11
     refine W.skip (At.zad (W.seq (W.block ?_)))
     obtain ⟨hc12,H⟩:=zaa H
     refine W.sr env [] [] [1,2,4,6,8,54] [2,4,6,10,901,902] rfl rfl rfl (.cons hc12 .nil) .nil ?_
     refine W.cond rfl (fun hb13=>?_) (fun hb13=>?_)
     · have H:=zag H hb13
       obtain ⟨hc14,H⟩:=zaa H
       obtain ⟨hc15,H⟩:=zaa H
       refine W.region env [] [] rfl rfl (by first|rfl|kernel_rfl) (.cons hc14 (.cons (⟨by first|rfl|(simp;done)|omega|(simp;omega),by have:=hc15;first|simpa using this|(unfold room at this ⊢;simp at this ⊢;omega)⟩) .nil)) .nil (At.kp [1,2,4,6,8] [2,4,6,10,901,902] ?_)
       refine At.zaX (.cons (.refl _) (.cons (.refl _) (.cons (.refl _) (.cons (.refl _) (.cons (.refl _) (.cons (y:=bufL 35 7 zas (s10.2++([(p0.Burns.getD (s10.1).toNat default)]:List Burn))) (BSim.seg (Seg.push (Seg.refl zas _) (Seg.lit (f:=zas) (sz:=7) ([(p0.Burns.getD (s10.1).toNat default)]:List Burn) rfl rfl (fun _=>rfl)))) .nil)))))) ?_
       refine At.inb (At.zad ?_)
       obtain ⟨hc16,H⟩:=zaa H
       refine W.region env [] [] rfl rfl rfl (.cons hc16 .nil) .nil (At.kp [1,2,4,6,8] [2,4,6,10,901,902] ?_)
       refine At.zaD (At.kp [1,2,4,6,8] [2,4,6,10,901,902] ?_)
       exact At.conv (.cons .qi (.cons .q (.cons .q (.cons .q (.cons .qi .nil))))) (.cons .q (.cons (BSim.cells (.cons (by first|exact Sim.refl _|exact Sim.nil _ _) (.cons (by first|exact Sim.refl _|exact Sim.nil _ _) (.cons (by first|exact Sim.refl _|exact Sim.nil _ _) (.cons (by first|exact Sim.refl _|exact Sim.nil _ _) .nil))))) (.cons (BSim.cells (.cons .qc (.cons .qc (.cons .qc (.cons (by first|exact Sim.refl _|exact Sim.nil _ _) .nil))))) (.cons .q (.cons .q (.cons .q .nil)))))) (hK10 ((s10.1+1),(s10.2++([(p0.Burns.getD (s10.1).toNat default)]:List Burn))) H)
     · have H:=zaf H hb13
       refine W.skip (At.inb (At.zad ?_))
       obtain ⟨hc17,H⟩:=zaa H
       refine W.region env [] [] rfl rfl rfl (.cons hc17 .nil) .nil (At.kp [1,2,4,6,8] [2,4,6,10,901,902] ?_)
       refine At.zaD (At.kp [1,2,4,6,8] [2,4,6,10,901,902] ?_)
       exact At.conv (.cons .qi (.cons .q (.cons .q (.cons .q (.cons .qi .nil))))) (.cons .q (.cons (BSim.cells (.cons (by first|exact Sim.refl _|exact Sim.nil _ _) (.cons (by first|exact Sim.refl _|exact Sim.nil _ _) (.cons (by first|exact Sim.refl _|exact Sim.nil _ _) (.cons (by first|exact Sim.refl _|exact Sim.nil _ _) .nil))))) (.cons (BSim.cells (.cons .qc (.cons .qc (.cons .qc (.cons (by first|exact Sim.refl _|exact Sim.nil _ _) .nil))))) (.cons .q (.cons .q (.cons .q .nil)))))) (hK10 ((s10.1+1),s10.2) H)
   · have H:=zaf H hb11
     refine W.exit (At.xthen (At.xthen (At.xhere (At.zad (W.seq (W.rg env [1,2,4,6,9] [2,4,6,10,901,902] ?_))))))
     refine W.block (At.zbM 6 3 903 37 6 (e:=fun i=>zak (([]:List Look).getD i default)) rfl rfl rfl ?_)
     refine At.kp [1,2,4,6,9] [2,4,6,10,901,902,903] ?_
     refine W.loopGo H (fun (s18:Int×(List Look))=>[(1,.int .i64 (p1)),(2,.lp 2 0),(4,.lp 4 0),(6,.lp 6 0),(9,.int .i64 (s18.1))]) (fun (s18:Int×(List Look))=>[(2,.cells (zar p0)),(4,.cells [.nilS,.nilS,.nilS,.nilS]),(6,.cells [.buf 10 ((([]:List Batch)++p0.Batches)).length,.buf 901 (s2.2).length,.buf 902 (s10.2).length,.buf 903 (s18.2).length]),(10,bufL 31 3 zav (([]:List Batch)++p0.Batches)),(901,bufL 33 6 zaj s2.2),(902,bufL 35 7 zas s10.2),(903,bufL 37 6 zak s18.2)]) (.cons .qi (.cons .q (.cons .q (.cons .q (.cons .qi .nil))))) (.cons .q (.cons (BSim.cells (.cons (by first|exact Sim.refl _|exact Sim.nil _ _) (.cons (by first|exact Sim.refl _|exact Sim.nil _ _) (.cons (by first|exact Sim.refl _|exact Sim.nil _ _) (.cons (by first|exact Sim.refl _|exact Sim.nil _ _) .nil))))) (.cons (BSim.cells (.cons .qc (.cons .qc (.cons .qc (.cons .qc .nil))))) (.cons .q (.cons .q (.cons .q (.cons .q .nil))))))) (fun k18 s18 H K0 hK18=>?_)
     refine W.seq (W.rg env [1,2,4,6,9,69] [2,4,6,10,901,902,903] ?_)
     refine W.cond rfl (fun hb19=>?_) (fun hb19=>?_)
     · have H:=zag H hb19
       refine W.skip (At.zad (W.seq (W.block ?_)))
       obtain ⟨hc20,H⟩:=zaa H
       refine W.sr env [] [] [1,2,4,6,9,79] [2,4,6,10,901,902,903] rfl rfl rfl (.cons hc20 .nil) .nil ?_
       refine W.cond rfl (fun hb21=>?_) (fun hb21=>?_)
       · have H:=zag H hb21
         obtain ⟨hc22,H⟩:=zaa H
         obtain ⟨hc23,H⟩:=zaa H
         refine W.region env [] [] rfl rfl (by first|rfl|kernel_rfl) (.cons hc22 (.cons (⟨by first|rfl|(simp;done)|omega|(simp;omega),by have:=hc23;first|simpa using this|(unfold room at this ⊢;simp at this ⊢;omega)⟩) .nil)) .nil (At.kp [1,2,4,6,9] [2,4,6,10,901,902,903] ?_)
         refine At.zaX (.cons (.refl _) (.cons (.refl _) (.cons (.refl _) (.cons (.refl _) (.cons (.refl _) (.cons (.refl _) (.cons (y:=bufL 37 6 zak (s18.2++([(p0.Looks.getD (s18.1).toNat default)]:List Look))) (BSim.seg (Seg.push (Seg.refl zak _) (Seg.lit (f:=zak) (sz:=6) ([(p0.Looks.getD (s18.1).toNat default)]:List Look) rfl rfl (fun _=>rfl)))) .nil))))))) ?_
         refine At.inb (At.zad ?_)
         obtain ⟨hc24,H⟩:=zaa H
         refine W.region env [] [] rfl rfl rfl (.cons hc24 .nil) .nil (At.kp [1,2,4,6,9] [2,4,6,10,901,902,903] ?_)
         refine At.zaD (At.kp [1,2,4,6,9] [2,4,6,10,901,902,903] ?_)
         exact At.conv (.cons .qi (.cons .q (.cons .q (.cons .q (.cons .qi .nil))))) (.cons .q (.cons (BSim.cells (.cons (by first|exact Sim.refl _|exact Sim.nil _ _) (.cons (by first|exact Sim.refl _|exact Sim.nil _ _) (.cons (by first|exact Sim.refl _|exact Sim.nil _ _) (.cons (by first|exact Sim.refl _|exact Sim.nil _ _) .nil))))) (.cons (BSim.cells (.cons .qc (.cons .qc (.cons .qc (.cons .qc .nil))))) (.cons .q (.cons .q (.cons .q (.cons .q .nil))))))) (hK18 ((s18.1+1),(s18.2++([(p0.Looks.getD (s18.1).toNat default)]:List Look))) H)
       · have H:=zaf H hb21
         refine W.skip (At.inb (At.zad ?_))
         obtain ⟨hc25,H⟩:=zaa H
         refine W.region env [] [] rfl rfl rfl (.cons hc25 .nil) .nil (At.kp [1,2,4,6,9] [2,4,6,10,901,902,903] ?_)
         refine At.zaD (At.kp [1,2,4,6,9] [2,4,6,10,901,902,903] ?_)
         exact At.conv (.cons .qi (.cons .q (.cons .q (.cons .q (.cons .qi .nil))))) (.cons .q (.cons (BSim.cells (.cons (by first|exact Sim.refl _|exact Sim.nil _ _) (.cons (by first|exact Sim.refl _|exact Sim.nil _ _) (.cons (by first|exact Sim.refl _|exact Sim.nil _ _) (.cons (by first|exact Sim.refl _|exact Sim.nil _ _) .nil))))) (.cons (BSim.cells (.cons .qc (.cons .qc (.cons .qc (.cons .qc .nil))))) (.cons .q (.cons .q (.cons .q (.cons .q .nil))))))) (hK18 ((s18.1+1),s18.2) H)
     · have H:=zaf H hb19
       refine W.exit (At.xthen (At.xthen (At.xhere (At.zad ?_))))
       obtain ⟨hc26,H⟩:=zaa H
       obtain ⟨hc27,H⟩:=zaa H
       obtain ⟨hc28,H⟩:=zaa H
       obtain ⟨hc29,H⟩:=zaa H
       refine W.sr env [] [] [4,5] [4,10,901,902,903] rfl rfl (by first|rfl|kernel_rfl) (.cons (by first|rfl|(simp;done)|omega|(simp;omega)) (.cons (by first|rfl|(simp;done)|omega|(simp;omega)) (.cons hc26 (.cons (by first|rfl|(simp;done)|omega|(simp;omega)) (.cons hc27 (.cons hc28 (.cons hc29 .nil))))))) .nil ?_
       refine W.ret ?_
       cases H
       exact At.ret env.ty rfl rfl (fun q hq=>by cases hq;exact (by (repeat' apply And.intro) <;> first|rfl|(simp;done)|omega|(simp;omega))) (.refl _) hval
theorem zet (fuel:Nat) (p0:(List Mantle)) (p1:Mantle→Option Bool) (p1_g:Nat) (p1_a p1_b:List AV) (p1_h:∀ x0 r,p1 x0=some r→Ctr Tryz.prog p1_g (p1_a++([.agg [.int .i64 (x0.Source),.int .i64 (x0.Lamp),.int .i64 (x0.Batch),.int .i64 (x0.Night),.int .i64 (x0.Known),.int .i64 (x0.Until)]]++p1_b)) (.bool (r))) {r:(List Mantle)} (H:zbK fuel p0 p1=some r):CtrO Tryz.prog 114 [.buf 700 (p0).length,.clo (.func p1_g) p1_a p1_b] [(700,bufL 33 6 zaj p0)] (.buf 900 r.length) [(900,bufL 33 6 zaj r)]:=by
 unfold zbK at H
 refine CtrO.zam (N:=42) Tryz.func114 (by kernel_rfl) (c:=_) rfl Tryz.ntmps114 rfl (fun w0 h0 ρb hval hdom=>?_)
 refine W.rg env [0,1] [700] ?_
 refine W.seq ?_
 obtain ⟨y1,hy2,H⟩:=zac H
 refine W.region env [] [⟨.int .i64 (y1),[],0,[]⟩] rfl rfl rfl (.cons (by first|rfl|(simp;done)|omega|(simp;omega)) .nil) (.free (zdi p0 p1 p1_g p1_a p1_b p1_h hy2) .nil) (At.kp [0,1,5] [700] ?_)
 refine At.zad (W.seq (W.rg env [0,1,5,12] [700] ?_))
 refine W.cond rfl (fun hb3=>?_) (fun hb3=>?_)
 · have H:=zag H hb3
   refine W.rg env [4] [700] ?_
   refine W.ret (At.rthen ?_)
   cases H
   exact At.retK env.ty [700] 200 rfl rfl rfl rfl (.cons (.refl _) .nil) (.of_eq (by refine zd8 ?_;first|(simp [zaE];done)|omega|(simp [zaE];omega)|rfl)) hval hdom rfl
 · have H:=zaf H hb3
   refine W.skip (At.zad (W.seq ?_))
   obtain ⟨hc4,H⟩:=zaa H
   refine W.sr env [] [] [0,1,5,6] [700] rfl rfl rfl (.cons hc4 .nil) .nil ?_
   refine W.block (At.kp [0,1,5,6] [700] ?_)
   refine W.loopGo H (fun (s5:Int×Int×(List Mantle))=>[(0,.buf 700 (s5.2.2).length),(1,.clo (.func p1_g) p1_a p1_b),(5,.int .i64 (s5.1)),(6,.int .i64 (s5.2.1))]) (fun (s5:Int×Int×(List Mantle))=>[(700,bufL 33 6 zaj s5.2.2)]) (.cons .qb (.cons .q (.cons .qi (.cons .qi .nil)))) (.cons .q .nil) (fun k5 s5 H K0 hK5=>?_)
   refine W.seq (W.sr env [] [] [0,1,5,6,19] [700] rfl rfl rfl (.cons (by first|rfl|(simp;done)|omega|(simp;omega)) .nil) .nil ?_)
   refine W.cond rfl (fun hb6=>?_) (fun hb6=>?_)
   · have H:=zag H hb6
     refine W.skip (At.zad (W.seq (W.block ?_)))
     obtain ⟨hc7,H⟩:=zaa H
     refine W.sr env [] [] [0,1,5,6,7] [7,700] rfl rfl rfl (.cons (⟨by first|rfl|(simp;done)|omega|(simp;omega),hc7⟩) (.cons (⟨by first|rfl|(simp;done)|omega|(simp;omega),(by have:=hc7;first|omega|(simp only [List.length_set];omega)|(simp only [Int.toNat_natCast] at *;omega)|(simp at this ⊢;omega))⟩) .nil)) .nil ?_
     refine W.seq ?_
     obtain ⟨y8,hy9,H⟩:=zac H
     refine W.region env [] [⟨.bool (y8),[],0,[]⟩] rfl rfl rfl .nil (.free (p1_h (s5.2.2.getD (s5.2.1).toNat default) _ hy9) .nil) (At.kp [0,1,5,6,7,29] [7,700] ?_)
     refine At.zad (W.cond rfl (fun hb10=>?_) (fun hb10=>?_))
     · have H:=zag H hb10
       refine W.seq ?_
       obtain ⟨hc11,H⟩:=zaa H
       refine W.region env [] [] rfl rfl rfl (.cons (⟨by first|rfl|(simp;done)|omega|(simp;omega),hc11⟩) (.cons (⟨by first|rfl|(simp;done)|omega|(simp;omega),(by have:=hc11;first|omega|(simp only [List.length_set];omega)|(simp only [Int.toNat_natCast] at *;omega)|(simp at this ⊢;omega))⟩) .nil)) .nil (At.kp [0,1,5,6] [700] ?_)
       refine At.zaX (.cons (y:=bufL 33 6 zaj (s5.2.2.set (s5.1).toNat (s5.2.2.getD (s5.2.1).toNat default))) (BSim.seg (Seg.set (Seg.refl zaj _) (s5.2.2.getD (s5.2.1).toNat default) rfl)) .nil) ?_
       refine At.zad ?_
       obtain ⟨hc12,H⟩:=zaa H
       refine W.region env [] [] rfl rfl rfl (.cons hc12 .nil) .nil (At.kp [0,1,5,6] [700] ?_)
       refine At.inb (At.zad ?_)
       obtain ⟨hc13,H⟩:=zaa H
       refine W.region env [] [] rfl rfl rfl (.cons hc13 .nil) .nil (At.kp [0,1,5,6] [700] ?_)
       refine At.zaD (At.kp [0,1,5,6] [700] ?_)
       exact At.conv (.cons .qb (.cons .q (.cons .qi (.cons .qi .nil)))) (.cons .q .nil) (hK5 ((s5.1+1),(s5.2.1+1),(s5.2.2.set (s5.1).toNat (s5.2.2.getD (s5.2.1).toNat default))) H)
     · have H:=zaf H hb10
       refine W.skip (At.inb (At.zad ?_))
       obtain ⟨hc14,H⟩:=zaa H
       refine W.region env [] [] rfl rfl rfl (.cons hc14 .nil) .nil (At.kp [0,1,5,6] [700] ?_)
       refine At.zaD (At.kp [0,1,5,6] [700] ?_)
       exact At.conv (.cons .qb (.cons .q (.cons .qi (.cons .qi .nil)))) (.cons .q .nil) (hK5 (s5.1,(s5.2.1+1),s5.2.2) H)
   · have H:=zaf H hb6
     refine W.exit (At.xthen (At.xthen (At.xhere (At.zad (W.seq ?_)))))
     obtain ⟨hc15,H⟩:=zaa H
     refine W.region env [] [] rfl rfl rfl (.cons (⟨by first|rfl|(simp;done)|omega|(simp;omega),hc15⟩) (.cons (⟨by first|rfl|(simp;done)|omega|(simp;omega),(by have:=hc15;omega),(by have:=hc15;omega)⟩) .nil)) .nil (At.kp [0,5] [700] ?_)
     refine At.zaX (.cons (y:=bufL 33 6 zaj (zaE s5.2.2 ((s5.1).toNat) (s5.2.2.length - (s5.1).toNat) (fun _=>(⟨0,0,0,0,0,0⟩:Mantle)))) (BSim.seg (Seg.cleared (a:=(s5.1).toNat) (b:=s5.2.2.length) (Seg.refl zaj _) (⟨0,0,0,0,0,0⟩:Mantle) rfl (by have:=hc15;omega))) .nil) ?_
     refine At.zad ?_
     obtain ⟨hc16,H⟩:=zaa H
     refine W.sr env [] [] [4] [700] rfl rfl rfl (.cons (⟨by first|rfl|(simp [zbE];done)|(simp [zbE];omega),hc16⟩) .nil) .nil ?_
     refine W.ret ?_
     cases H
     refine At.shrink 4 700 850 (K:=[]) (ts:=[]) rfl rfl (by first|rfl|(simp;done)|omega|(simp;omega)) (by have:=hc16;omega) rfl rfl rfl rfl ?_
     refine At.zaX (.cons (y:=bufL 33 6 zaj ((zaE s5.2.2 ((s5.1).toNat) (s5.2.2.length - (s5.1).toNat) (fun _=>(⟨0,0,0,0,0,0⟩:Mantle))).take ((s5.1).toNat))) (BSim.seg (Seg.first (Seg.refl zaj _) (by have:=hc16;omega))) .nil) ?_
     exact At.retK env.ty [850] 50 rfl rfl rfl rfl (.cons (.refl _) .nil) (.of_eq (by refine zd8 ?_;first|(simp [zaE];done)|omega|(simp [zaE];omega)|rfl)) hval hdom rfl
theorem zft (p0:(List Mantle)) {r:(List Mantle)} (H:zbe p0=some r):CtrO Tryz.prog 64 [roL 6 zaj p0] [] (.buf 900 r.length) [(900,bufL 33 6 zaj r)]:=by
 unfold zbe at H
 refine CtrO.zam (N:=8) Tryz.func64 (by kernel_rfl) (c:=_) rfl Tryz.ntmps64 rfl (fun w0 h0 ρb hval hdom=>?_)
 refine W.rg env [0] [] ?_
 refine W.seq (W.rg env [0,4] [] ?_)
 refine W.zfW rfl (fun hz=>?_) ?_
 · obtain rfl:p0=[]:=List.length_eq_zero_iff.1 hz
   obtain ⟨hc1,H⟩:=zaa H
   refine W.rg env [2] [] ?_
   refine W.ret (At.rthen ?_)
   cases H
   refine At.zeV 2 800 33 6 (e:=fun i=>zaj (([]:List Mantle).getD i default)) rfl rfl ?_
   exact At.retK env.ty [800] 100 rfl rfl rfl rfl (.cons (.refl _) .nil) (.of_eq (by refine zd8 ?_;first|(simp [zaE];done)|omega|(simp [zaE];omega)|rfl)) hval hdom rfl
 · refine W.skip (At.zad (W.seq ?_))
   obtain ⟨hc1,H⟩:=zaa H
   refine W.region env [5] [] rfl rfl rfl (.cons (⟨by first|rfl|(simp;done)|omega|(simp;omega),by have:=hc1;first|simpa using this|(unfold room at this ⊢;simp at this ⊢;omega)⟩) .nil) .nil (At.kp [2] [5] ?_)
   refine At.zaX (.cons (y:=bufL 33 6 zaj (([]:List Mantle)++p0)) (BSim.seg (Seg.push (Seg.lit (f:=zaj) (sz:=6) ([]:List Mantle) rfl rfl (fun _=>rfl)) (Seg.refl zaj p0))) .nil) ?_
   refine At.zad (W.ret ?_)
   cases H
   exact At.retK env.ty [5] 895 rfl rfl rfl rfl (.cons (.refl _) .nil) (.of_eq (by refine zd8 ?_;first|(simp [zaE];done)|omega|(simp [zaE];omega)|rfl)) hval hdom rfl
theorem zic (p0:Mantle) (c0:Int):Ctr Tryz.prog 115 [.agg [.int .i64 (p0.Source),.int .i64 (p0.Lamp),.int .i64 (p0.Batch),.int .i64 (p0.Night),.int .i64 (p0.Known),.int .i64 (p0.Until)],.rp [.int .i64 (c0)]] (.bool ((zcD p0 c0))):=by
 obtain ⟨r,H⟩:∃ r,zcD p0 c0=r:=⟨_,rfl⟩
 rw [H]
 unfold zcD at H
 refine Ctr.zam (N:=8) Tryz.func115 (by kernel_rfl) (c:=_) rfl Tryz.ntmps115 rfl (fun w0 h0 hval=>?_)
 refine W.rg env [1,2] [2] ?_
 refine W.rg env [3] [] ?_
 refine W.ret ?_
 cases H
 exact At.ret env.ty rfl rfl nofun (.refl _) hval
theorem zeN (fuel:Nat) (p0:(List Burn)) (p1:Burn→Option Bool) (p1_g:Nat) (p1_a p1_b:List AV) (p1_h:∀ x0 r,p1 x0=some r→Ctr Tryz.prog p1_g (p1_a++([.agg [.int .i64 (x0.Source),.int .i64 (x0.Lamp),.int .i64 (x0.Night),.int .i64 (x0.Minutes.Lo),.int .i64 (x0.Minutes.Hi),.int .i64 (x0.Known),.int .i64 (x0.Until)]]++p1_b)) (.bool (r))) {r:(List Burn)} (H:zb0 fuel p0 p1=some r):CtrO Tryz.prog 116 [.buf 700 (p0).length,.clo (.func p1_g) p1_a p1_b] [(700,bufL 35 7 zas p0)] (.buf 900 r.length) [(900,bufL 35 7 zas r)]:=by
 unfold zb0 at H
 refine CtrO.zam (N:=42) Tryz.func116 (by kernel_rfl) (c:=_) rfl Tryz.ntmps116 rfl (fun w0 h0 ρb hval hdom=>?_)
 refine W.rg env [0,1] [700] ?_
 refine W.seq ?_
 obtain ⟨y1,hy2,H⟩:=zac H
 refine W.region env [] [⟨.int .i64 (y1),[],0,[]⟩] rfl rfl rfl (.cons (by first|rfl|(simp;done)|omega|(simp;omega)) .nil) (.free (zdF p0 p1 p1_g p1_a p1_b p1_h hy2) .nil) (At.kp [0,1,5] [700] ?_)
 refine At.zad (W.seq (W.rg env [0,1,5,12] [700] ?_))
 refine W.cond rfl (fun hb3=>?_) (fun hb3=>?_)
 · have H:=zag H hb3
   refine W.rg env [4] [700] ?_
   refine W.ret (At.rthen ?_)
   cases H
   exact At.retK env.ty [700] 200 rfl rfl rfl rfl (.cons (.refl _) .nil) (.of_eq (by refine zd8 ?_;first|(simp [zaE];done)|omega|(simp [zaE];omega)|rfl)) hval hdom rfl
 · have H:=zaf H hb3
   refine W.skip (At.zad (W.seq ?_))
   obtain ⟨hc4,H⟩:=zaa H
   refine W.sr env [] [] [0,1,5,6] [700] rfl rfl rfl (.cons hc4 .nil) .nil ?_
   refine W.block (At.kp [0,1,5,6] [700] ?_)
   refine W.loopGo H (fun (s5:Int×Int×(List Burn))=>[(0,.buf 700 (s5.2.2).length),(1,.clo (.func p1_g) p1_a p1_b),(5,.int .i64 (s5.1)),(6,.int .i64 (s5.2.1))]) (fun (s5:Int×Int×(List Burn))=>[(700,bufL 35 7 zas s5.2.2)]) (.cons .qb (.cons .q (.cons .qi (.cons .qi .nil)))) (.cons .q .nil) (fun k5 s5 H K0 hK5=>?_)
   refine W.seq (W.sr env [] [] [0,1,5,6,19] [700] rfl rfl rfl (.cons (by first|rfl|(simp;done)|omega|(simp;omega)) .nil) .nil ?_)
   refine W.cond rfl (fun hb6=>?_) (fun hb6=>?_)
   · have H:=zag H hb6
     refine W.skip (At.zad (W.seq (W.block ?_)))
     obtain ⟨hc7,H⟩:=zaa H
     refine W.sr env [] [] [0,1,5,6,7] [7,700] rfl rfl rfl (.cons (⟨by first|rfl|(simp;done)|omega|(simp;omega),hc7⟩) (.cons (⟨by first|rfl|(simp;done)|omega|(simp;omega),(by have:=hc7;first|omega|(simp only [List.length_set];omega)|(simp only [Int.toNat_natCast] at *;omega)|(simp at this ⊢;omega))⟩) .nil)) .nil ?_
     refine W.seq ?_
     obtain ⟨y8,hy9,H⟩:=zac H
     refine W.region env [] [⟨.bool (y8),[],0,[]⟩] rfl rfl rfl .nil (.free (p1_h (s5.2.2.getD (s5.2.1).toNat default) _ hy9) .nil) (At.kp [0,1,5,6,7,29] [7,700] ?_)
     refine At.zad (W.cond rfl (fun hb10=>?_) (fun hb10=>?_))
     · have H:=zag H hb10
       refine W.seq ?_
       obtain ⟨hc11,H⟩:=zaa H
       refine W.region env [] [] rfl rfl rfl (.cons (⟨by first|rfl|(simp;done)|omega|(simp;omega),hc11⟩) (.cons (⟨by first|rfl|(simp;done)|omega|(simp;omega),(by have:=hc11;first|omega|(simp only [List.length_set];omega)|(simp only [Int.toNat_natCast] at *;omega)|(simp at this ⊢;omega))⟩) .nil)) .nil (At.kp [0,1,5,6] [700] ?_)
       refine At.zaX (.cons (y:=bufL 35 7 zas (s5.2.2.set (s5.1).toNat (s5.2.2.getD (s5.2.1).toNat default))) (BSim.seg (Seg.set (Seg.refl zas _) (s5.2.2.getD (s5.2.1).toNat default) rfl)) .nil) ?_
       refine At.zad ?_
       obtain ⟨hc12,H⟩:=zaa H
       refine W.region env [] [] rfl rfl rfl (.cons hc12 .nil) .nil (At.kp [0,1,5,6] [700] ?_)
       refine At.inb (At.zad ?_)
       obtain ⟨hc13,H⟩:=zaa H
       refine W.region env [] [] rfl rfl rfl (.cons hc13 .nil) .nil (At.kp [0,1,5,6] [700] ?_)
       refine At.zaD (At.kp [0,1,5,6] [700] ?_)
       exact At.conv (.cons .qb (.cons .q (.cons .qi (.cons .qi .nil)))) (.cons .q .nil) (hK5 ((s5.1+1),(s5.2.1+1),(s5.2.2.set (s5.1).toNat (s5.2.2.getD (s5.2.1).toNat default))) H)
     · have H:=zaf H hb10
       refine W.skip (At.inb (At.zad ?_))
       obtain ⟨hc14,H⟩:=zaa H
       refine W.region env [] [] rfl rfl rfl (.cons hc14 .nil) .nil (At.kp [0,1,5,6] [700] ?_)
       refine At.zaD (At.kp [0,1,5,6] [700] ?_)
       exact At.conv (.cons .qb (.cons .q (.cons .qi (.cons .qi .nil)))) (.cons .q .nil) (hK5 (s5.1,(s5.2.1+1),s5.2.2) H)
   · have H:=zaf H hb6
     refine W.exit (At.xthen (At.xthen (At.xhere (At.zad (W.seq ?_)))))
     obtain ⟨hc15,H⟩:=zaa H
     refine W.region env [] [] rfl rfl rfl (.cons (⟨by first|rfl|(simp;done)|omega|(simp;omega),hc15⟩) (.cons (⟨by first|rfl|(simp;done)|omega|(simp;omega),(by have:=hc15;omega),(by have:=hc15;omega)⟩) .nil)) .nil (At.kp [0,5] [700] ?_)
     refine At.zaX (.cons (y:=bufL 35 7 zas (zaE s5.2.2 ((s5.1).toNat) (s5.2.2.length - (s5.1).toNat) (fun _=>(⟨0,0,0,(⟨0,0⟩:Range),0,0⟩:Burn)))) (BSim.seg (Seg.cleared (a:=(s5.1).toNat) (b:=s5.2.2.length) (Seg.refl zas _) (⟨0,0,0,(⟨0,0⟩:Range),0,0⟩:Burn) rfl (by have:=hc15;omega))) .nil) ?_
     refine At.zad ?_
     obtain ⟨hc16,H⟩:=zaa H
     refine W.sr env [] [] [4] [700] rfl rfl rfl (.cons (⟨by first|rfl|(simp [zbE];done)|(simp [zbE];omega),hc16⟩) .nil) .nil ?_
     refine W.ret ?_
     cases H
     refine At.shrink 4 700 850 (K:=[]) (ts:=[]) rfl rfl (by first|rfl|(simp;done)|omega|(simp;omega)) (by have:=hc16;omega) rfl rfl rfl rfl ?_
     refine At.zaX (.cons (y:=bufL 35 7 zas ((zaE s5.2.2 ((s5.1).toNat) (s5.2.2.length - (s5.1).toNat) (fun _=>(⟨0,0,0,(⟨0,0⟩:Range),0,0⟩:Burn))).take ((s5.1).toNat))) (BSim.seg (Seg.first (Seg.refl zas _) (by have:=hc16;omega))) .nil) ?_
     exact At.retK env.ty [850] 50 rfl rfl rfl rfl (.cons (.refl _) .nil) (.of_eq (by refine zd8 ?_;first|(simp [zaE];done)|omega|(simp [zaE];omega)|rfl)) hval hdom rfl
theorem zgw (p0:(List Burn)) {r:(List Burn)} (H:zby p0=some r):CtrO Tryz.prog 65 [roL 7 zas p0] [] (.buf 900 r.length) [(900,bufL 35 7 zas r)]:=by
 unfold zby at H
 refine CtrO.zam (N:=8) Tryz.func65 (by kernel_rfl) (c:=_) rfl Tryz.ntmps65 rfl (fun w0 h0 ρb hval hdom=>?_)
 refine W.rg env [0] [] ?_
 refine W.seq (W.rg env [0,4] [] ?_)
 refine W.zfW rfl (fun hz=>?_) ?_
 · obtain rfl:p0=[]:=List.length_eq_zero_iff.1 hz
   obtain ⟨hc1,H⟩:=zaa H
   refine W.rg env [2] [] ?_
   refine W.ret (At.rthen ?_)
   cases H
   refine At.zeV 2 800 35 7 (e:=fun i=>zas (([]:List Burn).getD i default)) rfl rfl ?_
   exact At.retK env.ty [800] 100 rfl rfl rfl rfl (.cons (.refl _) .nil) (.of_eq (by refine zd8 ?_;first|(simp [zaE];done)|omega|(simp [zaE];omega)|rfl)) hval hdom rfl
 · refine W.skip (At.zad (W.seq ?_))
   obtain ⟨hc1,H⟩:=zaa H
   refine W.region env [5] [] rfl rfl rfl (.cons (⟨by first|rfl|(simp;done)|omega|(simp;omega),by have:=hc1;first|simpa using this|(unfold room at this ⊢;simp at this ⊢;omega)⟩) .nil) .nil (At.kp [2] [5] ?_)
   refine At.zaX (.cons (y:=bufL 35 7 zas (([]:List Burn)++p0)) (BSim.seg (Seg.push (Seg.lit (f:=zas) (sz:=7) ([]:List Burn) rfl rfl (fun _=>rfl)) (Seg.refl zas p0))) .nil) ?_
   refine At.zad (W.ret ?_)
   cases H
   exact At.retK env.ty [5] 895 rfl rfl rfl rfl (.cons (.refl _) .nil) (.of_eq (by refine zd8 ?_;first|(simp [zaE];done)|omega|(simp [zaE];omega)|rfl)) hval hdom rfl
theorem zib (p0:Burn) (c0:Int):Ctr Tryz.prog 117 [.agg [.int .i64 (p0.Source),.int .i64 (p0.Lamp),.int .i64 (p0.Night),.int .i64 (p0.Minutes.Lo),.int .i64 (p0.Minutes.Hi),.int .i64 (p0.Known),.int .i64 (p0.Until)],.rp [.int .i64 (c0)]] (.bool ((zcC p0 c0))):=by
 obtain ⟨r,H⟩:∃ r,zcC p0 c0=r:=⟨_,rfl⟩
 rw [H]
 unfold zcC at H
 refine Ctr.zam (N:=8) Tryz.func117 (by kernel_rfl) (c:=_) rfl Tryz.ntmps117 rfl (fun w0 h0 hval=>?_)
 refine W.rg env [1,2] [2] ?_
 refine W.rg env [3] [] ?_
 refine W.ret ?_
 cases H
 exact At.ret env.ty rfl rfl nofun (.refl _) hval
theorem zia (p0:Look) (c0:Int):Ctr Tryz.prog 119 [.agg [.int .i64 (p0.Source),.int .i64 (p0.Lamp),.int .i64 (p0.Night),.bool (p0.Bad),.int .i64 (p0.Known),.int .i64 (p0.Until)],.rp [.int .i64 (c0)]] (.bool ((zcB p0 c0))):=by
 obtain ⟨r,H⟩:∃ r,zcB p0 c0=r:=⟨_,rfl⟩
 rw [H]
 unfold zcB at H
 refine Ctr.zam (N:=8) Tryz.func119 (by kernel_rfl) (c:=_) rfl Tryz.ntmps119 rfl (fun w0 h0 hval=>?_)
 refine W.rg env [1,2] [2] ?_
 refine W.rg env [3] [] ?_
 refine W.ret ?_
 cases H
 exact At.ret env.ty rfl rfl nofun (.refl _) hval
theorem zfY (fuel:Nat) (p0:(List Int)) {r:(List Int)} (H:zb7 fuel p0=some r):CtrO Tryz.prog 121 [.buf 700 (p0).length] [(700,bufL 3 1 zab p0)] (.buf 900 r.length) [(900,bufL 3 1 zab r)]:=by
 unfold zb7 at H
 refine CtrO.zam (N:=61) Tryz.func121 (by kernel_rfl) (c:=_) rfl Tryz.ntmps121 rfl (fun w0 h0 ρb hval hdom=>?_)
 refine W.rg env [0] [700] ?_
 refine W.seq (W.sr env [] [] [0,8] [700] rfl rfl rfl (.cons (by first|rfl|(simp;done)|omega|(simp;omega)) .nil) .nil ?_)
 refine W.cond rfl (fun hb1=>?_) (fun hb1=>?_)
 · have H:=zag H hb1
   refine W.rg env [2] [700] ?_
   refine W.ret (At.rthen ?_)
   cases H
   exact At.retK env.ty [700] 200 rfl rfl rfl rfl (.cons (.refl _) .nil) (.of_eq (by refine zd8 ?_;first|(simp [zaE];done)|omega|(simp [zaE];omega)|rfl)) hval hdom rfl
 · have H:=zaf H hb1
   refine W.skip (At.zad (W.seq (W.rg env [0,3] [700] ?_)))
   refine W.block (At.kp [0,3] [700] ?_)
   refine W.loopGo H (fun (s2:Int)=>[(0,.buf 700 (p0).length),(3,.int .i64 (s2))]) (fun (s2:Int)=>[(700,bufL 3 1 zab p0)]) (.cons .qb (.cons .qi .nil)) (.cons .q .nil) (fun k2 s2 H K0 hK2=>?_)
   refine W.seq (W.sr env [] [] [0,3,13] [700] rfl rfl rfl (.cons (by first|rfl|(simp;done)|omega|(simp;omega)) .nil) .nil ?_)
   refine W.cond rfl (fun hb3=>?_) (fun hb3=>?_)
   · have H:=zag H hb3
     refine W.skip (At.zad (W.seq (W.block ?_)))
     obtain ⟨hc4,H⟩:=zaa H
     obtain ⟨hc5,H⟩:=zaa H
     obtain ⟨hc6,H⟩:=zaa H
     refine W.sr env [] [] [0,3,25] [700] rfl rfl (by first|rfl|kernel_rfl) (.cons (⟨by first|rfl|(simp;done)|omega|(simp;omega),hc4⟩) (.cons (⟨by first|rfl|(simp;done)|omega|(simp;omega),(by have:=hc4;first|omega|(simp only [List.length_set];omega)|(simp only [Int.toNat_natCast] at *;omega)|(simp at this ⊢;omega))⟩) (.cons hc5 (.cons (⟨by first|rfl|(simp;done)|omega|(simp;omega),hc6⟩) (.cons (⟨by first|rfl|(simp;done)|omega|(simp;omega),(by have:=hc6;first|omega|(simp only [List.length_set];omega)|(simp only [Int.toNat_natCast] at *;omega)|(simp at this ⊢;omega))⟩) .nil))))) .nil ?_
     refine W.cond rfl (fun hb7=>?_) (fun hb7=>?_)
     · have H:=zag H hb7
       obtain ⟨hc8,H⟩:=zaa H
       refine W.sr env [] [] [0,3,4] [700] rfl rfl rfl (.cons (⟨by first|rfl|(simp;done)|omega|(simp;omega),hc8⟩) .nil) .nil ?_
       refine W.seq (W.rg env [0,3,4,5] [700] ?_)
       refine W.block (At.kp [0,3,4,5] [700] ?_)
       refine W.loopGo H (fun (s9:Int×Int×(List Int))=>[(0,.buf 700 (s9.2.2).length),(3,.int .i64 (s9.1)),(4,.sb 700 (s9.2.2).length ((s2).toNat) (s9.2.2).length),(5,.int .i64 (s9.2.1))]) (fun (s9:Int×Int×(List Int))=>[(700,bufL 3 1 zab s9.2.2)]) (.cons .qb (.cons .qi (.cons (.of_eq (by refine sbEq ?_ ?_ ?_ <;> first|rfl|(simp;done)|omega|(simp;omega))) (.cons .qi .nil)))) (.cons .q .nil) (fun k9 s9 H K0 hK9=>?_)
       refine W.seq (W.sr env [] [] [0,3,4,5,32] [700] rfl rfl rfl (.cons (by first|rfl|(simp;done)|omega|(simp;omega)) .nil) .nil ?_)
       refine W.cond rfl (fun hb10=>?_) (fun hb10=>?_)
       · have H:=zag H hb10
         refine W.skip (At.zad (W.seq (W.block ?_)))
         obtain ⟨hc11,H⟩:=zaa H
         obtain ⟨hc12,H⟩:=zaa H
         obtain ⟨hc13,H⟩:=zaa H
         refine W.sr env [] [] [0,3,4,5,44] [700] rfl rfl (by first|rfl|kernel_rfl) (.cons (⟨by first|rfl|(simp;done)|omega|(simp;omega),by have h1:=hc8;have h2:=hc11;first|omega|(simp only [Int.toNat_natCast] at *;omega)|(simp at h1 h2 ⊢;omega),by have h1:=hc8;have h2:=hc11;first|omega|(simp only [Int.toNat_natCast] at *;omega)|(simp at h1 h2 ⊢;omega),hc11⟩) (.cons (⟨by first|rfl|(simp;done)|omega|(simp;omega),(by have h1:=hc8;have h2:=hc11;first|omega|(simp only [Int.toNat_natCast] at *;omega)|(simp at h1 h2 ⊢;omega))⟩) (.cons hc12 (.cons (⟨by first|rfl|(simp;done)|omega|(simp;omega),by have h1:=hc8;have h2:=hc13;first|omega|(simp only [Int.toNat_natCast] at *;omega)|(simp at h1 h2 ⊢;omega),by have h1:=hc8;have h2:=hc13;first|omega|(simp only [Int.toNat_natCast] at *;omega)|(simp at h1 h2 ⊢;omega),hc13⟩) (.cons (⟨by first|rfl|(simp;done)|omega|(simp;omega),(by have h1:=hc8;have h2:=hc13;first|omega|(simp only [Int.toNat_natCast] at *;omega)|(simp at h1 h2 ⊢;omega))⟩) .nil))))) .nil ?_
         refine W.cond rfl (fun hb14=>?_) (fun hb14=>?_)
         · have H:=zag H hb14
           refine W.seq ?_
           obtain ⟨hc15,H⟩:=zaa H
           obtain ⟨hc16,H⟩:=zaa H
           refine W.region env [] [] rfl rfl rfl (.cons (⟨by first|rfl|(simp;done)|omega|(simp;omega),by have h1:=hc8;have h2:=hc15;first|omega|(simp only [Int.toNat_natCast] at *;omega)|(simp at h1 h2 ⊢;omega),by have h1:=hc8;have h2:=hc15;first|omega|(simp only [Int.toNat_natCast] at *;omega)|(simp at h1 h2 ⊢;omega),hc15⟩) (.cons (⟨by first|rfl|(simp;done)|omega|(simp;omega),(by have h1:=hc8;have h2:=hc15;first|omega|(simp only [Int.toNat_natCast] at *;omega)|(simp at h1 h2 ⊢;omega))⟩) (.cons (⟨by first|rfl|(simp;done)|omega|(simp;omega),hc16⟩) (.cons (⟨by first|rfl|(simp;done)|omega|(simp;omega),(by have:=hc16;first|omega|(simp only [List.length_set];omega)|(simp only [Int.toNat_natCast] at *;omega)|(simp at this ⊢;omega))⟩) .nil)))) .nil (At.kp [0,3,4,5] [700] ?_)
           refine At.zaX (.cons (y:=bufL 3 1 zab (s9.2.2.set (s9.1).toNat (s9.2.2.getD ((s2).toNat+(s9.2.1).toNat) default))) (BSim.seg (Seg.set (Seg.refl zab _) (s9.2.2.getD ((s2).toNat+(s9.2.1).toNat) default) rfl)) .nil) ?_
           refine At.zad ?_
           obtain ⟨hc17,H⟩:=zaa H
           refine W.region env [] [] rfl rfl rfl (.cons hc17 .nil) .nil (At.kp [0,3,4,5] [700] ?_)
           refine At.inb (At.zad ?_)
           obtain ⟨hc18,H⟩:=zaa H
           refine W.region env [] [] rfl rfl rfl (.cons hc18 .nil) .nil (At.kp [0,3,4,5] [700] ?_)
           refine At.zaD (At.kp [0,3,4,5] [700] ?_)
           exact At.conv (.cons .qb (.cons .qi (.cons (.of_eq (by refine sbEq ?_ ?_ ?_ <;> first|rfl|(simp;done)|omega|(simp;omega))) (.cons .qi .nil)))) (.cons .q .nil) (hK9 ((s9.1+1),(s9.2.1+1),(s9.2.2.set (s9.1).toNat (s9.2.2.getD ((s2).toNat+(s9.2.1).toNat) default))) H)
         · have H:=zaf H hb14
           refine W.skip (At.inb (At.zad ?_))
           obtain ⟨hc19,H⟩:=zaa H
           refine W.region env [] [] rfl rfl rfl (.cons hc19 .nil) .nil (At.kp [0,3,4,5] [700] ?_)
           refine At.zaD (At.kp [0,3,4,5] [700] ?_)
           exact At.conv (.cons .qb (.cons .qi (.cons (.of_eq (by refine sbEq ?_ ?_ ?_ <;> first|rfl|(simp;done)|omega|(simp;omega))) (.cons .qi .nil)))) (.cons .q .nil) (hK9 (s9.1,(s9.2.1+1),s9.2.2) H)
       · have H:=zaf H hb10
         refine W.exit (At.xthen (At.xthen (At.xhere (At.zad (W.seq ?_)))))
         obtain ⟨hc20,H⟩:=zaa H
         refine W.region env [] [] rfl rfl rfl (.cons (⟨by first|rfl|(simp;done)|omega|(simp;omega),hc20⟩) (.cons (⟨by first|rfl|(simp;done)|omega|(simp;omega),(by have:=hc20;omega),(by have:=hc20;omega)⟩) .nil)) .nil (At.kp [0,3] [700] ?_)
         refine At.zaX (.cons (y:=bufL 3 1 zab (zaE s9.2.2 ((s9.1).toNat) (s9.2.2.length - (s9.1).toNat) (fun _=>0))) (BSim.seg (Seg.cleared (a:=(s9.1).toNat) (b:=s9.2.2.length) (Seg.refl zab _) 0 rfl (by have:=hc20;omega))) .nil) ?_
         refine At.zad ?_
         obtain ⟨hc21,H⟩:=zaa H
         refine W.sr env [] [] [2] [700] rfl rfl rfl (.cons (⟨by first|rfl|(simp [zbE];done)|(simp [zbE];omega),hc21⟩) .nil) .nil ?_
         refine W.ret (At.rinb ?_)
         refine At.rthen ?_
         refine At.rthen ?_
         refine At.rinb ?_
         refine At.rthen ?_
         cases H
         refine At.shrink 2 700 850 (K:=[]) (ts:=[]) rfl rfl (by first|rfl|(simp;done)|omega|(simp;omega)) (by have:=hc21;omega) rfl rfl rfl rfl ?_
         refine At.zaX (.cons (y:=bufL 3 1 zab ((zaE s9.2.2 ((s9.1).toNat) (s9.2.2.length - (s9.1).toNat) (fun _=>0)).take ((s9.1).toNat))) (BSim.seg (Seg.first (Seg.refl zab _) (by have:=hc21;omega))) .nil) ?_
         exact At.retK env.ty [850] 50 rfl rfl rfl rfl (.cons (.refl _) .nil) (.of_eq (by refine zd8 ?_;first|(simp [zaE];done)|omega|(simp [zaE];omega)|rfl)) hval hdom rfl
     · have H:=zaf H hb7
       refine W.skip (At.inb (At.zad ?_))
       obtain ⟨hc22,H⟩:=zaa H
       refine W.region env [] [] rfl rfl rfl (.cons hc22 .nil) .nil (At.kp [0,3] [700] ?_)
       refine At.zaD (At.kp [0,3] [700] ?_)
       exact At.conv (.cons .qb (.cons .qi .nil)) (.cons .q .nil) (hK2 (s2+1) H)
   · have H:=zaf H hb3
     refine W.exit (At.xthen (At.xthen (At.xhere (At.zad (W.rg env [2] [700] ?_)))))
     refine W.ret ?_
     cases H
     exact At.retK env.ty [700] 200 rfl rfl rfl rfl (.cons (.refl _) .nil) (.of_eq (by refine zd8 ?_;first|(simp [zaE];done)|omega|(simp [zaE];omega)|rfl)) hval hdom rfl
theorem zju (fuel:Nat) (p0:Wear) (p1:Int) (p2:Int) (p3:Int) {r:((List Int)×Int)} (H:zd1 fuel p0 p1 p2 p3=some r):Ctr Tryz.prog 47 [.agg (zar p0),.int .i64 (p1),.int .i64 (p2),.int .i64 (p3)] (.tup [roL 1 zab r.1,.int .i64 (r.2)]):=by
 unfold zd1 at H
 refine Ctr.zam (N:=114) Tryz.func47 (by kernel_rfl) (c:=_) rfl Tryz.ntmps47 rfl (fun w0 h0 hval=>?_)
 refine W.rg env [2,3,4,5] [4,5] ?_
 refine W.seq (W.seq ?_)
 obtain ⟨y1,hy2,H⟩:=zac H
 refine W.region env [] [⟨.int .i64 (y1),[],0,[]⟩] rfl rfl rfl .nil (.free (Ctr.sim (.cons (.refl _) (.cons (Sim.lit (f:=zab) ([p2,p3]:List Int) rfl rfl (fun _=>rfl)) .nil)) (zdG p0 ([p2,p3]:List Int) hy2)) .nil) (At.kp [2,3,4,5,10] [4,5] ?_)
 refine At.zad (W.rg env [2,3,4,5,10,25] [4,5] ?_)
 refine W.cond rfl (fun hb3=>?_) (fun hb3=>?_)
 · have H:=zag H hb3
   refine W.rg env [8,9] [] ?_
   refine W.ret (At.rthen ?_)
   cases H
   exact At.ret env.ty rfl rfl nofun (Sim.tupL (.cons (Sim.nil _ _) (.cons (.refl _) .nil))) hval
 · have H:=zaf H hb3
   refine W.skip (At.zad (W.rg env [2,3,4,5,11] [4,5,11] ?_))
   refine W.seq (At.zkm 5 (K:=[4,11]) (ts:=[2,3,4,5,11]) rfl rfl rfl rfl rfl (fun _ h=>h) ?_)
   obtain ⟨y4,hy5,H⟩:=zac H
   obtain ⟨y6,hy7,H⟩:=zac H
   refine W.region env [] [⟨.buf 900 y4.length,[(900,bufL 33 6 zaj y4)],33000,[]⟩,⟨.buf 900 y6.length,[(33900,.dead),(900,bufL 33 6 zaj y6)],35000,[]⟩] rfl rfl (by kernel_rfl) .nil (.free ((Ctr.ofO (zft p0.Mantles hy5))) (.free (CtrO.sim (CtrO.at (zet fuel y4 (fun x0=>some (zcD x0 p1)) 115 [] ([.rp [.int .i64 (p1)]]) (fun x0 r h=>by cases h;exact zic x0 p1) hy7) rfl 33900) (.cons .qc (.cons (Sim.zop rfl) .nil)) (.cons (.refl _) .nil)) .nil)) (At.kp [2,3,4,5,11] [4,11,35900] ?_)
   refine At.zad (W.seq ?_)
   obtain ⟨y8,hy9,H⟩:=zac H
   obtain ⟨y10,hy11,H⟩:=zac H
   refine W.region env [] [⟨.buf 900 y8.length,[(900,bufL 35 7 zas y8)],39000,[]⟩,⟨.buf 900 y10.length,[(39900,.dead),(900,bufL 35 7 zas y10)],41000,[]⟩] rfl rfl (by kernel_rfl) .nil (.free ((Ctr.ofO (zgw p0.Burns hy9))) (.free (CtrO.sim (CtrO.at (zeN fuel y8 (fun x0=>some (zcC x0 p1)) 117 [] ([.rp [.int .i64 (p1)]]) (fun x0 r h=>by cases h;exact zib x0 p1) hy11) rfl 39900) (.cons .qc (.cons (Sim.zop rfl) .nil)) (.cons (.refl _) .nil)) .nil)) (At.kp [2,3,4,5,11] [4,11,35900,41900] ?_)
   refine At.zad (W.seq ?_)
   obtain ⟨y12,hy13,H⟩:=zac H
   obtain ⟨y14,hy15,H⟩:=zac H
   refine W.region env [] [⟨.buf 900 y12.length,[(900,bufL 37 6 zak y12)],45000,[]⟩,⟨.buf 900 y14.length,[(45900,.dead),(900,bufL 37 6 zak y14)],47000,[]⟩] rfl rfl (by kernel_rfl) .nil (.free ((Ctr.ofO (zck p0.Looks hy13))) (.free (CtrO.sim (CtrO.at (zdh fuel y12 (fun x0=>some (zcB x0 p1)) 119 [] ([.rp [.int .i64 (p1)]]) (fun x0 r h=>by cases h;exact zia x0 p1) hy15) rfl 45900) (.cons .qc (.cons (Sim.zop rfl) .nil)) (.cons (.refl _) .nil)) .nil)) (At.kp [2,3,4,11] [4,11,35900,41900,47900] ?_)
   refine At.zad (W.seq ?_)
   obtain ⟨hc16,H⟩:=zaa H
   obtain ⟨hc17,H⟩:=zaa H
   obtain ⟨hc18,H⟩:=zaa H
   obtain ⟨hc19,H⟩:=zaa H
   refine W.sr env [] [] [2,3,4,11,70] [4,11,35900,41900,47900] rfl rfl rfl (.cons (by first|rfl|(simp;done)|omega|(simp;omega)) (.cons (by first|rfl|(simp;done)|omega|(simp;omega)) (.cons hc16 (.cons (by first|rfl|(simp;done)|omega|(simp;omega)) (.cons hc17 (.cons hc18 (.cons hc19 .nil))))))) .nil ?_
   refine W.cond rfl (fun hb20=>?_) (fun hb20=>?_)
   · have H:=zag H hb20
     refine W.rg env [8,9] [] ?_
     refine W.ret (At.rthen ?_)
     cases H
     exact At.ret env.ty rfl rfl nofun (Sim.tupL (.cons (Sim.nil _ _) (.cons (.refl _) .nil))) hval
   · have H:=zaf H hb20
     refine W.skip (At.zad (W.rg env [2,3,4,11,12] [4,11,35900,41900,47900] ?_))
     refine W.seq (W.rg env [2,3,4,11,12,72,73,74] [4,11,35900,41900,47900] ?_)
     refine W.block (At.zeV 12 512 3 1 (e:=fun i=>zab (([]:List Int).getD i default)) rfl rfl ?_)
     refine At.kp [2,3,4,11,12,72,73,74] [4,11,512,35900,41900,47900] ?_
     refine W.len (t:=72) rfl (fun (hn21:p0.Mantles.length≤maxLen)=>?_)
     refine W.zau H (fun i21 (s21:(List Int))=>[(2,.int .i64 (p2)),(3,.int .i64 (p3)),(4,.lp 4 0),(11,.lp 11 0),(12,.buf 512 (s21).length),(72,roL 6 zaj p0.Mantles),(73,.int .i64 (((p0.Mantles.length:Nat):Int))),(74,.int .i64 ((i21:Int)))]) (fun i21 (s21:(List Int))=>[(4,.cells (zar p0)),(11,.cells [roL 3 zav p0.Batches,.buf 35900 (y6).length,.buf 41900 (y10).length,.buf 47900 (y14).length]),(512,bufL 3 1 zab s21),(35900,bufL 33 6 zaj y6),(41900,bufL 35 7 zas y10),(47900,bufL 37 6 zak y14)]) (.cons .qi (.cons .qi (.cons .q (.cons .q (.cons .qb (.cons .q (.cons .qi (.cons .qi .nil)))))))) (.cons .q (.cons (BSim.cells (.cons .q (.cons .qc (.cons .qc (.cons .qc .nil))))) (.cons .q (.cons .q (.cons .q (.cons .q .nil)))))) (fun k21 i21 s21 hle21 H1 H2 K0 hK21=>?_)
     refine W.rg env [2,3,4,11,12,72,73,74,75] [4,11,512,35900,41900,47900] ?_
     refine W.seq (W.cond rfl (fun hb22=>?_) (fun hb22=>?_))
     · have hi21:i21<p0.Mantles.length:=by have:=of_decide_eq_true hb22;omega
       have H:=H1 hi21
       refine W.skip (At.zad (W.seq (W.block (W.sr env [] [] [2,3,4,11,12,14,72,73,74] [4,11,14,512,35900,41900,47900] rfl rfl rfl (.cons (⟨by omega,by omega⟩:0≤(i21:Int)∧(i21:Int)<((p0.Mantles.length:Nat):Int)) .nil) .nil ?_))))
       refine W.seq ?_
       obtain ⟨y23,hy24,H⟩:=zac H
       refine W.region env [] [⟨.tup [.int .i64 (y23.1),.int .i64 (y23.2)],[],0,[]⟩] rfl rfl rfl .nil (.free (zcf fuel p0 ((p0.Mantles.getD i21 default).Lamp) p2 p3 hy24) .nil) (At.kp [2,3,4,11,12,14,15,16,72,73,74] [4,11,14,512,35900,41900,47900] ?_)
       refine At.zad (W.seq ?_)
       obtain ⟨y25,hy26,H⟩:=zac H
       refine W.region env [] [⟨.tup [.int .i64 (y25.1),.int .i64 (y25.2)],[],0,[]⟩] rfl rfl rfl (.cons (by (repeat' apply And.intro) <;> first|rfl|(simp;done)|omega|(simp;omega)) .nil) (.free (zcf fuel (⟨p0.Batches,y6,y10,y14⟩:Wear) ((p0.Mantles.getD i21 default).Lamp) p2 p3 hy26) .nil) (At.kp [2,3,4,11,12,14,15,16,17,18,72,73,74] [4,11,14,512,35900,41900,47900] ?_)
       refine At.zad (W.sr env [] [] [2,3,4,11,12,14,72,73,74,103] [4,11,14,512,35900,41900,47900] rfl rfl rfl (.cons id (.cons id (.cons (fun h=>by rw [h];rfl) .nil))) .nil ?_)
       refine W.cond rfl (fun hb27=>?_) (fun hb27=>?_)
       · have H:=zag H hb27
         obtain ⟨hc28,H⟩:=zaa H
         refine W.region env [] [] rfl rfl rfl (.cons (⟨by first|rfl|(simp;done)|omega|(simp;omega),by have:=hc28;first|simpa using this|(unfold room at this ⊢;simp at this ⊢;omega)⟩) .nil) .nil (At.kp [2,3,4,11,12,72,73,74] [4,11,512,35900,41900,47900] ?_)
         refine At.zaX (.cons (.refl _) (.cons (.refl _) (.cons (y:=bufL 3 1 zab (s21++([(p0.Mantles.getD i21 default).Lamp]:List Int))) (BSim.seg (Seg.push (Seg.refl zab _) (Seg.lit (f:=zab) (sz:=1) ([(p0.Mantles.getD i21 default).Lamp]:List Int) rfl rfl (fun _=>rfl)))) (.cons (.refl _) (.cons (.refl _) (.cons (.refl _) .nil)))))) ?_
         refine At.inb (At.zad (W.region env [] [] rfl rfl rfl (.cons (by unfold inI;have:=hn21;(try unfold maxLen at this);omega) .nil) .nil (At.kp [2,3,4,11,12,72,73,74] [4,11,512,35900,41900,47900] ?_)))
         refine At.zaD (At.kp [2,3,4,11,12,72,73,74] [4,11,512,35900,41900,47900] ?_)
         exact At.conv (.cons .qi (.cons .qi (.cons .q (.cons .q (.cons .qb (.cons .q (.cons .qi (.cons .qi .nil)))))))) (.cons .q (.cons (BSim.cells (.cons .q (.cons .qc (.cons .qc (.cons .qc .nil))))) (.cons .q (.cons .q (.cons .q (.cons .q .nil)))))) (hK21 hi21 (s21++([(p0.Mantles.getD i21 default).Lamp]:List Int)) H)
       · have H:=zaf H hb27
         refine W.skip (At.inb (At.zad (W.region env [] [] rfl rfl rfl (.cons (by unfold inI;have:=hn21;(try unfold maxLen at this);omega) .nil) .nil (At.kp [2,3,4,11,12,72,73,74] [4,11,512,35900,41900,47900] ?_))))
         refine At.zaD (At.kp [2,3,4,11,12,72,73,74] [4,11,512,35900,41900,47900] ?_)
         exact At.conv (.cons .qi (.cons .qi (.cons .q (.cons .q (.cons .qb (.cons .q (.cons .qi (.cons .qi .nil)))))))) (.cons .q (.cons (BSim.cells (.cons .q (.cons .qc (.cons .qc (.cons .qc .nil))))) (.cons .q (.cons .q (.cons .q (.cons .q .nil)))))) (hK21 hi21 s21 H)
     · have H:=H2 (by have:=of_decide_eq_false hb22;omega)
       refine W.exit (At.xthen (At.xthen (At.xhere (At.zad (W.seq ?_)))))
       obtain ⟨y29,hy30,H⟩:=zac H
       obtain ⟨hc31,H⟩:=zaa H
       refine W.region env [] [⟨.tup [],[(512,bufL 3 1 zab y29)],0,[512]⟩] rfl rfl (by kernel_rfl) .nil (.free (CtrO.sim (CtrO.ren (zeF s21 hy30) [(90000,512)]) (.cons .qc .nil) (.cons (.refl _) .nil)) .nil) (At.kp [12] [512] ?_)
       refine At.zad (W.seq ?_)
       obtain ⟨y32,hy33,H⟩:=zac H
       refine W.region env [] [⟨.buf 900 y32.length,[(512,.dead),(900,bufL 3 1 zab y32)],114000,[]⟩] rfl rfl (by kernel_rfl) .nil (.free (CtrO.sim (CtrO.at (zfY fuel y29 hy33) rfl 512) (.cons .qc .nil) (.cons (.refl _) .nil)) .nil) (At.kp [8,9] [114900] ?_)
       refine At.zad (W.ret ?_)
       cases H
       exact At.ret env.ty rfl rfl (fun q hq=>by cases hq;exact (by first|rfl|(simp;done)|omega|(simp;omega))) (.refl _) hval
theorem zf9 (fuel:Nat) (p0:Wear) {r:(List Int)} (H:zbX fuel p0=some r):Ctr Tryz.prog 50 [.agg (zar p0)] (roL 1 zab r):=by
 unfold zbX at H
 refine Ctr.zam (N:=67) Tryz.func50 (by kernel_rfl) (c:=_) rfl Tryz.ntmps50 rfl (fun w0 h0 hval=>?_)
 refine W.rg env [1] [1] ?_
 refine W.rg env [1,3] [1] ?_
 refine W.seq (W.rg env [1,3,4] [1] ?_)
 refine W.block (At.zeV 3 503 3 1 (e:=fun i=>zab (([]:List Int).getD i default)) rfl rfl ?_)
 refine At.zl3 503 (K:=[1]) (ts:=[1,3,4]) rfl rfl rfl rfl (.cons (by first|rfl|(simp;done)|omega|(simp;omega)) .nil) .nil (fun _ h=>h) ?_
 refine At.kp [1,3,4] [1] ?_
 refine W.loopGo H (fun (s1:Int×(List Int))=>[(1,.lp 1 0),(3,roL 1 zab s1.2),(4,.int .i64 (s1.1))]) (fun (s1:Int×(List Int))=>[(1,.cells (zar p0))]) (.cons .q (.cons .q (.cons .qi .nil))) (.cons .q .nil) (fun k1 s1 H K0 hK1=>?_)
 refine W.seq (W.rg env [1,3,4,10] [1] ?_)
 refine W.cond rfl (fun hb2=>?_) (fun hb2=>?_)
 · have H:=zag H hb2
   refine W.skip (At.zad (W.seq (W.block (W.rg env [1,3,4,5] [1] ?_))))
   refine W.seq (W.block (At.kp [1,3,4,5] [1] ?_))
   refine W.loopGo H (fun (s3:Int)=>[(1,.lp 1 0),(3,roL 1 zab s1.2),(4,.int .i64 (s1.1)),(5,.int .i64 (s3))]) (fun (s3:Int)=>[(1,.cells (zar p0))]) (.cons .q (.cons .q (.cons .qi (.cons .qi .nil)))) (.cons .q .nil) (fun k3 s3 H K0 hK3=>?_)
   refine W.seq ?_
   obtain ⟨hc4,H⟩:=zaa H
   obtain ⟨hc5,H⟩:=zaa H
   refine W.sr env [] [] [1,3,4,5,29] [1] rfl rfl (by first|rfl|kernel_rfl) (.cons hc4 (.cons id (.cons id (.cons id (.cons id (.cons hc5 (.cons id (.cons id (.cons id (.cons id (.cons id (.cons id (.cons id .nil))))))))))))) .nil ?_
   refine W.cond rfl (fun hb6=>?_) (fun hb6=>?_)
   · have H:=zag H hb6
     refine W.skip (At.zad (W.block ?_))
     obtain ⟨hc7,H⟩:=zaa H
     refine W.region env [] [] rfl rfl rfl (.cons hc7 .nil) .nil (At.kp [1,3,4,5] [1] ?_)
     refine At.inb (At.zaD (At.kp [1,3,4,5] [1] ?_))
     exact At.conv (.cons .q (.cons .q (.cons .qi (.cons .qi .nil)))) (.cons .q .nil) (hK3 (s3+1) H)
   · have H:=zaf H hb6
     refine W.exit (At.xthen (At.xthen (At.xhere (At.zad ?_))))
     obtain ⟨hc8,H⟩:=zaa H
     obtain ⟨hc9,H⟩:=zaa H
     refine W.sr env [] [] [1,3,4,5,48] [1] rfl rfl (by first|rfl|kernel_rfl) (.cons hc8 (.cons id (.cons id (.cons id (.cons id (.cons hc9 (.cons id (.cons id (.cons id (.cons id (.cons id (.cons id (.cons (fun h=>by rw [h];rfl) .nil))))))))))))) .nil ?_
     refine W.cond rfl (fun hb10=>?_) (fun hb10=>?_)
     · have H:=zag H hb10
       obtain ⟨hc11,H⟩:=zaa H
       obtain ⟨hc12,H⟩:=zaa H
       obtain ⟨hc13,H⟩:=zaa H
       obtain ⟨hc14,H⟩:=zaa H
       obtain ⟨hc15,H⟩:=zaa H
       obtain ⟨hc16,H⟩:=zaa H
       refine W.region env [49] [] rfl rfl (by first|rfl|kernel_rfl) (.cons hc11 (.cons (⟨by first|rfl|(simp;done)|omega|(simp;omega),by have:=hc12;first|simpa using this|(unfold room at this ⊢;simp at this ⊢;omega)⟩) (.cons hc13 (.cons (⟨by first|rfl|(simp;done)|omega|(simp;omega),by have:=hc14;first|simpa using this|(unfold room at this ⊢;simp at this ⊢;omega)⟩) (.cons hc15 (.cons (⟨by first|rfl|(simp;done)|omega|(simp;omega),by have:=hc16;first|simpa using this|(unfold room at this ⊢;simp at this ⊢;omega)⟩) .nil)))))) .nil (At.kp [1,3,4] [1,49] ?_)
       refine At.zaX (.cons (.refl _) (.cons (y:=bufL 3 1 zab (((([]:List Int)++(s1.2.take (s3).toNat))++([(p0.Mantles.getD (s1.1).toNat default).Lamp]:List Int))++(s1.2.drop (s3).toNat))) (BSim.seg (Seg.push (Seg.push (Seg.push (Seg.lit (f:=zab) (sz:=1) ([]:List Int) rfl rfl (fun _=>rfl)) (Seg.take zab s1.2 ((s3).toNat) (by omega))) (Seg.lit (f:=zab) (sz:=1) ([(p0.Mantles.getD (s1.1).toNat default).Lamp]:List Int) rfl rfl (fun _=>rfl))) (Seg.drop zab s1.2 ((s3).toNat)))) .nil)) ?_
       refine At.inb (At.zad ?_)
       obtain ⟨hc17,H⟩:=zaa H
       refine W.region env [] [] rfl rfl rfl (.cons hc17 .nil) .nil (At.kp [1,3,4] [1,49] ?_)
       refine At.zl3 49 (K:=[1]) (ts:=[1,3,4]) rfl rfl rfl rfl (.cons (by first|rfl|(simp;done)|omega|(simp;omega)) .nil) .nil (fun _ h=>h) ?_
       refine At.zaD (At.kp [1,3,4] [1] ?_)
       exact At.conv (.cons .q (.cons .q (.cons .qi .nil))) (.cons .q .nil) (hK1 ((s1.1+1),(((([]:List Int)++(s1.2.take (s3).toNat))++([(p0.Mantles.getD (s1.1).toNat default).Lamp]:List Int))++(s1.2.drop (s3).toNat))) H)
     · have H:=zaf H hb10
       refine W.skip (At.inb (At.zad ?_))
       obtain ⟨hc18,H⟩:=zaa H
       refine W.region env [] [] rfl rfl rfl (.cons hc18 .nil) .nil (At.kp [1,3,4] [1] ?_)
       refine At.zaD (At.kp [1,3,4] [1] ?_)
       exact At.conv (.cons .q (.cons .q (.cons .qi .nil))) (.cons .q .nil) (hK1 ((s1.1+1),s1.2) H)
 · have H:=zaf H hb2
   refine W.exit (At.xthen (At.xthen (At.xhere (At.zad (W.rg env [2] [] ?_)))))
   refine W.ret ?_
   cases H
   exact At.ret env.ty rfl rfl nofun (.refl _) hval
theorem zgZ (fuel:Nat) (p0:(List Int)) (p1:Int) {r:Bool} (H:zco fuel p0 p1=some r):Ctr Tryz.prog 51 [roL 1 zab p0,.int .i64 (p1)] (.bool (r)):=by
 unfold zco at H
 refine Ctr.zam (N:=18) Tryz.func51 (by kernel_rfl) (c:=_) rfl Tryz.ntmps51 rfl (fun w0 h0 hval=>?_)
 refine W.rg env [0,1] [] ?_
 refine W.seq (W.rg env [0,1,5] [] ?_)
 refine W.block (At.kp [0,1,5] [] ?_)
 refine W.loopGo H (fun (s1:Int)=>[(0,roL 1 zab p0),(1,.int .i64 (p1)),(5,.int .i64 (s1))]) (fun (s1:Int)=>[]) (.cons .q (.cons .qi (.cons .qi .nil))) .nil (fun k1 s1 H K0 hK1=>?_)
 refine W.seq (W.rg env [0,1,5,9] [] ?_)
 refine W.cond rfl (fun hb2=>?_) (fun hb2=>?_)
 · have H:=zag H hb2
   refine W.skip (At.zad (W.seq (W.block ?_)))
   obtain ⟨hc3,H⟩:=zaa H
   refine W.sr env [] [] [0,1,5,17] [] rfl rfl rfl (.cons hc3 .nil) .nil ?_
   refine W.cond rfl (fun hb4=>?_) (fun hb4=>?_)
   · have H:=zag H hb4
     refine W.rg env [4] [] ?_
     refine W.ret (At.rinb ?_)
     refine At.rthen ?_
     refine At.rthen ?_
     refine At.rinb ?_
     refine At.rthen ?_
     cases H
     exact At.ret env.ty rfl rfl nofun (.refl _) hval
   · have H:=zaf H hb4
     refine W.skip (At.inb (At.zad ?_))
     obtain ⟨hc5,H⟩:=zaa H
     refine W.region env [] [] rfl rfl rfl (.cons hc5 .nil) .nil (At.kp [0,1,5] [] ?_)
     refine At.zaD (At.kp [0,1,5] [] ?_)
     exact At.conv (.cons .q (.cons .qi (.cons .qi .nil))) .nil (hK1 (s1+1) H)
 · have H:=zaf H hb2
   refine W.exit (At.xthen (At.xthen (At.xhere (At.zad (W.rg env [4] [] ?_)))))
   refine W.ret ?_
   cases H
   exact At.ret env.ty rfl rfl nofun (.refl _) hval
theorem zey (fuel:Nat) (p0:gasolierref06_Raw) (p1:(Arr3 Int)) {r:Bool} (H:zaZ fuel p0 p1=some r):Ctr Tryz.prog 10 [.agg [roL 2 zcT p0.Batches,roL 4 za7 p0.Mantles,roL 5 zcS p0.Burns,roL 4 za7 p0.Looks],.agg [.int .i64 (p1.x0),.int .i64 (p1.x1),.int .i64 (p1.x2)]] (.bool (r)):=by
 unfold zaZ at H
 refine Ctr.zam (N:=228) Tryz.func10 (by kernel_rfl) (c:=_) rfl Tryz.ntmps10 rfl (fun w0 h0 hval=>?_)
 refine W.rg env [2,3] [2,3] ?_
 refine W.seq ?_
 obtain ⟨y1,hy2,H⟩:=zac H
 refine W.region env [] [⟨.bool (y1),[],0,[]⟩] rfl rfl rfl .nil (.free (zgA 20000 hy2) .nil) (At.kp [2,3,5] [2,3] ?_)
 refine At.zad (W.seq ?_)
 obtain ⟨y3,hy4,H⟩:=zac H
 refine W.region env [] [⟨.int .i64 (y3),[],0,[]⟩] rfl rfl rfl (.cons (by decide) .nil) (.free (zaw p1.x0 11 hy4) .nil) (At.kp [2,3,5,6] [2,3] ?_)
 refine At.zad (W.seq ?_)
 obtain ⟨y5,hy6,H⟩:=zac H
 refine W.region env [] [⟨.int .i64 (y5),[],0,[]⟩] rfl rfl rfl (.cons (by decide) .nil) (.free (zaw p1.x1 13 hy6) .nil) (At.kp [2,3,5,6,7] [2,3] ?_)
 refine At.zad (W.seq ?_)
 obtain ⟨y7,hy8,H⟩:=zac H
 refine W.region env [] [⟨.tup [.agg (zar y7.1),.agg [roL 1 zab y7.2.Lives,roL 1 zab y7.2.Minutes]],[],0,[]⟩] rfl rfl rfl .nil (.free (Ctr.sim (.cons (.refl _) (.cons (Sim.nil _ _) .nil)) (zgz fuel p0 [] hy8)) .nil) (At.kp [3,5,6,7,8] [3,8] ?_)
 refine At.zad (W.seq ?_)
 obtain ⟨hc9,H⟩:=zaa H
 refine W.region env [39] [] rfl rfl rfl (.cons (⟨by first|rfl|(simp;done)|omega|(simp;omega),by have:=hc9;first|simpa using this|(unfold room at this ⊢;simp at this ⊢;omega)⟩) .nil) .nil (At.kp [3,5,6,7,8,10] [3,8,10,39] ?_)
 refine At.zaX (.cons (.refl _) (.cons (.refl _) (.cons (.refl _) (.cons (y:=bufL 31 3 zav (([]:List Batch)++y7.1.Batches)) (BSim.seg (Seg.push (Seg.lit (f:=zav) (sz:=3) ([]:List Batch) rfl rfl (fun _=>rfl)) (Seg.refl zav y7.1.Batches))) .nil)))) ?_
 refine At.zad (W.seq (W.rg env [3,5,6,7,8,10,11] [3,8,10,39] ?_))
 refine W.block (At.zbM 10 1 1101 33 6 (e:=fun i=>zaj (([]:List Mantle).getD i default)) rfl rfl rfl ?_)
 refine At.kp [3,5,6,7,8,10,11] [3,8,10,39,1101] ?_
 refine W.loopGo H (fun (s10:Int×(List Mantle))=>[(3,.lp 3 0),(5,.bool (y1)),(6,.int .i64 (y3)),(7,.int .i64 (y5)),(8,.lp 8 0),(10,.lp 10 0),(11,.int .i64 (s10.1))]) (fun (s10:Int×(List Mantle))=>[(3,.cells [.int .i64 (p1.x0),.int .i64 (p1.x1),.int .i64 (p1.x2)]),(8,.cells (zar y7.1)),(10,.cells [.buf 39 ((([]:List Batch)++y7.1.Batches)).length,.buf 1101 (s10.2).length,.nilS,.nilS]),(39,bufL 31 3 zav (([]:List Batch)++y7.1.Batches)),(1101,bufL 33 6 zaj s10.2)]) (.cons .q (.cons .q (.cons .qi (.cons .qi (.cons .q (.cons .q (.cons .qi .nil))))))) (.cons .q (.cons .q (.cons (BSim.cells (.cons .qc (.cons .qc (.cons (by first|exact Sim.refl _|exact Sim.nil _ _) (.cons (by first|exact Sim.refl _|exact Sim.nil _ _) .nil))))) (.cons .q (.cons .q .nil))))) (fun k10 s10 H K0 hK10=>?_)
 refine W.seq (W.rg env [3,5,6,7,8,10,11,48] [3,8,10,39,1101] ?_)
 refine W.cond rfl (fun hb11=>?_) (fun hb11=>?_)
 · have H:=zag H hb11
   refine W.skip (At.zad (W.seq (W.block ?_)))
   obtain ⟨hc12,H⟩:=zaa H
   refine W.sr env [] [] [3,5,6,7,8,10,11,58] [3,8,10,39,1101] rfl rfl rfl (.cons hc12 .nil) .nil ?_
   refine W.cond rfl (fun hb13=>?_) (fun hb13=>?_)
   · have H:=zag H hb13
     obtain ⟨hc14,H⟩:=zaa H
     obtain ⟨hc15,H⟩:=zaa H
     refine W.region env [] [] rfl rfl (by first|rfl|kernel_rfl) (.cons hc14 (.cons (⟨by first|rfl|(simp;done)|omega|(simp;omega),by have:=hc15;first|simpa using this|(unfold room at this ⊢;simp at this ⊢;omega)⟩) .nil)) .nil (At.kp [3,5,6,7,8,10,11] [3,8,10,39,1101] ?_)
     refine At.zaX (.cons (.refl _) (.cons (.refl _) (.cons (.refl _) (.cons (.refl _) (.cons (y:=bufL 33 6 zaj (s10.2++([(y7.1.Mantles.getD (s10.1).toNat default)]:List Mantle))) (BSim.seg (Seg.push (Seg.refl zaj _) (Seg.lit (f:=zaj) (sz:=6) ([(y7.1.Mantles.getD (s10.1).toNat default)]:List Mantle) rfl rfl (fun _=>rfl)))) .nil))))) ?_
     refine At.inb (At.zad ?_)
     obtain ⟨hc16,H⟩:=zaa H
     refine W.region env [] [] rfl rfl rfl (.cons hc16 .nil) .nil (At.kp [3,5,6,7,8,10,11] [3,8,10,39,1101] ?_)
     refine At.zaD (At.kp [3,5,6,7,8,10,11] [3,8,10,39,1101] ?_)
     exact At.conv (.cons .q (.cons .q (.cons .qi (.cons .qi (.cons .q (.cons .q (.cons .qi .nil))))))) (.cons .q (.cons .q (.cons (BSim.cells (.cons .qc (.cons .qc (.cons (by first|exact Sim.refl _|exact Sim.nil _ _) (.cons (by first|exact Sim.refl _|exact Sim.nil _ _) .nil))))) (.cons .q (.cons .q .nil))))) (hK10 ((s10.1+1),(s10.2++([(y7.1.Mantles.getD (s10.1).toNat default)]:List Mantle))) H)
   · have H:=zaf H hb13
     refine W.skip (At.inb (At.zad ?_))
     obtain ⟨hc17,H⟩:=zaa H
     refine W.region env [] [] rfl rfl rfl (.cons hc17 .nil) .nil (At.kp [3,5,6,7,8,10,11] [3,8,10,39,1101] ?_)
     refine At.zaD (At.kp [3,5,6,7,8,10,11] [3,8,10,39,1101] ?_)
     exact At.conv (.cons .q (.cons .q (.cons .qi (.cons .qi (.cons .q (.cons .q (.cons .qi .nil))))))) (.cons .q (.cons .q (.cons (BSim.cells (.cons .qc (.cons .qc (.cons (by first|exact Sim.refl _|exact Sim.nil _ _) (.cons (by first|exact Sim.refl _|exact Sim.nil _ _) .nil))))) (.cons .q (.cons .q .nil))))) (hK10 ((s10.1+1),s10.2) H)
 · have H:=zaf H hb11
   refine W.exit (At.xthen (At.xthen (At.xhere (At.zad (W.seq (W.rg env [3,5,6,7,8,10,12] [3,8,10,39,1101] ?_))))))
   refine W.block (At.zbM 10 2 1102 35 7 (e:=fun i=>zas (([]:List Burn).getD i default)) rfl rfl rfl ?_)
   refine At.kp [3,5,6,7,8,10,12] [3,8,10,39,1101,1102] ?_
   refine W.loopGo H (fun (s18:Int×(List Burn))=>[(3,.lp 3 0),(5,.bool (y1)),(6,.int .i64 (y3)),(7,.int .i64 (y5)),(8,.lp 8 0),(10,.lp 10 0),(12,.int .i64 (s18.1))]) (fun (s18:Int×(List Burn))=>[(3,.cells [.int .i64 (p1.x0),.int .i64 (p1.x1),.int .i64 (p1.x2)]),(8,.cells (zar y7.1)),(10,.cells [.buf 39 ((([]:List Batch)++y7.1.Batches)).length,.buf 1101 (s10.2).length,.buf 1102 (s18.2).length,.nilS]),(39,bufL 31 3 zav (([]:List Batch)++y7.1.Batches)),(1101,bufL 33 6 zaj s10.2),(1102,bufL 35 7 zas s18.2)]) (.cons .q (.cons .q (.cons .qi (.cons .qi (.cons .q (.cons .q (.cons .qi .nil))))))) (.cons .q (.cons .q (.cons (BSim.cells (.cons .qc (.cons .qc (.cons .qc (.cons (by first|exact Sim.refl _|exact Sim.nil _ _) .nil))))) (.cons .q (.cons .q (.cons .q .nil)))))) (fun k18 s18 H K0 hK18=>?_)
   refine W.seq (W.rg env [3,5,6,7,8,10,12,73] [3,8,10,39,1101,1102] ?_)
   refine W.cond rfl (fun hb19=>?_) (fun hb19=>?_)
   · have H:=zag H hb19
     refine W.skip (At.zad (W.seq (W.block ?_)))
     obtain ⟨hc20,H⟩:=zaa H
     refine W.sr env [] [] [3,5,6,7,8,10,12,83] [3,8,10,39,1101,1102] rfl rfl rfl (.cons hc20 .nil) .nil ?_
     refine W.cond rfl (fun hb21=>?_) (fun hb21=>?_)
     · have H:=zag H hb21
       obtain ⟨hc22,H⟩:=zaa H
       obtain ⟨hc23,H⟩:=zaa H
       refine W.region env [] [] rfl rfl (by first|rfl|kernel_rfl) (.cons hc22 (.cons (⟨by first|rfl|(simp;done)|omega|(simp;omega),by have:=hc23;first|simpa using this|(unfold room at this ⊢;simp at this ⊢;omega)⟩) .nil)) .nil (At.kp [3,5,6,7,8,10,12] [3,8,10,39,1101,1102] ?_)
       refine At.zaX (.cons (.refl _) (.cons (.refl _) (.cons (.refl _) (.cons (.refl _) (.cons (.refl _) (.cons (y:=bufL 35 7 zas (s18.2++([(y7.1.Burns.getD (s18.1).toNat default)]:List Burn))) (BSim.seg (Seg.push (Seg.refl zas _) (Seg.lit (f:=zas) (sz:=7) ([(y7.1.Burns.getD (s18.1).toNat default)]:List Burn) rfl rfl (fun _=>rfl)))) .nil)))))) ?_
       refine At.inb (At.zad ?_)
       obtain ⟨hc24,H⟩:=zaa H
       refine W.region env [] [] rfl rfl rfl (.cons hc24 .nil) .nil (At.kp [3,5,6,7,8,10,12] [3,8,10,39,1101,1102] ?_)
       refine At.zaD (At.kp [3,5,6,7,8,10,12] [3,8,10,39,1101,1102] ?_)
       exact At.conv (.cons .q (.cons .q (.cons .qi (.cons .qi (.cons .q (.cons .q (.cons .qi .nil))))))) (.cons .q (.cons .q (.cons (BSim.cells (.cons .qc (.cons .qc (.cons .qc (.cons (by first|exact Sim.refl _|exact Sim.nil _ _) .nil))))) (.cons .q (.cons .q (.cons .q .nil)))))) (hK18 ((s18.1+1),(s18.2++([(y7.1.Burns.getD (s18.1).toNat default)]:List Burn))) H)
     · have H:=zaf H hb21
       refine W.skip (At.inb (At.zad ?_))
       obtain ⟨hc25,H⟩:=zaa H
       refine W.region env [] [] rfl rfl rfl (.cons hc25 .nil) .nil (At.kp [3,5,6,7,8,10,12] [3,8,10,39,1101,1102] ?_)
       refine At.zaD (At.kp [3,5,6,7,8,10,12] [3,8,10,39,1101,1102] ?_)
       exact At.conv (.cons .q (.cons .q (.cons .qi (.cons .qi (.cons .q (.cons .q (.cons .qi .nil))))))) (.cons .q (.cons .q (.cons (BSim.cells (.cons .qc (.cons .qc (.cons .qc (.cons (by first|exact Sim.refl _|exact Sim.nil _ _) .nil))))) (.cons .q (.cons .q (.cons .q .nil)))))) (hK18 ((s18.1+1),s18.2) H)
   · have H:=zaf H hb19
     refine W.exit (At.xthen (At.xthen (At.xhere (At.zad (W.seq (W.rg env [3,5,6,7,8,10,13] [3,8,10,39,1101,1102] ?_))))))
     refine W.block (At.zbM 10 3 1103 37 6 (e:=fun i=>zak (([]:List Look).getD i default)) rfl rfl rfl ?_)
     refine At.kp [3,5,6,7,8,10,13] [3,8,10,39,1101,1102,1103] ?_
     refine W.loopGo H (fun (s26:Int×(List Look))=>[(3,.lp 3 0),(5,.bool (y1)),(6,.int .i64 (y3)),(7,.int .i64 (y5)),(8,.lp 8 0),(10,.lp 10 0),(13,.int .i64 (s26.1))]) (fun (s26:Int×(List Look))=>[(3,.cells [.int .i64 (p1.x0),.int .i64 (p1.x1),.int .i64 (p1.x2)]),(8,.cells (zar y7.1)),(10,.cells [.buf 39 ((([]:List Batch)++y7.1.Batches)).length,.buf 1101 (s10.2).length,.buf 1102 (s18.2).length,.buf 1103 (s26.2).length]),(39,bufL 31 3 zav (([]:List Batch)++y7.1.Batches)),(1101,bufL 33 6 zaj s10.2),(1102,bufL 35 7 zas s18.2),(1103,bufL 37 6 zak s26.2)]) (.cons .q (.cons .q (.cons .qi (.cons .qi (.cons .q (.cons .q (.cons .qi .nil))))))) (.cons .q (.cons .q (.cons (BSim.cells (.cons .qc (.cons .qc (.cons .qc (.cons .qc .nil))))) (.cons .q (.cons .q (.cons .q (.cons .q .nil))))))) (fun k26 s26 H K0 hK26=>?_)
     refine W.seq (W.rg env [3,5,6,7,8,10,13,98] [3,8,10,39,1101,1102,1103] ?_)
     refine W.cond rfl (fun hb27=>?_) (fun hb27=>?_)
     · have H:=zag H hb27
       refine W.skip (At.zad (W.seq (W.block ?_)))
       obtain ⟨hc28,H⟩:=zaa H
       refine W.sr env [] [] [3,5,6,7,8,10,13,108] [3,8,10,39,1101,1102,1103] rfl rfl rfl (.cons hc28 .nil) .nil ?_
       refine W.cond rfl (fun hb29=>?_) (fun hb29=>?_)
       · have H:=zag H hb29
         obtain ⟨hc30,H⟩:=zaa H
         obtain ⟨hc31,H⟩:=zaa H
         refine W.region env [] [] rfl rfl (by first|rfl|kernel_rfl) (.cons hc30 (.cons (⟨by first|rfl|(simp;done)|omega|(simp;omega),by have:=hc31;first|simpa using this|(unfold room at this ⊢;simp at this ⊢;omega)⟩) .nil)) .nil (At.kp [3,5,6,7,8,10,13] [3,8,10,39,1101,1102,1103] ?_)
         refine At.zaX (.cons (.refl _) (.cons (.refl _) (.cons (.refl _) (.cons (.refl _) (.cons (.refl _) (.cons (.refl _) (.cons (y:=bufL 37 6 zak (s26.2++([(y7.1.Looks.getD (s26.1).toNat default)]:List Look))) (BSim.seg (Seg.push (Seg.refl zak _) (Seg.lit (f:=zak) (sz:=6) ([(y7.1.Looks.getD (s26.1).toNat default)]:List Look) rfl rfl (fun _=>rfl)))) .nil))))))) ?_
         refine At.inb (At.zad ?_)
         obtain ⟨hc32,H⟩:=zaa H
         refine W.region env [] [] rfl rfl rfl (.cons hc32 .nil) .nil (At.kp [3,5,6,7,8,10,13] [3,8,10,39,1101,1102,1103] ?_)
         refine At.zaD (At.kp [3,5,6,7,8,10,13] [3,8,10,39,1101,1102,1103] ?_)
         exact At.conv (.cons .q (.cons .q (.cons .qi (.cons .qi (.cons .q (.cons .q (.cons .qi .nil))))))) (.cons .q (.cons .q (.cons (BSim.cells (.cons .qc (.cons .qc (.cons .qc (.cons .qc .nil))))) (.cons .q (.cons .q (.cons .q (.cons .q .nil))))))) (hK26 ((s26.1+1),(s26.2++([(y7.1.Looks.getD (s26.1).toNat default)]:List Look))) H)
       · have H:=zaf H hb29
         refine W.skip (At.inb (At.zad ?_))
         obtain ⟨hc33,H⟩:=zaa H
         refine W.region env [] [] rfl rfl rfl (.cons hc33 .nil) .nil (At.kp [3,5,6,7,8,10,13] [3,8,10,39,1101,1102,1103] ?_)
         refine At.zaD (At.kp [3,5,6,7,8,10,13] [3,8,10,39,1101,1102,1103] ?_)
         exact At.conv (.cons .q (.cons .q (.cons .qi (.cons .qi (.cons .q (.cons .q (.cons .qi .nil))))))) (.cons .q (.cons .q (.cons (BSim.cells (.cons .qc (.cons .qc (.cons .qc (.cons .qc .nil))))) (.cons .q (.cons .q (.cons .q (.cons .q .nil))))))) (hK26 ((s26.1+1),s26.2) H)
     · have H:=zaf H hb27
       refine W.exit (At.xthen (At.xthen (At.xhere (At.zad (W.seq ?_)))))
       obtain ⟨y34,hy35,H⟩:=zac H
       obtain ⟨hc36,H⟩:=zaa H
       obtain ⟨hc37,H⟩:=zaa H
       obtain ⟨y38,hy39,H⟩:=zac H
       obtain ⟨hc40,H⟩:=zaa H
       refine W.region env [33554555] [⟨.int .i64 (y34),[],0,[]⟩,⟨.int .i64 (y38),[],0,[]⟩] rfl rfl (by kernel_rfl) (.cons (by decide) (.cons (⟨hc36.1,hc36.2,by have:=hc36;simp;omega⟩) (.cons (by decide) (.cons hc37 (.cons hc40 .nil))))) (.free (zaw p1.x2 3 hy35) (.free (zaw (Int.tdiv p1.x2 3) 7 hy39) .nil)) (At.kp [5,6,7,8,10,14] [8,10,39,1101,1102,1103] ?_)
       refine At.zad (W.seq ?_)
       obtain ⟨y41,hy42,H⟩:=zac H
       refine W.region env [] [⟨.tup [.agg (zar y41.1),.bool (y41.2)],[],0,[]⟩] rfl rfl rfl .nil (.free (zfn fuel y7.1 ((([1,20,50]:List Int).getD ((y34).toNat) 0)+y38) hy42) .nil) (At.kp [5,6,7,8,10,14,15,16] [8,10,15,39,1101,1102,1103] ?_)
       refine At.zad (W.seq ?_)
       obtain ⟨y43,hy44,H⟩:=zac H
       refine W.region env [] [⟨.tup [roL 1 zab y43.1,.int .i64 (y43.2)],[],0,[]⟩] rfl rfl rfl .nil (.free (zju fuel y7.1 ((([1,20,50]:List Int).getD ((y34).toNat) 0)+y38) y3 y5 hy44) .nil) (At.kp [5,6,7,8,10,15,16,17,18] [8,10,15,39,1101,1102,1103] ?_)
       refine At.zad (W.seq (W.sr env [] [] [6,7,8,10,15,16,17,158] [8,10,15,39,1101,1102,1103] rfl rfl rfl (.cons id (.cons id (.cons id (.cons (fun h=>by rw [h];rfl) (.cons id (.cons id (.cons id (.cons id (.cons (fun hW h=>by revert hW h;first|(simp +contextual;done)|grind) (.cons (fun h=>by rw [h];rfl) .nil)))))))))) .nil ?_))
       refine W.cond rfl (fun hb45=>?_) (fun hb45=>?_)
       · have H:=zag H hb45
         refine W.rg env [4] [] ?_
         refine W.ret (At.rthen ?_)
         cases H
         exact At.ret env.ty rfl rfl nofun (.refl _) hval
       · have H:=zaf H hb45
         refine W.skip (At.zad (W.seq ?_))
         obtain ⟨y46,hy47,H⟩:=zac H
         refine W.region env [] [⟨roL 1 zab y46,[],0,[]⟩] rfl rfl rfl .nil (.free (zf9 fuel y7.1 hy47) .nil) (At.kp [6,7,8,10,15,16,17,19] [8,10,15,39,1101,1102,1103] ?_)
         refine At.zad (W.seq (W.rg env [6,7,8,10,15,16,17,19,20] [8,10,15,39,1101,1102,1103] ?_))
         refine W.block (At.kp [6,7,8,10,15,16,17,19,20] [8,10,15,39,1101,1102,1103] ?_)
         refine W.loopGo H (fun (s48:Int)=>[(6,.int .i64 (y3)),(7,.int .i64 (y5)),(8,.lp 8 0),(10,.lp 10 0),(15,.lp 15 0),(16,.bool (y41.2)),(17,roL 1 zab y43.1),(19,roL 1 zab y46),(20,.int .i64 (s48))]) (fun (s48:Int)=>[(8,.cells (zar y7.1)),(10,.cells [.buf 39 ((([]:List Batch)++y7.1.Batches)).length,.buf 1101 (s10.2).length,.buf 1102 (s18.2).length,.buf 1103 (s26.2).length]),(15,.cells (zar y41.1)),(39,bufL 31 3 zav (([]:List Batch)++y7.1.Batches)),(1101,bufL 33 6 zaj s10.2),(1102,bufL 35 7 zas s18.2),(1103,bufL 37 6 zak s26.2)]) (.cons .qi (.cons .qi (.cons .q (.cons .q (.cons .q (.cons .q (.cons .q (.cons .q (.cons .qi .nil))))))))) (.cons .q (.cons (BSim.cells (.cons .qc (.cons .qc (.cons .qc (.cons .qc .nil))))) (.cons .q (.cons .q (.cons .q (.cons .q (.cons .q .nil))))))) (fun k48 s48 H K0 hK48=>?_)
         refine W.seq (W.rg env [6,7,8,10,15,16,17,19,20,164] [8,10,15,39,1101,1102,1103] ?_)
         refine W.cond rfl (fun hb49=>?_) (fun hb49=>?_)
         · have H:=zag H hb49
           refine W.skip (At.zad (W.seq (W.block (W.seq ?_))))
           obtain ⟨hc50,H⟩:=zaa H
           obtain ⟨y51,hy52,H⟩:=zac H
           refine W.region env [] [⟨.tup [.int .i64 (y51.1),.int .i64 (y51.2)],[],0,[]⟩] rfl rfl (by kernel_rfl) (.cons hc50 .nil) (.free (zcf fuel y7.1 (y46.getD (s48).toNat default) y3 y5 hy52) .nil) (At.kp [6,7,8,10,15,16,17,19,20,21,22] [8,10,15,39,1101,1102,1103] ?_)
           refine At.zad (W.seq ?_)
           obtain ⟨hc53,H⟩:=zaa H
           obtain ⟨y54,hy55,H⟩:=zac H
           refine W.region env [] [⟨.tup [.int .i64 (y54.1),.int .i64 (y54.2)],[],0,[]⟩] rfl rfl (by kernel_rfl) (.cons hc53 (.cons (by (repeat' apply And.intro) <;> first|rfl|(simp;done)|omega|(simp;omega)) .nil)) (.free (zcf fuel (⟨(([]:List Batch)++y7.1.Batches),s10.2,s18.2,s26.2⟩:Wear) (y46.getD (s48).toNat default) y3 y5 hy55) .nil) (At.kp [6,7,8,10,15,16,17,19,20,21,22,23,24] [8,10,15,39,1101,1102,1103] ?_)
           refine At.zad (W.seq ?_)
           obtain ⟨hc56,H⟩:=zaa H
           obtain ⟨y57,hy58,H⟩:=zac H
           refine W.region env [] [⟨.tup [.int .i64 (y57.1),.int .i64 (y57.2)],[],0,[]⟩] rfl rfl (by kernel_rfl) (.cons hc56 .nil) (.free (zcf fuel y41.1 (y46.getD (s48).toNat default) y3 y5 hy58) .nil) (At.kp [6,7,8,10,15,16,17,19,20,21,22,23,24,25,26] [8,10,15,39,1101,1102,1103] ?_)
           refine At.zad (W.seq ?_)
           obtain ⟨hc59,H⟩:=zaa H
           obtain ⟨y60,hy61,H⟩:=zac H
           refine W.region env [] [⟨.bool (y60),[],0,[]⟩] rfl rfl rfl (.cons id (.cons id (.cons (fun h=>by rw [h];rfl) (.cons id (.cons hc59 (.cons id (.cons id (.cons id (.cons id (.cons id (.cons id (.cons id (.cons id (.cons id (.cons id (.cons id (.cons (fun hW h=>by revert hW h;first|(simp +contextual;done)|grind) (.cons id (.cons id (.cons id (.cons (fun hW h=>by revert hW h;first|(simp +contextual;done)|grind) (.cons (fun h=>by rw [h];rfl) .nil)))))))))))))))))))))) (.on (fun hW=>zgZ fuel y43.1 (y46.getD (s48).toNat default) (zag hy61 hW)) .nil) (At.kp [6,7,8,10,15,16,17,19,20,227] [8,10,15,39,1101,1102,1103] ?_)
           refine At.zad (W.cond rfl (fun hb62=>?_) (fun hb62=>?_))
           · have H:=zag H hb62
             refine W.rg env [4] [] ?_
             refine W.ret (At.rinb ?_)
             refine At.rthen ?_
             refine At.rthen ?_
             refine At.rinb ?_
             refine At.rthen ?_
             cases H
             exact At.ret env.ty rfl rfl nofun (.refl _) hval
           · have H:=zaf H hb62
             refine W.skip (At.inb (At.zad ?_))
             obtain ⟨hc63,H⟩:=zaa H
             refine W.region env [] [] rfl rfl rfl (.cons hc63 .nil) .nil (At.kp [6,7,8,10,15,16,17,19,20] [8,10,15,39,1101,1102,1103] ?_)
             refine At.zaD (At.kp [6,7,8,10,15,16,17,19,20] [8,10,15,39,1101,1102,1103] ?_)
             exact At.conv (.cons .qi (.cons .qi (.cons .q (.cons .q (.cons .q (.cons .q (.cons .q (.cons .q (.cons .qi .nil))))))))) (.cons .q (.cons (BSim.cells (.cons .qc (.cons .qc (.cons .qc (.cons .qc .nil))))) (.cons .q (.cons .q (.cons .q (.cons .q (.cons .q .nil))))))) (hK48 (s48+1) H)
         · have H:=zaf H hb49
           refine W.exit (At.xthen (At.xthen (At.xhere (At.zad (W.rg env [4] [] ?_)))))
           refine W.ret ?_
           cases H
           exact At.ret env.ty rfl rfl nofun (.refl _) hval
end Go.Sp
