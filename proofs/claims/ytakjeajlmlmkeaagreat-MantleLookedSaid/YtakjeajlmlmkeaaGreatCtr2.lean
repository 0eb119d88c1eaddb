/- Printed by gen.py: contracts, part 2. -/
import Derived.Test.YtakjeajlmlmkeaaGreatCtr1
set_option linter.all false
set_option maxRecDepth 100000
set_option maxHeartbeats 1000000
namespace Go.Sp
open Go Go.Av Go.Proofs
theorem zg2 (p0:mantle_lot) (p1:Int) (p2:Bool) {r:(List (List Int))} (H:zdP p0 p1 p2=some r):Ctr Tryz.prog 163 [.agg (zap p0),.int .i64 (p1),.bool (p2)] (roL 1 zca r):=by
 unfold zdP at H
 refine Ctr.zal (N:=135) Tryz.func163 (by kernel_rfl) (c:=_) rfl Tryz.ntmps163 rfl (fun w0 h0 hval=>?_)
 refine W.rg env [1,2,3] [3] ?_
 refine W.rg env [1,2,3,7] [3] ?_
 refine W.seq (W.seq ?_)
 obtain ⟨y1,hy2,H⟩:=zab H
 refine W.region env [] [⟨roL 1 zac y1,[],0,[]⟩] rfl rfl rfl .nil (.free (zdM p0 hy2) .nil) (At.kp [1,2,3,7,22,23,24] [3] ?_)
 refine At.zad (W.block (At.zfO 7 507 3 1 (e:=fun i=>zac (([]:List Int).getD i default)) rfl rfl ?_))
 refine At.kp [1,2,3,7,22,23,24] [3,507] ?_
 refine W.len (t:=22) rfl (fun (hn3:y1.length≤maxLen)=>?_)
 refine W.zau H (fun i3 (s3:(List Int))=>[(1,.int .i64 (p1)),(2,.bool (p2)),(3,.lp 3 0),(7,.buf 507 (s3).length),(22,roL 1 zac y1),(23,.int .i64 (((y1.length:Nat):Int))),(24,.int .i64 ((i3:Int)))]) (fun i3 (s3:(List Int))=>[(3,.cells (zap p0)),(507,bufL 3 1 zac s3)]) (.cons .qi (.cons .q (.cons .q (.cons .qb (.cons .q (.cons .qi (.cons .qi .nil))))))) (.cons .q (.cons .q .nil)) (fun k3 i3 s3 hle3 H1 H2 K0 hK3=>?_)
 refine W.rg env [1,2,3,7,22,23,24,25] [3,507] ?_
 refine W.seq (W.cond rfl (fun hb4=>?_) (fun hb4=>?_))
 · have hi3:i3<y1.length:=by have:=of_decide_eq_true hb4;omega
   have H:=H1 hi3
   refine W.skip (At.zad (W.seq (W.block (W.sr env [] [] [1,2,3,7,9,22,23,24] [3,507] rfl rfl rfl (.cons (⟨by omega,by omega⟩:0≤(i3:Int)∧(i3:Int)<((y1.length:Nat):Int)) .nil) .nil ?_))))
   refine W.seq ?_
   obtain ⟨hc5,H⟩:=zaa H
   obtain ⟨y6,hy7,H⟩:=zab H
   refine W.region env [] [⟨.int .i64 (y6),[],0,[]⟩] rfl rfl (by kernel_rfl) (.cons hc5 .nil) (.free (zcD p0.closet (p0.mantles.getD ((y1.getD i3 default)).toNat default) hy7) .nil) (At.kp [1,2,3,7,9,22,23,24,37] [3,507] ?_)
   refine At.zad (W.cond rfl (fun hb8=>?_) (fun hb8=>?_))
   · have H:=zah H hb8
     obtain ⟨hc9,H⟩:=zaa H
     refine W.region env [] [] rfl rfl rfl (.cons (⟨by first|rfl|(simp;done)|omega|(simp;omega),by have:=hc9;first|simpa using this|(unfold room at this ⊢;simp at this ⊢;omega)⟩) .nil) .nil (At.kp [1,2,3,7,22,23,24] [3,507] ?_)
     refine At.zbj (.cons (.refl _) (.cons (y:=bufL 3 1 zac (s3++([(y1.getD i3 default)]:List Int))) (BSim.seg (Seg.push (Seg.refl zac _) (Seg.lit (f:=zac) (sz:=1) ([(y1.getD i3 default)]:List Int) rfl rfl (fun _=>rfl)))) .nil)) ?_
     refine At.inb (At.zad (W.region env [] [] rfl rfl rfl (.cons (by unfold inI;have:=hn3;(try unfold maxLen at this);omega) .nil) .nil (At.kp [1,2,3,7,22,23,24] [3,507] ?_)))
     refine At.zaM (At.kp [1,2,3,7,22,23,24] [3,507] ?_)
     exact At.conv (.cons .qi (.cons .q (.cons .q (.cons .qb (.cons .q (.cons .qi (.cons .qi .nil))))))) (.cons .q (.cons .q .nil)) (hK3 hi3 (s3++([(y1.getD i3 default)]:List Int)) H)
   · have H:=zaf H hb8
     refine W.skip (At.inb (At.zad (W.region env [] [] rfl rfl rfl (.cons (by unfold inI;have:=hn3;(try unfold maxLen at this);omega) .nil) .nil (At.kp [1,2,3,7,22,23,24] [3,507] ?_))))
     refine At.zaM (At.kp [1,2,3,7,22,23,24] [3,507] ?_)
     exact At.conv (.cons .qi (.cons .q (.cons .q (.cons .qb (.cons .q (.cons .qi (.cons .qi .nil))))))) (.cons .q (.cons .q .nil)) (hK3 hi3 s3 H)
 · have H:=H2 (by have:=of_decide_eq_false hb4;omega)
   refine W.exit (At.xthen (At.xthen (At.xhere (At.zad (W.seq ?_)))))
   obtain ⟨hc10,H⟩:=zaa H
   obtain ⟨hc11,H⟩:=zaa H
   refine W.region env [] [] rfl rfl rfl (.cons (by first|rfl|(simp;done)|omega|(simp;omega)) (.cons hc10 (.cons hc11 .nil))) .nil (At.kp [2,3,7,10] [3,46,507] ?_)
   refine At.zbj (.cons (.refl _) (.cons (y:=bufL 56 1 (encN 1 zac) (List.replicate ((((s3.length:Nat):Int)+1)).toNat ([]:(List Int)))) (BSim.madeN) (.cons (.refl _) .nil))) ?_
   refine At.zad (W.seq ?_)
   obtain ⟨hc12,H⟩:=zaa H
   obtain ⟨hc13,H⟩:=zaa H
   refine W.region env [] [] rfl rfl rfl (.cons (by first|rfl|(simp;done)|omega|(simp;omega)) (.cons hc12 (.cons hc13 .nil))) .nil (At.kp [2,3,7,10,11] [3,46,50,507] ?_)
   refine At.zbj (.cons (.refl _) (.cons (.refl _) (.cons (y:=bufL 3 1 zac (List.replicate ((((s3.length:Nat):Int)+1)).toNat (0:Int))) (BSim.seg (Seg.made (f:=zac) 0 rfl)) (.cons (.refl _) .nil)))) ?_
   refine At.zad (W.seq (W.sr env [] [] [2,3,7,10,11,51,52,53] [3,46,50,507] rfl rfl rfl (.cons (by first|rfl|(simp;done)|omega|(simp;omega)) .nil) .nil ?_))
   refine W.block (At.kp [2,3,7,10,11,51,52,53] [3,46,50,507] ?_)
   obtain ⟨hn14,H⟩:=zaa H
   refine W.zau H (fun i14 (s14:(List (List Int))×(List Int))=>[(2,.bool (p2)),(3,.lp 3 0),(7,.buf 507 (s3).length),(10,.buf 46 (s14.1).length),(11,.buf 50 (s14.2).length),(51,.buf 507 (s3).length),(52,.int .i64 (((s3.length:Nat):Int))),(53,.int .i64 ((i14:Int)))]) (fun i14 (s14:(List (List Int))×(List Int))=>[(3,.cells (zap p0)),(46,bufL 56 1 (encN 1 zac) s14.1),(50,bufL 3 1 zac s14.2),(507,bufL 3 1 zac s3)]) (.cons .q (.cons .q (.cons .qb (.cons .qb (.cons .qb (.cons .qb (.cons .qi (.cons .qi .nil)))))))) (.cons .q (.cons .q (.cons .q (.cons .q .nil)))) (fun k14 i14 s14 hle14 H1 H2 K0 hK14=>?_)
   refine W.rg env [2,3,7,10,11,51,52,53,54] [3,46,50,507] ?_
   refine W.seq (W.cond rfl (fun hb15=>?_) (fun hb15=>?_))
   · have hi14:i14<s3.length:=by have:=of_decide_eq_true hb15;omega
     have H:=H1 hi14
     refine W.skip (At.zad (W.seq (W.block (W.sr env [] [] [2,3,7,10,11,13,51,52,53] [3,46,50,507] rfl rfl rfl (.cons (⟨by first|rfl|(simp;done)|omega|(simp;omega),(⟨by omega,by omega⟩:0≤(i14:Int)∧(i14:Int)<((s3.length:Nat):Int))⟩) (.cons (⟨by first|rfl|(simp;done)|omega|(simp;omega),(by have:=(⟨by omega,by omega⟩:0≤(i14:Int)∧(i14:Int)<((s3.length:Nat):Int));first|omega|(simp only [List.length_set];omega)|(simp only [Int.toNat_natCast] at *;omega)|(simp at this ⊢;omega))⟩) .nil)) .nil ?_))))
     refine W.seq ?_
     obtain ⟨y16,hy17,H⟩:=zab H
     refine W.region env [] [⟨.agg (zap y16),[],0,[]⟩] rfl rfl rfl .nil (.free (Ctr.sim (.cons (.refl _) (.cons (Sim.lit (f:=zac) ([(s3.getD i14 default)]:List Int) rfl rfl (fun _=>rfl)) (.cons (.refl _) .nil))) (zde p0 ([(s3.getD i14 default)]:List Int) p2 hy17)) .nil) (At.kp [2,3,7,10,11,13,14,51,52,53] [3,14,46,50,507] ?_)
     refine At.zad (W.rg env [2,3,7,10,11,13,14,15,51,52,53] [3,14,46,50,507] ?_)
     refine W.seq (W.sr env [] [] [2,3,7,10,11,13,14,15,51,52,53,62,63,64] [3,14,46,50,507] rfl rfl rfl (.cons (by first|rfl|(simp;done)|omega|(simp;omega)) .nil) .nil ?_)
     refine W.block (At.zfO 15 515 3 1 (e:=fun i=>zac (([]:List Int).getD i default)) rfl rfl ?_)
     refine At.kp [2,3,7,10,11,13,14,15,51,52,53,62,63,64] [3,14,46,50,507,515] ?_
     obtain ⟨hn18,H⟩:=zaa H
     refine W.zau H (fun i18 (s18:(List Int))=>[(2,.bool (p2)),(3,.lp 3 0),(7,.buf 507 (s3).length),(10,.buf 46 (s14.1).length),(11,.buf 50 (s14.2).length),(13,.int .i64 ((s3.getD i14 default))),(14,.lp 14 0),(15,.buf 515 (s18).length),(51,.buf 507 (s3).length),(52,.int .i64 (((s3.length:Nat):Int))),(53,.int .i64 ((i14:Int))),(62,.buf 507 (s3).length),(63,.int .i64 (((s3.length:Nat):Int))),(64,.int .i64 ((i18:Int)))]) (fun i18 (s18:(List Int))=>[(3,.cells (zap p0)),(14,.cells (zap y16)),(46,bufL 56 1 (encN 1 zac) s14.1),(50,bufL 3 1 zac s14.2),(507,bufL 3 1 zac s3),(515,bufL 3 1 zac s18)]) (.cons .q (.cons .q (.cons .qb (.cons .qb (.cons .qb (.cons .qi (.cons .q (.cons .qb (.cons .qb (.cons .qi (.cons .qi (.cons .qb (.cons .qi (.cons .qi .nil)))))))))))))) (.cons .q (.cons .q (.cons .q (.cons .q (.cons .q (.cons .q .nil)))))) (fun k18 i18 s18 hle18 H1 H2 K0 hK18=>?_)
     refine W.rg env [2,3,7,10,11,13,14,15,51,52,53,62,63,64,65] [3,14,46,50,507,515] ?_
     refine W.seq (W.cond rfl (fun hb19=>?_) (fun hb19=>?_))
     · have hi18:i18<s3.length:=by have:=of_decide_eq_true hb19;omega
       have H:=H1 hi18
       refine W.skip (At.zad (W.seq (W.block (W.sr env [] [] [2,3,7,10,11,13,14,15,17,51,52,53,62,63,64] [3,14,46,50,507,515] rfl rfl rfl (.cons (⟨by first|rfl|(simp;done)|omega|(simp;omega),(⟨by omega,by omega⟩:0≤(i18:Int)∧(i18:Int)<((s3.length:Nat):Int))⟩) (.cons (⟨by first|rfl|(simp;done)|omega|(simp;omega),(by have:=(⟨by omega,by omega⟩:0≤(i18:Int)∧(i18:Int)<((s3.length:Nat):Int));first|omega|(simp only [List.length_set];omega)|(simp only [Int.toNat_natCast] at *;omega)|(simp at this ⊢;omega))⟩) .nil)) .nil ?_))))
       refine W.seq ?_
       obtain ⟨hc20,H⟩:=zaa H
       obtain ⟨y21,hy22,H⟩:=zab H
       refine W.region env [] [⟨.int .i64 (y21),[],0,[]⟩] rfl rfl (by kernel_rfl) (.cons id (.cons id (.cons hc20 (.cons id (.cons id (.cons id (.cons id (.cons id (.cons id (.cons id (.cons id (.cons id .nil)))))))))))) (.on (fun hW=>zbz y16.closet (p0.mantles.getD ((s3.getD i18 default)).toNat default) p0.night (zah hy22 hW)) .nil) (At.kp [2,3,7,10,11,13,14,15,17,51,52,53,62,63,64,83] [3,14,46,50,507,515] ?_)
       refine At.zad (W.cond rfl (fun hb23=>?_) (fun hb23=>?_))
       · have H:=zah H hb23
         obtain ⟨hc24,H⟩:=zaa H
         refine W.region env [] [] rfl rfl rfl (.cons (⟨by first|rfl|(simp;done)|omega|(simp;omega),by have:=hc24;first|simpa using this|(unfold room at this ⊢;simp at this ⊢;omega)⟩) .nil) .nil (At.kp [2,3,7,10,11,13,14,15,51,52,53,62,63,64] [3,14,46,50,507,515] ?_)
         refine At.zbj (.cons (.refl _) (.cons (.refl _) (.cons (.refl _) (.cons (.refl _) (.cons (.refl _) (.cons (y:=bufL 3 1 zac (s18++([(s3.getD i18 default)]:List Int))) (BSim.seg (Seg.push (Seg.refl zac _) (Seg.lit (f:=zac) (sz:=1) ([(s3.getD i18 default)]:List Int) rfl rfl (fun _=>rfl)))) .nil)))))) ?_
         refine At.inb (At.zad (W.region env [] [] rfl rfl rfl (.cons (by unfold inI;have:=hn18;(try unfold maxLen at this);omega) .nil) .nil (At.kp [2,3,7,10,11,13,14,15,51,52,53,62,63,64] [3,14,46,50,507,515] ?_)))
         refine At.zaM (At.kp [2,3,7,10,11,13,14,15,51,52,53,62,63,64] [3,14,46,50,507,515] ?_)
         exact At.conv (.cons .q (.cons .q (.cons .qb (.cons .qb (.cons .qb (.cons .qi (.cons .q (.cons .qb (.cons .qb (.cons .qi (.cons .qi (.cons .qb (.cons .qi (.cons .qi .nil)))))))))))))) (.cons .q (.cons .q (.cons .q (.cons .q (.cons .q (.cons .q .nil)))))) (hK18 hi18 (s18++([(s3.getD i18 default)]:List Int)) H)
       · have H:=zaf H hb23
         refine W.skip (At.inb (At.zad (W.region env [] [] rfl rfl rfl (.cons (by unfold inI;have:=hn18;(try unfold maxLen at this);omega) .nil) .nil (At.kp [2,3,7,10,11,13,14,15,51,52,53,62,63,64] [3,14,46,50,507,515] ?_))))
         refine At.zaM (At.kp [2,3,7,10,11,13,14,15,51,52,53,62,63,64] [3,14,46,50,507,515] ?_)
         exact At.conv (.cons .q (.cons .q (.cons .qb (.cons .qb (.cons .qb (.cons .qi (.cons .q (.cons .qb (.cons .qb (.cons .qi (.cons .qi (.cons .qb (.cons .qi (.cons .qi .nil)))))))))))))) (.cons .q (.cons .q (.cons .q (.cons .q (.cons .q (.cons .q .nil)))))) (hK18 hi18 s18 H)
     · have H:=H2 (by have:=of_decide_eq_false hb19;omega)
       refine W.exit (At.xthen (At.xthen (At.xhere (At.zad ?_))))
       obtain ⟨hc25,H⟩:=zaa H
       refine W.sr env [] [] [2,3,7,10,11,13,15,51,52,53,91,92] [3,46,50,507,515] rfl rfl rfl (.cons (by first|rfl|(simp;done)|omega|(simp;omega)) (.cons hc25 .nil)) .nil ?_
       refine W.block (At.zqr 515 (K:=[3,46,50,507]) (ts:=[2,3,7,10,11,13,15,51,52,53,91,92]) rfl rfl rfl rfl (.cons (by first|rfl|(simp;done)|omega|(simp;omega)) .nil) .nil (fun _ h=>h) ?_)
       refine At.kp [2,3,7,10,11,13,15,51,52,53,91,92] [3,46,50,507] ?_
       obtain ⟨hn26,H⟩:=zaa H
       refine W.zau H (fun i26 (s26:(List (List Int))×(List Int))=>[(2,.bool (p2)),(3,.lp 3 0),(7,.buf 507 (s3).length),(10,.buf 46 (s26.1).length),(11,.buf 50 (s26.2).length),(13,.int .i64 ((s3.getD i14 default))),(15,roL 1 zac s18),(51,.buf 507 (s3).length),(52,.int .i64 (((s3.length:Nat):Int))),(53,.int .i64 ((i14:Int))),(91,.int .i64 ((((s3.length:Nat):Int)+1))),(92,.int .i64 ((i26:Int)))]) (fun i26 (s26:(List (List Int))×(List Int))=>[(3,.cells (zap p0)),(46,bufL 56 1 (encN 1 zac) s26.1),(50,bufL 3 1 zac s26.2),(507,bufL 3 1 zac s3)]) (.cons .q (.cons .q (.cons .qb (.cons .qb (.cons .qb (.cons .qi (.cons .q (.cons .qb (.cons .qi (.cons .qi (.cons .qi (.cons .qi .nil)))))))))))) (.cons .q (.cons .q (.cons .q (.cons .q .nil)))) (fun k26 i26 s26 hle26 H1 H2 K0 hK26=>?_)
       refine W.rg env [2,3,7,10,11,13,15,51,52,53,91,92,93] [3,46,50,507] ?_
       refine W.seq (W.cond rfl (fun hb27=>?_) (fun hb27=>?_))
       · have hi26:i26<((((s3.length:Nat):Int)+1)).toNat:=by have:=of_decide_eq_true hb27;omega
         have H:=H1 hi26
         refine W.skip (At.zad (W.seq (W.zki H (fun (s28:(List (List Int))×(List Int))=>[(2,.bool (p2)),(3,.lp 3 0),(7,.buf 507 (s3).length),(10,.buf 46 (s28.1).length),(11,.buf 50 (s28.2).length),(13,.int .i64 ((s3.getD i14 default))),(15,roL 1 zac s18),(51,.buf 507 (s3).length),(52,.int .i64 (((s3.length:Nat):Int))),(53,.int .i64 ((i14:Int))),(91,.int .i64 ((((s3.length:Nat):Int)+1))),(92,.int .i64 ((i26:Int)))]) (fun (s28:(List (List Int))×(List Int))=>[(3,.cells (zap p0)),(46,bufL 56 1 (encN 1 zac) s28.1),(50,bufL 3 1 zac s28.2),(507,bufL 3 1 zac s3)]) (fun s28 H=>?_) (fun k28 H hK28=>?_))))
         · refine W.region env [] [] rfl rfl rfl (.cons (by unfold inI;have:=hn26;(try unfold maxLen at this);omega) .nil) .nil (At.kp [2,3,7,10,11,13,15,51,52,53,91,92] [3,46,50,507] ?_)
           refine At.zaM (At.kp [2,3,7,10,11,13,15,51,52,53,91,92] [3,46,50,507] ?_)
           exact At.conv (.cons .q (.cons .q (.cons .qb (.cons .qb (.cons .qb (.cons .qi (.cons .q (.cons .qb (.cons .qi (.cons .qi (.cons .qi (.cons .qi .nil)))))))))))) (.cons .q (.cons .q (.cons .q (.cons .q .nil)))) (hK26 hi26 (s28.1,s28.2) H)
         · refine W.block (W.rg env [2,3,7,10,11,13,15,18,51,52,53,91,92] [3,46,50,507] ?_)
           refine W.seq (W.rg env [2,3,7,10,11,13,15,18,51,52,53,91,92,96] [3,46,50,507] ?_)
           refine W.cond rfl (fun hb29=>?_) (fun hb29=>?_)
           · have H:=zah H hb29
             refine W.exit (At.xthen (At.xhere (At.zaM (At.kp [2,3,7,10,11,13,15,51,52,53,91,92] [3,46,50,507] ?_))))
             exact At.conv (.cons .q (.cons .q (.cons .qb (.cons .qb (.cons .qb (.cons .qi (.cons .q (.cons .qb (.cons .qi (.cons .qi (.cons .qi (.cons .qi .nil)))))))))))) (.cons .q (.cons .q (.cons .q (.cons .q .nil)))) (hK28 (s26.1,s26.2) H)
           · have H:=zaf H hb29
             refine W.skip (At.zad (W.seq ?_))
             obtain ⟨hc30,H⟩:=zaa H
             obtain ⟨hc31,H⟩:=zaa H
             obtain ⟨hc32,H⟩:=zaa H
             refine W.region env [98,16777322] [] rfl rfl rfl (.cons hc30 (.cons hc31 (.cons (⟨(by first|rfl|(simp;done)|omega|(simp;omega)),(⟨by first|rfl|(simp;done)|omega|(simp;omega),by have:=hc32;first|simpa using this|(unfold room at this ⊢;simp at this ⊢;omega)⟩)⟩) .nil))) .nil (At.kp [2,3,7,10,11,13,15,18,19,51,52,53,91,92] [3,46,50,507] ?_)
             refine At.slot (t:=19) (v:=roL 1 zac (([(s3.getD i14 default)]:List Int)++(s18.take ((min ((i26:Int) - 1) ((s18.length:Nat):Int))).toNat))) (Sim.seg (Seg.push (Seg.lit (f:=zac) (sz:=1) ([(s3.getD i14 default)]:List Int) rfl rfl (fun _=>rfl)) (Seg.take zac s18 (((min ((i26:Int) - 1) ((s18.length:Nat):Int))).toNat) (by omega)))) ?_
             refine At.zad (W.seq ?_)
             obtain ⟨y33,hy34,H⟩:=zab H
             refine W.region env [] [⟨.int .i64 (y33),[],0,[]⟩] rfl rfl rfl .nil (.free (zcU p0 (([(s3.getD i14 default)]:List Int)++(s18.take ((min ((i26:Int) - 1) ((s18.length:Nat):Int))).toNat)) p2 hy34) .nil) (At.kp [2,3,7,10,11,13,15,18,19,20,51,52,53,91,92] [3,46,50,507] ?_)
             refine At.zad ?_
             obtain ⟨hc35,H⟩:=zaa H
             obtain ⟨hc36,H⟩:=zaa H
             refine W.sr env [] [] [2,3,7,10,11,13,15,18,19,20,51,52,53,91,92,123] [3,46,50,507] rfl rfl rfl (.cons (⟨by first|rfl|(simp;done)|omega|(simp;omega),hc35⟩) (.cons (⟨by first|rfl|(simp;done)|omega|(simp;omega),(by have:=hc35;first|omega|(simp only [List.length_set];omega)|(simp only [Int.toNat_natCast] at *;omega)|(simp at this ⊢;omega))⟩) (.cons (fun hW=>⟨by first|rfl|(simp;done)|omega|(simp;omega),hc36 hW⟩) (.cons id (.cons id (.cons (fun hW=>(⟨by first|rfl|(simp;done)|omega|(simp;omega),(by have:=hc36 hW;first|omega|(simp only [List.length_set];omega)|(simp only [Int.toNat_natCast] at *;omega)|(simp at this ⊢;omega))⟩)) (.cons id (.cons id (.cons id (.cons (fun h=>by rw [h];rfl) .nil)))))))))) .nil ?_
             refine W.cond rfl (fun hb37=>?_) (fun hb37=>?_)
             · have H:=zah H hb37
               obtain ⟨hc38,H⟩:=zaa H
               obtain ⟨hc39,H⟩:=zaa H
               obtain ⟨hc40,H⟩:=zaa H
               refine W.region env [] [] rfl rfl rfl (.cons (⟨by first|rfl|(simp;done)|omega|(simp;omega),hc38⟩) (.cons (⟨by first|rfl|(simp;done)|omega|(simp;omega),(by have:=hc38;first|omega|(simp only [List.length_set];omega)|(simp only [Int.toNat_natCast] at *;omega)|(simp at this ⊢;omega))⟩) (.cons (⟨by first|rfl|(simp;done)|omega|(simp;omega),hc40⟩) (.cons (⟨by first|rfl|(simp;done)|omega|(simp;omega),(by have:=hc40;first|omega|(simp only [List.length_set];omega)|(simp only [Int.toNat_natCast] at *;omega)|(simp at this ⊢;omega))⟩) .nil)))) .nil (At.kp [2,3,7,10,11,13,15,51,52,53,91,92] [3,46,50,507] ?_)
               refine At.zbj (.cons (.refl _) (.cons (y:=bufL 56 1 (encN 1 zac) (s26.1.set i26 (([(s3.getD i14 default)]:List Int)++(s18.take ((min ((i26:Int) - 1) ((s18.length:Nat):Int))).toNat)))) (BSim.setS (Seg.refl (encN 1 zac) _) (([(s3.getD i14 default)]:List Int)++(s18.take ((min ((i26:Int) - 1) ((s18.length:Nat):Int))).toNat)) (.cons (Sim.nsOf hc39) .nil)) (.cons (y:=bufL 3 1 zac (s26.2.set i26 y33)) (BSim.seg (Seg.set (Seg.refl zac _) y33 rfl)) (.cons (.refl _) .nil)))) ?_
               refine At.inb (At.zaM (At.kp [2,3,7,10,11,13,15,51,52,53,91,92] [3,46,50,507] ?_))
               exact At.conv (.cons .q (.cons .q (.cons .qb (.cons .qb (.cons .qb (.cons .qi (.cons .q (.cons .qb (.cons .qi (.cons .qi (.cons .qi (.cons .qi .nil)))))))))))) (.cons .q (.cons .q (.cons .q (.cons .q .nil)))) (hK28 ((s26.1.set i26 (([(s3.getD i14 default)]:List Int)++(s18.take ((min ((i26:Int) - 1) ((s18.length:Nat):Int))).toNat))),(s26.2.set i26 y33)) H)
             · have H:=zaf H hb37
               refine W.skip (At.inb (At.zaM (At.kp [2,3,7,10,11,13,15,51,52,53,91,92] [3,46,50,507] ?_)))
               exact At.conv (.cons .q (.cons .q (.cons .qb (.cons .qb (.cons .qb (.cons .qi (.cons .q (.cons .qb (.cons .qi (.cons .qi (.cons .qi (.cons .qi .nil)))))))))))) (.cons .q (.cons .q (.cons .q (.cons .q .nil)))) (hK28 (s26.1,s26.2) H)
       · have H:=H2 (by have:=of_decide_eq_false hb27;omega)
         refine W.exit (At.xthen (At.xthen (At.xhere (At.inb (At.zad (W.region env [] [] rfl rfl rfl (.cons (by unfold inI;have:=hn14;(try unfold maxLen at this);omega) .nil) .nil (At.kp [2,3,7,10,11,51,52,53] [3,46,50,507] ?_)))))))
         refine At.zaM (At.kp [2,3,7,10,11,51,52,53] [3,46,50,507] ?_)
         exact At.conv (.cons .q (.cons .q (.cons .qb (.cons .qb (.cons .qb (.cons .qb (.cons .qi (.cons .qi .nil)))))))) (.cons .q (.cons .q (.cons .q (.cons .q .nil)))) (hK14 hi14 (s26.1,s26.2) H)
   · have H:=H2 (by have:=of_decide_eq_false hb15;omega)
     refine W.exit (At.xthen (At.xthen (At.xhere (At.zad (W.rg env [6] [46] ?_)))))
     refine W.ret ?_
     cases H
     exact At.ret env.ty rfl rfl (fun q hq=>by cases hq;exact (by first|rfl|(simp;done)|omega|(simp;omega))) Sim.roN hval
theorem zfB (p1:Int) {r:(List Int)} (H:zdo p1=some r):CtrO Tryz.prog 195 [.nilS,.int .i64 p1] [] (.buf 900 r.length) [(900,bufL 3 1 zac r)]:=by
 unfold zdo at H
 refine CtrO.zal (N:=27) Tryz.func195 (by kernel_rfl) (c:=_) rfl Tryz.ntmps195 rfl (fun w0 h0 ρb hval hdom=>?_)
 refine W.rg env [0,1] [] ?_
 refine W.seq (W.rg env [0,1,6] [] ?_)
 refine W.zki H (fun (s1:Unit)=>[(0,.nilS),(1,.int .i64 (p1))]) (fun (s1:Unit)=>[]) (fun s1 H=>?_) (fun k1 H hK1=>?_)
 · refine W.seq ?_
   obtain ⟨hc2,H⟩:=zaa H
   obtain ⟨hc3,H⟩:=zaa H
   refine W.sr env [] [] [0,1] [] rfl rfl rfl (.cons hc2 (.cons hc3 .nil)) .nil ?_
   refine W.rg env [0,1,16] [] ?_
   refine W.cond rfl (fun hb4=>?_) (fun hb4=>?_)
   · have H:=zah H hb4
     obtain ⟨hc5,H⟩:=zaa H
     obtain ⟨hc6,H⟩:=zaa H
     refine W.region env [] [] rfl rfl rfl (.cons rfl (.cons hc5 (.cons (⟨by first|rfl|(simp;done)|omega|(simp;omega),(by first|exact hc6|simpa using hc6)⟩) .nil))) .nil (At.kp [0] [22] ?_)
     refine At.zbj (.cons (y:=bufL 3 1 zac (List.replicate ((p1 - (0 - 0))).toNat (0:Int))) (BSim.seg (Seg.made (f:=zac) 0 rfl)) .nil) ?_
     refine At.zad (W.rg env [4] [22] ?_)
     refine W.ret ?_
     cases H
     refine At.shrink 4 22 850 (K:=[]) (ts:=[]) rfl rfl (by first|rfl|(simp;done)|omega|(simp;omega)) (by have:=hc6;omega) rfl rfl rfl rfl ?_
     refine At.zbj (.cons (y:=bufL 3 1 zac ((List.replicate ((p1 - (0 - 0))).toNat (0:Int)).take 0)) (BSim.seg (Seg.first (Seg.refl zac _) (by have:=hc6;omega))) .nil) ?_
     exact At.retK env.ty [850] 50 rfl rfl rfl rfl (.cons (.refl _) .nil) (.of_eq (by refine zhu ?_;first|(simp [zby];done)|omega|(simp [zby];omega)|rfl)) hval hdom rfl
   · have H:=zaf H hb4
     refine W.skip (At.zad (W.rg env [4] [] ?_))
     refine W.ret ?_
     cases H
     refine At.zfO 4 800 3 1 (e:=fun i=>zac (([]:List Int).getD i default)) rfl rfl ?_
     exact At.retK env.ty [800] 100 rfl rfl rfl rfl (.cons (.refl _) .nil) (.of_eq (by refine zhu ?_;first|(simp [zby];done)|omega|(simp [zby];omega)|rfl)) hval hdom rfl
 · refine W.cond rfl (fun hb7=>?_) (fun hb7=>?_)
   · have H:=zah H hb7
     cases H
   · have H:=zaf H hb7
     refine W.skip (At.zaM (At.kp [0,1] [] ?_))
     exact At.conv (.cons (by first|exact Sim.refl _|exact Sim.nil _ _) (.cons .qi .nil)) .nil (hK1 () H)
theorem zg0 (p0:(List (List Int))) {r:(List Int)} (H:zdN p0=some r):Ctr Tryz.prog 164 [roL 1 zca p0] (roL 1 zac r):=by
 unfold zdN at H
 refine Ctr.zal (N:=36) Tryz.func164 (by kernel_rfl) (c:=_) rfl Tryz.ntmps164 rfl (fun w0 h0 hval=>?_)
 refine W.rg env [0] [] ?_
 refine W.rg env [0,3] [] ?_
 refine W.seq (W.rg env [0,3,9,10,11] [] ?_)
 refine W.block (At.kp [0,3,9,10,11] [] ?_)
 refine W.len (t:=9) rfl (fun (hn1:p0.length≤maxLen)=>?_)
 refine W.zau H (fun i1 (s1:Int)=>[(0,roL 1 zca p0),(3,.int .i64 (s1)),(9,roL 1 zca p0),(10,.int .i64 (((p0.length:Nat):Int))),(11,.int .i64 ((i1:Int)))]) (fun i1 (s1:Int)=>[]) (.cons .q (.cons .qi (.cons .q (.cons .qi (.cons .qi .nil))))) .nil (fun k1 i1 s1 hle1 H1 H2 K0 hK1=>?_)
 refine W.rg env [0,3,9,10,11,12] [] ?_
 refine W.seq (W.cond rfl (fun hb2=>?_) (fun hb2=>?_))
 · have hi1:i1<p0.length:=by have:=of_decide_eq_true hb2;omega
   have H:=H1 hi1
   refine W.skip (At.zad (W.seq (W.block (W.sr env [] [] [0,3,5,9,10,11] [] rfl rfl rfl (.cons (⟨by omega,by omega⟩:0≤(i1:Int)∧(i1:Int)<((p0.length:Nat):Int)) .nil) .nil ?_))))
   obtain ⟨hc3,H⟩:=zaa H
   refine W.sr env [] [] [0,3,9,10,11] [] rfl rfl rfl (.cons hc3 .nil) .nil ?_
   refine W.rg env [0,3,9,10,11,20] [] ?_
   refine W.cond rfl (fun hb4=>?_) (fun hb4=>?_)
   · have H:=zah H hb4
     cases H
   · have H:=zaf H hb4
     refine W.skip (At.inb (At.zad (W.region env [] [] rfl rfl rfl (.cons (by unfold inI;have:=hn1;(try unfold maxLen at this);omega) .nil) .nil (At.kp [0,3,9,10,11] [] ?_))))
     refine At.zaM (At.kp [0,3,9,10,11] [] ?_)
     exact At.conv (.cons .q (.cons .qi (.cons .q (.cons .qi (.cons .qi .nil))))) .nil (hK1 hi1 (s1+(((p0.getD i1 default).length:Nat):Int)) H)
 · have H:=H2 (by have:=of_decide_eq_false hb2;omega)
   refine W.exit (At.xthen (At.xthen (At.xhere (At.zad (W.seq ?_)))))
   obtain ⟨y5,hy6,H⟩:=zab H
   refine W.region env [] [⟨.buf 900 y5.length,[(900,bufL 3 1 zac y5)],25000,[]⟩] rfl rfl (by kernel_rfl) .nil (.free (Ctr.ofO (zfB s1 hy6)) .nil) (At.kp [0,6] [25900] ?_)
   refine At.zad (W.seq (W.rg env [6,25,26,27] [25900] ?_))
   refine W.block (At.kp [6,25,26,27] [25900] ?_)
   refine W.len (t:=25) rfl (fun (hn7:p0.length≤maxLen)=>?_)
   refine W.zau H (fun i7 (s7:(List Int))=>[(6,.buf 25900 (s7).length),(25,roL 1 zca p0),(26,.int .i64 (((p0.length:Nat):Int))),(27,.int .i64 ((i7:Int)))]) (fun i7 (s7:(List Int))=>[(25900,bufL 3 1 zac s7)]) (.cons .qb (.cons .q (.cons .qi (.cons .qi .nil)))) (.cons .q .nil) (fun k7 i7 s7 hle7 H1 H2 K0 hK7=>?_)
   refine W.rg env [6,25,26,27,28] [25900] ?_
   refine W.seq (W.cond rfl (fun hb8=>?_) (fun hb8=>?_))
   · have hi7:i7<p0.length:=by have:=of_decide_eq_true hb8;omega
     have H:=H1 hi7
     refine W.skip (At.zad (W.seq (W.block (W.sr env [] [] [6,8,25,26,27] [25900] rfl rfl rfl (.cons (⟨by omega,by omega⟩:0≤(i7:Int)∧(i7:Int)<((p0.length:Nat):Int)) .nil) .nil ?_))))
     obtain ⟨hc9,H⟩:=zaa H
     refine W.region env [] [] rfl rfl rfl (.cons (⟨by first|rfl|(simp;done)|omega|(simp;omega),by have:=hc9;first|simpa using this|(unfold room at this ⊢;simp at this ⊢;omega)⟩) .nil) .nil (At.kp [6,25,26,27] [25900] ?_)
     refine At.zbj (.cons (y:=bufL 3 1 zac (s7++(p0.getD i7 default))) (BSim.seg (Seg.push (Seg.refl zac _) (Seg.refl zac (p0.getD i7 default)))) .nil) ?_
     refine At.inb (At.zad (W.region env [] [] rfl rfl rfl (.cons (by unfold inI;have:=hn7;(try unfold maxLen at this);omega) .nil) .nil (At.kp [6,25,26,27] [25900] ?_)))
     refine At.zaM (At.kp [6,25,26,27] [25900] ?_)
     exact At.conv (.cons .qb (.cons .q (.cons .qi (.cons .qi .nil)))) (.cons .q .nil) (hK7 hi7 (s7++(p0.getD i7 default)) H)
   · have H:=H2 (by have:=of_decide_eq_false hb8;omega)
     refine W.exit (At.xthen (At.xthen (At.xhere (At.zad (W.rg env [2] [25900] ?_)))))
     refine W.ret ?_
     cases H
     exact At.ret env.ty rfl rfl (fun q hq=>by cases hq;exact (by first|rfl|(simp;done)|omega|(simp;omega))) (.refl _) hval
theorem zgI (p0:Range) (p1:Int):Ctr Tryz.prog 122 [.agg [.int .i64 (p0.Lo),.int .i64 (p0.Hi)],.int .i64 (p1)] (.int .i64 ((zcP p0 p1))):=by
 obtain ⟨r,H⟩:∃ r,zcP p0 p1=r:=⟨_,rfl⟩
 rw [H]
 unfold zcP at H
 refine Ctr.zal (N:=15) Tryz.func122 (by kernel_rfl) (c:=_) rfl Tryz.ntmps122 rfl (fun w0 h0 hval=>?_)
 refine W.rg env [1,2] [2] ?_
 refine W.seq (W.block (W.rg env [1,2,5] [2] ?_))
 refine W.cond rfl (fun hb1=>?_) (fun hb1=>?_)
 · have H:=zah H hb1
   refine W.rg env [4] [] ?_
   refine W.ret (At.rinb ?_)
   refine At.rthen ?_
   cases H
   exact At.ret env.ty rfl rfl nofun (.refl _) hval
 · have H:=zaf H hb1
   refine W.rg env [10] [] ?_
   refine W.cond rfl (fun hb2=>?_) (fun hb2=>?_)
   · have H:=zah H hb2
     refine W.rg env [4] [] ?_
     refine W.ret (At.rinb ?_)
     refine At.rthen ?_
     cases H
     exact At.ret env.ty rfl rfl nofun (.refl _) hval
   · have H:=zaf H hb2
     refine W.skip (At.inb (At.zad (W.rg env [4] [] ?_)))
     refine W.ret ?_
     cases H
     exact At.ret env.ty rfl rfl nofun (.refl _) hval
theorem zf6 (p0:mantle_lot) (p1:(List Int)) (p2:Int) (p3:Bool) {r:Bool} (H:zdq p0 p1 p2 p3=some r):Ctr Tryz.prog 127 [.agg (zap p0),roL 1 zac p1,.int .i64 (p2),.bool (p3)] (.bool (r)):=by
 unfold zdq at H
 refine Ctr.zal (N:=29) Tryz.func127 (by kernel_rfl) (c:=_) rfl Tryz.ntmps127 rfl (fun w0 h0 hval=>?_)
 refine W.rg env [1,2,3,4] [4] ?_
 refine W.seq ?_
 obtain ⟨y1,hy2,H⟩:=zab H
 refine W.region env [] [⟨.agg (zap y1),[],0,[]⟩] rfl rfl rfl .nil (.free (zde p0 p1 p3 hy2) .nil) (At.kp [2,3,9] [9] ?_)
 refine At.zad (W.seq (W.seq ?_))
 obtain ⟨y3,hy4,H⟩:=zab H
 refine W.region env [] [⟨.bool (y3),[],0,[]⟩] rfl rfl rfl .nil (.free (za3 y1.closet hy4) .nil) (At.kp [2,3,9,17] [9] ?_)
 refine At.zad (W.cond rfl (fun hb5=>?_) (fun hb5=>?_))
 · have H:=zah H hb5
   refine W.rg env [8] [] ?_
   refine W.ret (At.rthen ?_)
   cases H
   exact At.ret env.ty rfl rfl nofun (.refl _) hval
 · have H:=zaf H hb5
   refine W.skip (At.zad (W.seq (W.rg env [2,9,18] [9] ?_)))
   refine W.cond rfl (fun hb6=>?_) (fun hb6=>?_)
   · have H:=zah H hb6
     refine W.seq ?_
     obtain ⟨y7,hy8,H⟩:=zab H
     refine W.region env [] [⟨.agg [.int .i64 (y7.Lo),.int .i64 (y7.Hi)],[],0,[]⟩,⟨.int .i64 ((zcP y7 p2)),[],0,[]⟩] rfl rfl rfl .nil (.free (zdd y1 hy8) (.free (zgI y7 p2) .nil)) (At.kp [8] [] ?_)
     refine At.zad (W.ret (At.rthen ?_))
     cases H
     exact At.ret env.ty rfl rfl nofun (.refl _) hval
   · have H:=zaf H hb6
     refine W.skip (At.zad (W.seq ?_))
     obtain ⟨y9,hy10,H⟩:=zab H
     refine W.region env [] [⟨.agg [.int .i64 (y9.Lo),.int .i64 (y9.Hi)],[],0,[]⟩,⟨.int .i64 ((zcP y9 p2)),[],0,[]⟩] rfl rfl rfl .nil (.free (zdd y1 hy10) (.free (zgI y9 p2) .nil)) (At.kp [8] [] ?_)
     refine At.zad (W.ret ?_)
     cases H
     exact At.ret env.ty rfl rfl nofun (.refl _) hval
theorem zfD (fuel:Nat) (p0:mantle_lot) (p1:Int) (p2:Bool) (post:((List Int)×Bool)→Option Unit) {r:Unit} (H:zda fuel p0 p1 p2 post=some r):CtrN Tryz.prog 123 [.agg (zap p0),.int .i64 (p1),.bool (p2)] (fun (y:((List Int)×Bool))=>.tup [roL 1 zac y.1,.bool (y.2)]) (fun y=>post y=some r):=by
 unfold zda at H
 refine CtrN.zal (N:=107) Tryz.func123 (by kernel_rfl) (c:=_) rfl Tryz.ntmps123 rfl (fun w0 h0 hval=>?_)
 refine W.rg env [1,2,3] [3] ?_
 refine W.seq (W.region env [] [] rfl rfl rfl .nil .nil (At.kp [1,2,3,8] [3,22] ?_))
 refine At.zbj (.cons (.refl _) (.cons (y:=mapL (.slice none 0 0) (fun (x:(List Int))=>roL 1 zac x) ((Mp.empty:Mp (List Int)).set 0 [])) (BSim.zn6 (f:=(fun (x:(List Int))=>roL 1 zac x)) (zg5.set (zg5.empty (f:=(fun (x:(List Int))=>roL 1 zac x)) (Sim.nil _ _)) [] (Sim.nil _ _))) .nil)) ?_
 refine At.zad (W.seq (W.rg env [1,2,3,8,28,29] [3,22] ?_))
 refine W.block (At.zl6 22 (K:=[3]) (ts:=[1,2,3,8,28,29]) rfl rfl rfl rfl (fun _ h=>h) ?_)
 refine At.kp [1,2,3,8,28,29] [3] ?_
 obtain ⟨hn1,H⟩:=zaa H
 refine W.zau H (fun i1 (s1:(Mp (List Int)))=>[(1,.int .i64 (p1)),(2,.bool (p2)),(3,.lp 3 0),(8,romL (.slice none 0 0) (fun (x:(List Int))=>roL 1 zac x) s1),(28,.int .i64 (((p0.closet.w.Batches.length:Nat):Int))),(29,.int .i64 ((i1:Int)))]) (fun i1 (s1:(Mp (List Int)))=>[(3,.cells (zap p0))]) (.cons .qi (.cons .q (.cons .q (.cons .q (.cons .qi (.cons .qi .nil)))))) (.cons .q .nil) (fun k1 i1 s1 hle1 H1 H2 K0 hK1=>?_)
 refine W.rg env [1,2,3,8,28,29,30] [3] ?_
 refine W.seq (W.cond rfl (fun hb2=>?_) (fun hb2=>?_))
 · have hi1:i1<p0.closet.w.Batches.length:=by have:=of_decide_eq_true hb2;omega
   have H:=H1 hi1
   refine W.skip (At.zad (W.seq (W.block (W.rg env [1,2,3,8,9,28,29] [3] ?_))))
   refine W.seq ?_
   obtain ⟨y3,hy4,H⟩:=zab H
   refine W.region env [] [⟨roL 1 zca y3,[],0,[]⟩] rfl rfl rfl .nil (.free (zg2 p0 (i1:Int) p2 hy4) .nil) (At.kp [1,2,3,8,10,28,29] [3] ?_)
   refine At.zad (W.seq (W.region env [] [] rfl rfl rfl .nil .nil (At.kp [1,2,3,8,10,11,28,29] [3,36] ?_)))
   refine At.zbj (.cons (.refl _) (.cons (y:=mapL (.slice none 0 0) (fun (x:(List Int))=>roL 1 zac x) (Mp.empty:Mp (List Int))) (BSim.zn6 (f:=(fun (x:(List Int))=>roL 1 zac x)) (zg5.empty (f:=(fun (x:(List Int))=>roL 1 zac x)) (Sim.nil _ _))) .nil)) ?_
   refine At.zad (W.seq (W.rg env [1,2,3,10,11,28,29,38] [3,36,38] ?_))
   refine W.block ?_
   obtain ⟨hok5,H⟩:=zaa H
   refine At.kp [1,2,3,10,11,28,29,38] [38,3,36] ?_
   refine At.zkj 38 rfl (fun left hleft=>?_)
   refine At.kp [1,2,3,10,11,28,29,38] [38,3,36] ?_
   refine W.zeB H (Mp.perm hok5 hleft) hleft.2.1 38 (fun k=>(fun (x:(List Int))=>roL 1 zac x) ((s1.get k).getD default)) (fun (s5:(Mp (List Int)))=>[(1,.int .i64 (p1)),(2,.bool (p2)),(3,.lp 3 0),(10,roL 1 zca y3),(11,.mp 36),(28,.int .i64 (((p0.closet.w.Batches.length:Nat):Int))),(29,.int .i64 ((i1:Int))),(38,.lp 38 0)]) (fun (s5:(Mp (List Int)))=>[(3,.cells (zap p0)),(36,mapL (.slice none 0 0) (fun (x:(List Int))=>roL 1 zac x) s5)]) (.cons .qi (.cons .q (.cons .q (.cons .q (.cons .q (.cons .qi (.cons .qi (.cons .q .nil)))))))) (.cons (.refl _) (.cons .q (.cons .q .nil))) (fun left s5 HJ5 hsub5 K hK5=>?_)
   refine W.seq (W.next rfl rfl rfl rfl rfl rfl rfl rfl rfl rfl rfl (fun hz=>?_) (fun q5 left2 hp5=>?_))
   · subst hz
     have H:k1 s5=some r:=HJ5
     refine At.zad (W.seq (W.cond rfl (fun hb18=>by cases hb18) (fun hb18=>?_)))
     refine W.exit (At.xthen (At.xthen (At.xhere (At.zad (At.zl6 36 (K:=[3]) (ts:=[1,2,3,11,28,29]) rfl rfl rfl rfl (fun _ h=>h) ?_)))))
     refine W.region env [] [] rfl rfl rfl .nil .nil (At.kp [1,2,3,8,28,29] [3] ?_)
     refine At.inb (At.zad (W.region env [] [] rfl rfl rfl (.cons (by unfold inI;have:=hn1;(try unfold maxLen at this);omega) .nil) .nil (At.kp [1,2,3,8,28,29] [3] ?_)))
     refine At.zaM (At.kp [1,2,3,8,28,29] [3] ?_)
     exact At.conv (.cons .qi (.cons .q (.cons .q (.cons .q (.cons .qi (.cons .qi .nil)))))) (.cons .q .nil) (hK1 hi1 s5 H)
   · have H:=zlY hp5 HJ5
     refine At.zad (W.seq (W.cond rfl (fun hb6=>?_) (fun hb6=>by cases hb6)))
     refine W.skip (At.zad (W.block (W.rg env [1,2,3,10,11,12,13,28,29,38] [3,36,38] ?_)))
     refine W.rg env [1,2,3,10,11,12,13,28,29,38,44,45,46] [3,36,38] ?_
     refine W.block (At.kp [1,2,3,10,11,12,13,28,29,38,44,45,46] [3,36,38] ?_)
     refine W.len (t:=44) rfl (fun (hn7:y3.length≤maxLen)=>?_)
     refine W.zau H (fun i7 (s7:(Mp (List Int)))=>[(1,.int .i64 (p1)),(2,.bool (p2)),(3,.lp 3 0),(10,roL 1 zca y3),(11,.mp 36),(12,.int .i64 (q5)),(13,roL 1 zac ((s1.get q5).getD default)),(28,.int .i64 (((p0.closet.w.Batches.length:Nat):Int))),(29,.int .i64 ((i1:Int))),(38,.lp 38 0),(44,roL 1 zca y3),(45,.int .i64 (((y3.length:Nat):Int))),(46,.int .i64 ((i7:Int)))]) (fun i7 (s7:(Mp (List Int)))=>[(3,.cells (zap p0)),(36,mapL (.slice none 0 0) (fun (x:(List Int))=>roL 1 zac x) s7),(38,.iter (fun k=>(fun (x:(List Int))=>roL 1 zac x) ((s1.get k).getD default)) (some q5) (fun l=>l=left2))]) (.cons .qi (.cons .q (.cons .q (.cons .q (.cons .q (.cons .qi (.cons .q (.cons .qi (.cons .qi (.cons .q (.cons .q (.cons .qi (.cons .qi .nil))))))))))))) (.cons .q (.cons .q (.cons .q .nil))) (fun k7 i7 s7 hle7 H1 H2 K0 hK7=>?_)
     refine W.rg env [1,2,3,10,11,12,13,28,29,38,44,45,46,47] [3,36,38] ?_
     refine W.seq (W.cond rfl (fun hb8=>?_) (fun hb8=>?_))
     · have hi7:i7<y3.length:=by have:=of_decide_eq_true hb8;omega
       have H:=H1 hi7
       refine W.skip (At.zad (W.seq (W.block (W.sr env [] [] [1,2,3,10,11,12,13,15,28,29,38,44,45,46] [3,36,38] rfl rfl rfl (.cons (⟨by omega,by omega⟩:0≤(i7:Int)∧(i7:Int)<((y3.length:Nat):Int)) .nil) .nil ?_))))
       refine W.seq ?_
       obtain ⟨y9,hy10,H⟩:=zab H
       refine W.region env [] [⟨roL 1 zac y9,[],0,[]⟩] rfl rfl rfl .nil (.free (Ctr.sim (.cons (Sim.lit (f:=zca) ([((s1.get q5).getD default),(y3.getD i7 default)]:List (List Int)) rfl rfl (fun _=>rfl)) .nil) (zg0 ([((s1.get q5).getD default),(y3.getD i7 default)]:List (List Int)) hy10)) .nil) (At.kp [1,2,3,10,11,12,13,15,16,28,29,38,44,45,46] [3,36,38] ?_)
       refine At.zad ?_
       obtain ⟨hc11,H⟩:=zaa H
       refine W.sr env [] [] [1,2,3,10,11,12,13,15,16,17,18,28,29,38,44,45,46] [3,36,38] rfl rfl rfl (.cons hc11 (.cons rfl .nil)) .nil ?_
       refine W.seq ?_
       obtain ⟨y12,hy13,H⟩:=zab H
       obtain ⟨y14,hy15,H⟩:=zab H
       refine W.region env [] [⟨.int .i64 (y12),[],0,[]⟩,⟨.int .i64 (y14),[],0,[]⟩] rfl rfl (by kernel_rfl) (.cons id (.cons id (.cons id (.cons id (.cons id (.cons id (.cons id (.cons id (.cons (fun h=>by rw [h];rfl) .nil))))))))) (.on (fun hW=>zcU p0 y9 p2 (zah hy13 hW)) (.on (fun hW=>zcU p0 ((s7.get (q5+(((y3.getD i7 default).length:Nat):Int))).getD default) p2 (zah hy15 hW)) .nil)) (At.kp [1,2,3,10,11,12,13,15,16,28,29,38,44,45,46,75] [3,36,38] ?_)
       refine At.zad (W.cond rfl (fun hb16=>?_) (fun hb16=>?_))
       · have H:=zah H hb16
         obtain ⟨hc17,H⟩:=zaa H
         refine W.region env [] [] rfl rfl rfl (.cons hc17 .nil) .nil (At.kp [1,2,3,10,11,12,13,28,29,38,44,45,46] [3,36,38] ?_)
         refine At.zbj (.cons (.refl _) (.cons (y:=mapL (.slice none 0 0) (fun (x:(List Int))=>roL 1 zac x) (s7.set (q5+(((y3.getD i7 default).length:Nat):Int)) y9)) (BSim.mseg (f:=(fun (x:(List Int))=>roL 1 zac x)) (MSeg.set (MSeg.refl (fun (x:(List Int))=>roL 1 zac x) _) y9 rfl)) (.cons (.refl _) .nil))) ?_
         refine At.inb (At.zad (W.region env [] [] rfl rfl rfl (.cons (by unfold inI;have:=hn7;(try unfold maxLen at this);omega) .nil) .nil (At.kp [1,2,3,10,11,12,13,28,29,38,44,45,46] [3,36,38] ?_)))
         refine At.zaM (At.kp [1,2,3,10,11,12,13,28,29,38,44,45,46] [3,36,38] ?_)
         exact At.conv (.cons .qi (.cons .q (.cons .q (.cons .q (.cons .q (.cons .qi (.cons .q (.cons .qi (.cons .qi (.cons .q (.cons .q (.cons .qi (.cons .qi .nil))))))))))))) (.cons .q (.cons .q (.cons .q .nil))) (hK7 hi7 (s7.set (q5+(((y3.getD i7 default).length:Nat):Int)) y9) H)
       · have H:=zaf H hb16
         refine W.skip (At.inb (At.zad (W.region env [] [] rfl rfl rfl (.cons (by unfold inI;have:=hn7;(try unfold maxLen at this);omega) .nil) .nil (At.kp [1,2,3,10,11,12,13,28,29,38,44,45,46] [3,36,38] ?_))))
         refine At.zaM (At.kp [1,2,3,10,11,12,13,28,29,38,44,45,46] [3,36,38] ?_)
         exact At.conv (.cons .qi (.cons .q (.cons .q (.cons .q (.cons .q (.cons .qi (.cons .q (.cons .qi (.cons .qi (.cons .q (.cons .q (.cons .qi (.cons .qi .nil))))))))))))) (.cons .q (.cons .q (.cons .q .nil))) (hK7 hi7 s7 H)
     · have H:=H2 (by have:=of_decide_eq_false hb8;omega)
       refine W.exit (At.xthen (At.xthen (At.xhere (At.inb (At.zaM (At.kp [1,2,3,10,11,28,29,38] [38,3,36] ?_))))))
       exact At.conv (.cons .qi (.cons .q (.cons .q (.cons .q (.cons .q (.cons .qi (.cons .qi (.cons .q .nil)))))))) (.cons (.refl _) (.cons .q (.cons .q .nil))) (hK5 _ left2 s7 hp5 H)
 · have H:=H2 (by have:=of_decide_eq_false hb2;omega)
   refine W.exit (At.xthen (At.xthen (At.xhere (At.zad (W.seq (W.rg env [1,2,3,8,19] [3] ?_))))))
   refine W.block (At.kp [1,2,3,8,19] [3] ?_)
   refine W.loopGo H (fun (s19:Int)=>[(1,.int .i64 (p1)),(2,.bool (p2)),(3,.lp 3 0),(8,romL (.slice none 0 0) (fun (x:(List Int))=>roL 1 zac x) s1),(19,.int .i64 (s19))]) (fun (s19:Int)=>[(3,.cells (zap p0))]) (.cons .qi (.cons .q (.cons .q (.cons .q (.cons .qi .nil))))) (.cons .q .nil) (fun k19 s19 H K0 hK19=>?_)
   refine W.seq (W.rg env [1,2,3,8,19,89] [3] ?_)
   refine W.cond rfl (fun hb20=>?_) (fun hb20=>?_)
   · have H:=zah H hb20
     refine W.skip (At.zad (W.seq (W.block (W.sr env [] [] [1,2,3,8,19,20,21] [3] rfl rfl rfl (.cons rfl .nil) .nil ?_))))
     refine W.seq ?_
     obtain ⟨y21,hy22,H⟩:=zab H
     refine W.region env [] [⟨.bool (y21),[],0,[]⟩] rfl rfl rfl (.cons id (.cons id (.cons id (.cons id (.cons id .nil))))) (.on (fun hW=>zf6 p0 ((s1.get s19).getD default) p1 p2 (zah hy22 hW)) .nil) (At.kp [1,2,3,8,19,20,105] [3] ?_)
     refine At.zad (W.cond rfl (fun hb23=>?_) (fun hb23=>?_))
     · have H:=zah H hb23
       refine W.rg env [6,7] [] ?_
       refine W.ret (At.rinb ?_)
       refine At.rthen ?_
       refine At.rthen ?_
       refine At.rinb ?_
       refine At.rthen ?_
       exact At.retN env.ty (((s1.get s19).getD default),true) H rfl rfl nofun (.refl _) hval
     · have H:=zaf H hb23
       refine W.skip (At.inb (At.zad ?_))
       obtain ⟨hc24,H⟩:=zaa H
       refine W.region env [] [] rfl rfl rfl (.cons hc24 .nil) .nil (At.kp [1,2,3,8,19] [3] ?_)
       refine At.zaM (At.kp [1,2,3,8,19] [3] ?_)
       exact At.conv (.cons .qi (.cons .q (.cons .q (.cons .q (.cons .qi .nil))))) (.cons .q .nil) (hK19 (s19+1) H)
   · have H:=zaf H hb20
     refine W.exit (At.xthen (At.xthen (At.xhere (At.zad (W.rg env [6,7] [] ?_)))))
     exact W.ret (At.retN env.ty ([],false) H rfl rfl nofun (Sim.tupL (.cons (Sim.nil _ _) (.cons (.refl _) .nil))) hval)
theorem zho (p0:List Int) {r:List Int} (H:zcZ p0=some r):CtrO Tryz.prog 120 [.buf 90000 p0.length] [(90000,bufL 3 1 zac p0)] (.tup []) [(90000,bufL 3 1 zac r)]:=
 zo7 (Go.Av.enters_of Tryz.func120 (by kernel_rfl) (c:=_) rfl) (Any.slices_Sort_int zkR) (Any.slices_Sort_int_none zkR) 3 p0 H
theorem zhV (fuel:Nat) (p0:Wear) (p1:(List Int)) (p2:Int) (p3:Int) (p4:Int) (p5:Bool) (post:((List Int)×Int)→Option Unit) {r:Unit} (H:zeD fuel p0 p1 p2 p3 p4 p5 post=some r):CtrN Tryz.prog 53 [.agg (zan p0),roL 1 zac p1,.int .i64 (p2),.int .i64 (p3),.int .i64 (p4),.bool (p5)] (fun (y:((List Int)×Int))=>.tup [roL 1 zac y.1,.int .i64 (y.2)]) (fun y=>post y=some r):=by
 unfold zeD at H
 refine CtrN.zal (N:=59) Tryz.func53 (by kernel_rfl) (c:=_) rfl Tryz.ntmps53 rfl (fun w0 h0 hval=>?_)
 refine W.rg env [1,2,3,4,5,6] [6] ?_
 refine W.seq ?_
 obtain ⟨y1,hy2,H⟩:=zab H
 refine W.region env [] [⟨.tup [.agg (zap y1.1),.int .i64 (y1.2)],[],0,[]⟩] rfl rfl rfl .nil (.free (zfb fuel p0 p1 p2 p3 p4 hy2) .nil) (At.kp [1,4,5,14,15] [14] ?_)
 refine At.zad (W.seq (W.rg env [1,4,5,14,15,31] [14] ?_))
 refine W.cond rfl (fun hb3=>?_) (fun hb3=>?_)
 · have H:=zah H hb3
   refine W.rg env [12,13] [] ?_
   refine W.ret (At.rthen ?_)
   exact At.retN env.ty ([],y1.2) H rfl rfl nofun (Sim.tupL (.cons (Sim.nil _ _) (.cons (.refl _) .nil))) hval
 · have H:=zaf H hb3
   refine W.skip (At.zad (W.seq (W.znX env [] 3 [] [] rfl rfl rfl rfl rfl rfl (fun _=>rfl) rfl .nil .nil (fun _=>.nil) (fun _=>.nil) (fun _=>rfl) (zfD fuel y1.1 p4 p5 _ H) (fun y4 H=>?_))))
   refine At.kp [1,16,17] [] ?_
   refine At.zad (W.seq (W.rg env [1,16,41] [] ?_))
   refine W.cond rfl (fun hb5=>?_) (fun hb5=>?_)
   · have H:=zah H hb5
     refine W.rg env [12,13] [] ?_
     refine W.ret (At.rthen ?_)
     exact At.retN env.ty ([],3) H rfl rfl nofun (Sim.tupL (.cons (Sim.nil _ _) (.cons (.refl _) .nil))) hval
   · have H:=zaf H hb5
     refine W.skip (At.zad (W.rg env [1,16,18] [] ?_))
     refine W.seq (W.rg env [1,18,42,43,44] [] ?_)
     refine W.block (At.zfO 18 518 3 1 (e:=fun i=>zac (([]:List Int).getD i default)) rfl rfl ?_)
     refine At.kp [1,18,42,43,44] [518] ?_
     refine W.len (t:=42) rfl (fun (hn6:y4.1.length≤maxLen)=>?_)
     refine W.zau H (fun i6 (s6:(List Int))=>[(1,roL 1 zac p1),(18,.buf 518 (s6).length),(42,roL 1 zac y4.1),(43,.int .i64 (((y4.1.length:Nat):Int))),(44,.int .i64 ((i6:Int)))]) (fun i6 (s6:(List Int))=>[(518,bufL 3 1 zac s6)]) (.cons .q (.cons .qb (.cons .q (.cons .qi (.cons .qi .nil))))) (.cons .q .nil) (fun k6 i6 s6 hle6 H1 H2 K0 hK6=>?_)
     refine W.rg env [1,18,42,43,44,45] [518] ?_
     refine W.seq (W.cond rfl (fun hb7=>?_) (fun hb7=>?_))
     · have hi6:i6<y4.1.length:=by have:=of_decide_eq_true hb7;omega
       have H:=H1 hi6
       refine W.skip (At.zad (W.seq (W.block (W.sr env [] [] [1,18,20,42,43,44] [518] rfl rfl rfl (.cons (⟨by omega,by omega⟩:0≤(i6:Int)∧(i6:Int)<((y4.1.length:Nat):Int)) .nil) .nil ?_))))
       obtain ⟨hc8,H⟩:=zaa H
       obtain ⟨hc9,H⟩:=zaa H
       refine W.region env [] [] rfl rfl rfl (.cons hc8 (.cons (⟨by first|rfl|(simp;done)|omega|(simp;omega),by have:=hc9;first|simpa using this|(unfold room at this ⊢;simp at this ⊢;omega)⟩) .nil)) .nil (At.kp [1,18,42,43,44] [518] ?_)
       refine At.zbj (.cons (y:=bufL 3 1 zac (s6++([(p1.getD ((y4.1.getD i6 default)).toNat default)]:List Int))) (BSim.seg (Seg.push (Seg.refl zac _) (Seg.lit (f:=zac) (sz:=1) ([(p1.getD ((y4.1.getD i6 default)).toNat default)]:List Int) rfl rfl (fun _=>rfl)))) .nil) ?_
       refine At.inb (At.zad (W.region env [] [] rfl rfl rfl (.cons (by unfold inI;have:=hn6;(try unfold maxLen at this);omega) .nil) .nil (At.kp [1,18,42,43,44] [518] ?_)))
       refine At.zaM (At.kp [1,18,42,43,44] [518] ?_)
       exact At.conv (.cons .q (.cons .qb (.cons .q (.cons .qi (.cons .qi .nil))))) (.cons .q .nil) (hK6 hi6 (s6++([(p1.getD ((y4.1.getD i6 default)).toNat default)]:List Int)) H)
     · have H:=H2 (by have:=of_decide_eq_false hb7;omega)
       refine W.exit (At.xthen (At.xthen (At.xhere (At.zad (W.seq ?_)))))
       obtain ⟨y10,hy11,H⟩:=zab H
       obtain ⟨hc12,H⟩:=zaa H
       refine W.region env [] [⟨.tup [],[(518,bufL 3 1 zac y10)],0,[518]⟩] rfl rfl (by kernel_rfl) .nil (.free (CtrO.sim (CtrO.ren (zho s6 hy11) [(90000,518)]) (.cons .qc .nil) (.cons (.refl _) .nil)) .nil) (At.kp [18] [518] ?_)
       refine At.zad (W.rg env [12,13] [518] ?_)
       exact W.ret (At.retN env.ty (y10,0) H rfl rfl (fun q hq=>by cases hq;exact (by first|rfl|(simp;done)|omega|(simp;omega))) (.refl _) hval)
theorem zed (fuel:Nat) (p0:(List Look)) (p1:Look) (p2:Look→Look→Option Int) (p2_g:Nat) (p2_a p2_b:List AV) (p2_h:∀ x0 x1 r,p2 x0 x1=some r→Ctr Tryz.prog p2_g (p2_a++([.agg [.int .i64 (x0.Source),.int .i64 (x0.Lamp),.int .i64 (x0.Night),.bool (x0.Bad),.int .i64 (x0.Known),.int .i64 (x0.Until)],.agg [.int .i64 (x1.Source),.int .i64 (x1.Lamp),.int .i64 (x1.Night),.bool (x1.Bad),.int .i64 (x1.Known),.int .i64 (x1.Until)]]++p2_b)) (.int .i64 (r))) {r:(Int×Bool)} (H:zbk fuel p0 p1 p2=some r):Ctr Tryz.prog 60 [roL 6 zam p0,.agg [.int .i64 (p1.Source),.int .i64 (p1.Lamp),.int .i64 (p1.Night),.bool (p1.Bad),.int .i64 (p1.Known),.int .i64 (p1.Until)],.clo (.func p2_g) p2_a p2_b] (.tup [.int .i64 (r.1),.bool (r.2)]):=by
 unfold zbk at H
 refine Ctr.zal (N:=49) Tryz.func60 (by kernel_rfl) (c:=_) rfl Tryz.ntmps60 rfl (fun w0 h0 hval=>?_)
 refine W.rg env [0,2,4] [4] ?_
 refine W.rg env [0,2,4,8] [4] ?_
 refine W.rg env [0,2,4,8,9,10] [4] ?_
 refine W.seq (W.block (At.kp [0,2,4,8,9,10] [4] ?_))
 refine W.loopGo H (fun (s1:Int×Int)=>[(0,roL 6 zam p0),(2,.clo (.func p2_g) p2_a p2_b),(4,.lp 4 0),(8,.int .i64 (((p0.length:Nat):Int))),(9,.int .i64 (s1.2)),(10,.int .i64 (s1.1))]) (fun (s1:Int×Int)=>[(4,.cells [.int .i64 (p1.Source),.int .i64 (p1.Lamp),.int .i64 (p1.Night),.bool (p1.Bad),.int .i64 (p1.Known),.int .i64 (p1.Until)])]) (.cons .q (.cons .q (.cons .q (.cons .qi (.cons .qi (.cons .qi .nil)))))) (.cons .q .nil) (fun k1 s1 H K0 hK1=>?_)
 refine W.seq (W.rg env [0,2,4,8,9,10,17] [4] ?_)
 refine W.cond rfl (fun hb2=>?_) (fun hb2=>?_)
 · have H:=zah H hb2
   refine W.skip (At.zad (W.block ?_))
   obtain ⟨hc3,H⟩:=zaa H
   obtain ⟨hc4,H⟩:=zaa H
   obtain ⟨hc5,H⟩:=zaa H
   refine W.sr env [] [] [0,2,4,8,9,10,11] [4] rfl rfl rfl (.cons hc3 (.cons hc4 (.cons (by decide) (.cons hc5 .nil)))) .nil ?_
   refine W.seq ?_
   obtain ⟨hc6,H⟩:=zaa H
   obtain ⟨y7,hy8,H⟩:=zab H
   refine W.region env [] [⟨.int .i64 (y7),[],0,[]⟩] rfl rfl (by kernel_rfl) (.cons hc6 .nil) (.free (p2_h (p0.getD ((Int.fdiv (s1.2+s1.1) (2 ^ (1:Int).toNat))).toNat default) p1 _ hy8) .nil) (At.kp [0,2,4,8,9,10,11,31] [4] ?_)
   refine At.zad (W.cond rfl (fun hb9=>?_) (fun hb9=>?_))
   · have H:=zah H hb9
     obtain ⟨hc10,H⟩:=zaa H
     refine W.region env [] [] rfl rfl rfl (.cons hc10 .nil) .nil (At.kp [0,2,4,8,9,10] [4] ?_)
     refine At.inb (At.zaM (At.kp [0,2,4,8,9,10] [4] ?_))
     exact At.conv (.cons .q (.cons .q (.cons .q (.cons .qi (.cons .qi (.cons .qi .nil)))))) (.cons .q .nil) (hK1 (s1.1,((Int.fdiv (s1.2+s1.1) (2 ^ (1:Int).toNat))+1)) H)
   · have H:=zaf H hb9
     refine W.region env [] [] rfl rfl rfl .nil .nil (At.kp [0,2,4,8,9,10] [4] ?_)
     refine At.inb (At.zaM (At.kp [0,2,4,8,9,10] [4] ?_))
     exact At.conv (.cons .q (.cons .q (.cons .q (.cons .qi (.cons .qi (.cons .qi .nil)))))) (.cons .q .nil) (hK1 ((Int.fdiv (s1.2+s1.1) (2 ^ (1:Int).toNat)),s1.2) H)
 · have H:=zaf H hb2
   refine W.exit (At.xthen (At.xthen (At.xhere (At.zad (W.seq ?_)))))
   obtain ⟨hc11,H⟩:=zaa H
   obtain ⟨y12,hy13,H⟩:=zab H
   refine W.region env [] [⟨.int .i64 (y12),[],0,[]⟩] rfl rfl (by kernel_rfl) (.cons hc11 (.cons id (.cons id (.cons id (.cons id (.cons id (.cons id (.cons id (.cons id .nil))))))))) (.on (fun hW=>p2_h (p0.getD (s1.2).toNat default) p1 _ (zah hy13 hW)) .nil) (At.kp [6,7] [] ?_)
   refine At.zad (W.ret ?_)
   cases H
   exact At.ret env.ty rfl rfl nofun (.refl _) hval
theorem zhW (p0:Look) (p1:Look):Ctr Tryz.prog 61 [.agg [.int .i64 (p0.Source),.int .i64 (p0.Lamp),.int .i64 (p0.Night),.bool (p0.Bad),.int .i64 (p0.Known),.int .i64 (p0.Until)],.agg [.int .i64 (p1.Source),.int .i64 (p1.Lamp),.int .i64 (p1.Night),.bool (p1.Bad),.int .i64 (p1.Known),.int .i64 (p1.Until)]] (.int .i64 ((zbG p0 p1))):=by
 obtain ⟨r,H⟩:∃ r,zbG p0 p1=r:=⟨_,rfl⟩
 rw [H]
 unfold zbG at H
 refine Ctr.zal (N:=10) Tryz.func61 (by kernel_rfl) (c:=_) rfl Tryz.ntmps61 rfl (fun w0 h0 hval=>?_)
 refine W.rg env [2,3] [2,3] ?_
 refine W.sr env [] [⟨.int .i64 ((za1 p0.Source p1.Source)),[],0,[]⟩] [4] [] rfl rfl rfl .nil (.free (zfc p0.Source p1.Source) .nil) ?_
 refine W.ret ?_
 cases H
 exact At.ret env.ty rfl rfl nofun (.refl _) hval
theorem zgB (p0:(List Batch)) {r:(List Batch)} (H:zcH p0=some r):Ctr Tryz.prog 63 [roL 3 zay p0] (roL 3 zay r):=by
 unfold zcH at H
 refine Ctr.zal (N:=8) Tryz.func63 (by kernel_rfl) (c:=_) rfl Tryz.ntmps63 rfl (fun w0 h0 hval=>?_)
 refine W.rg env [0] [] ?_
 refine W.seq (W.rg env [0,4] [] ?_)
 refine W.zhn rfl (fun hz=>?_) ?_
 · obtain rfl:p0=[]:=List.length_eq_zero_iff.1 hz
   obtain ⟨hc1,H⟩:=zaa H
   refine W.rg env [2] [] ?_
   refine W.ret (At.rthen ?_)
   cases H
   exact At.ret env.ty rfl rfl nofun (Sim.nil _ _) hval
 · refine W.skip (At.zad (W.seq ?_))
   obtain ⟨hc1,H⟩:=zaa H
   refine W.region env [5] [] rfl rfl rfl (.cons (⟨by first|rfl|(simp;done)|omega|(simp;omega),by have:=hc1;first|simpa using this|(unfold room at this ⊢;simp at this ⊢;omega)⟩) .nil) .nil (At.kp [2] [5] ?_)
   refine At.zbj (.cons (y:=bufL 31 3 zay (([]:List Batch)++p0)) (BSim.seg (Seg.push (Seg.lit (f:=zay) (sz:=3) ([]:List Batch) rfl rfl (fun _=>rfl)) (Seg.refl zay p0))) .nil) ?_
   refine At.zad (W.ret ?_)
   cases H
   exact At.ret env.ty rfl rfl (fun q hq=>by cases hq;exact (by first|rfl|(simp;done)|omega|(simp;omega))) (.refl _) hval
theorem zf5 (p0:(List Mantle)) {r:(List Mantle)} (H:zco p0=some r):Ctr Tryz.prog 64 [roL 6 zaq p0] (roL 6 zaq r):=by
 unfold zco at H
 refine Ctr.zal (N:=8) Tryz.func64 (by kernel_rfl) (c:=_) rfl Tryz.ntmps64 rfl (fun w0 h0 hval=>?_)
 refine W.rg env [0] [] ?_
 refine W.seq (W.rg env [0,4] [] ?_)
 refine W.zhn rfl (fun hz=>?_) ?_
 · obtain rfl:p0=[]:=List.length_eq_zero_iff.1 hz
   obtain ⟨hc1,H⟩:=zaa H
   refine W.rg env [2] [] ?_
   refine W.ret (At.rthen ?_)
   cases H
   exact At.ret env.ty rfl rfl nofun (Sim.nil _ _) hval
 · refine W.skip (At.zad (W.seq ?_))
   obtain ⟨hc1,H⟩:=zaa H
   refine W.region env [5] [] rfl rfl rfl (.cons (⟨by first|rfl|(simp;done)|omega|(simp;omega),by have:=hc1;first|simpa using this|(unfold room at this ⊢;simp at this ⊢;omega)⟩) .nil) .nil (At.kp [2] [5] ?_)
   refine At.zbj (.cons (y:=bufL 33 6 zaq (([]:List Mantle)++p0)) (BSim.seg (Seg.push (Seg.lit (f:=zaq) (sz:=6) ([]:List Mantle) rfl rfl (fun _=>rfl)) (Seg.refl zaq p0))) .nil) ?_
   refine At.zad (W.ret ?_)
   cases H
   exact At.ret env.ty rfl rfl (fun q hq=>by cases hq;exact (by first|rfl|(simp;done)|omega|(simp;omega))) (.refl _) hval
theorem zg1 (p0:(List Burn)) {r:(List Burn)} (H:zc0 p0=some r):Ctr Tryz.prog 65 [roL 7 zaD p0] (roL 7 zaD r):=by
 unfold zc0 at H
 refine Ctr.zal (N:=8) Tryz.func65 (by kernel_rfl) (c:=_) rfl Tryz.ntmps65 rfl (fun w0 h0 hval=>?_)
 refine W.rg env [0] [] ?_
 refine W.seq (W.rg env [0,4] [] ?_)
 refine W.zhn rfl (fun hz=>?_) ?_
 · obtain rfl:p0=[]:=List.length_eq_zero_iff.1 hz
   obtain ⟨hc1,H⟩:=zaa H
   refine W.rg env [2] [] ?_
   refine W.ret (At.rthen ?_)
   cases H
   exact At.ret env.ty rfl rfl nofun (Sim.nil _ _) hval
 · refine W.skip (At.zad (W.seq ?_))
   obtain ⟨hc1,H⟩:=zaa H
   refine W.region env [5] [] rfl rfl rfl (.cons (⟨by first|rfl|(simp;done)|omega|(simp;omega),by have:=hc1;first|simpa using this|(unfold room at this ⊢;simp at this ⊢;omega)⟩) .nil) .nil (At.kp [2] [5] ?_)
   refine At.zbj (.cons (y:=bufL 35 7 zaD (([]:List Burn)++p0)) (BSim.seg (Seg.push (Seg.lit (f:=zaD) (sz:=7) ([]:List Burn) rfl rfl (fun _=>rfl)) (Seg.refl zaD p0))) .nil) ?_
   refine At.zad (W.ret ?_)
   cases H
   exact At.ret env.ty rfl rfl (fun q hq=>by cases hq;exact (by first|rfl|(simp;done)|omega|(simp;omega))) (.refl _) hval
theorem zmk (p0:(List Look)) {r:(List Look)} (H:zbg p0=some r):Ctr Tryz.prog 67 [roL 6 zam p0] (roL 6 zam r):=by
 unfold zbg at H
 refine Ctr.zal (N:=8) Tryz.func67 (by kernel_rfl) (c:=_) rfl Tryz.ntmps67 rfl (fun w0 h0 hval=>?_)
 refine W.rg env [0] [] ?_
 refine W.seq (W.rg env [0,4] [] ?_)
 refine W.zhn rfl (fun hz=>?_) ?_
 · obtain rfl:p0=[]:=List.length_eq_zero_iff.1 hz
   obtain ⟨hc1,H⟩:=zaa H
   refine W.rg env [2] [] ?_
   refine W.ret (At.rthen ?_)
   cases H
   exact At.ret env.ty rfl rfl nofun (Sim.nil _ _) hval
 · refine W.skip (At.zad (W.seq ?_))
   obtain ⟨hc1,H⟩:=zaa H
   refine W.region env [5] [] rfl rfl rfl (.cons (⟨by first|rfl|(simp;done)|omega|(simp;omega),by have:=hc1;first|simpa using this|(unfold room at this ⊢;simp at this ⊢;omega)⟩) .nil) .nil (At.kp [2] [5] ?_)
   refine At.zbj (.cons (y:=bufL 37 6 zam (([]:List Look)++p0)) (BSim.seg (Seg.push (Seg.lit (f:=zam) (sz:=6) ([]:List Look) rfl rfl (fun _=>rfl)) (Seg.refl zam p0))) .nil) ?_
   refine At.zad (W.ret ?_)
   cases H
   exact At.ret env.ty rfl rfl (fun q hq=>by cases hq;exact (by first|rfl|(simp;done)|omega|(simp;omega))) (.refl _) hval
theorem zdc (p0:(List Look)) {r:(List Look)} (H:zbg p0=some r):CtrO Tryz.prog 67 [roL 6 zam p0] [] (.buf 900 r.length) [(900,bufL 37 6 zam r)]:=by
 unfold zbg at H
 refine CtrO.zal (N:=8) Tryz.func67 (by kernel_rfl) (c:=_) rfl Tryz.ntmps67 rfl (fun w0 h0 ρb hval hdom=>?_)
 refine W.rg env [0] [] ?_
 refine W.seq (W.rg env [0,4] [] ?_)
 refine W.zhn rfl (fun hz=>?_) ?_
 · obtain rfl:p0=[]:=List.length_eq_zero_iff.1 hz
   obtain ⟨hc1,H⟩:=zaa H
   refine W.rg env [2] [] ?_
   refine W.ret (At.rthen ?_)
   cases H
   refine At.zfO 2 800 37 6 (e:=fun i=>zam (([]:List Look).getD i default)) rfl rfl ?_
   exact At.retK env.ty [800] 100 rfl rfl rfl rfl (.cons (.refl _) .nil) (.of_eq (by refine zhu ?_;first|(simp [zby];done)|omega|(simp [zby];omega)|rfl)) hval hdom rfl
 · refine W.skip (At.zad (W.seq ?_))
   obtain ⟨hc1,H⟩:=zaa H
   refine W.region env [5] [] rfl rfl rfl (.cons (⟨by first|rfl|(simp;done)|omega|(simp;omega),by have:=hc1;first|simpa using this|(unfold room at this ⊢;simp at this ⊢;omega)⟩) .nil) .nil (At.kp [2] [5] ?_)
   refine At.zbj (.cons (y:=bufL 37 6 zam (([]:List Look)++p0)) (BSim.seg (Seg.push (Seg.lit (f:=zam) (sz:=6) ([]:List Look) rfl rfl (fun _=>rfl)) (Seg.refl zam p0))) .nil) ?_
   refine At.zad (W.ret ?_)
   cases H
   exact At.retK env.ty [5] 895 rfl rfl rfl rfl (.cons (.refl _) .nil) (.of_eq (by refine zhu ?_;first|(simp [zby];done)|omega|(simp [zby];omega)|rfl)) hval hdom rfl
theorem zf4 (p0:List Look) (p1:Int) (p2:Look) {r:List Look} (H:zcG p0 p1 p2=some r):CtrO Tryz.prog 66 [.buf 700 p0.length,.int .i64 p1,.buf 701 1] [(700,bufL 37 6 zam p0),(701,bufL 37 6 zam [p2])] (.buf 900 r.length) [(701,bufL 37 6 zam [p2]),(700,.dead),(900,bufL 37 6 zam r)]:=by
 unfold zcG at H
 obtain ⟨h1,H⟩:=zaa H
 obtain ⟨h2,H⟩:=zaa H
 cases H
 exact znv (Go.Av.enters_of Tryz.func66 (by kernel_rfl) (c:=_) rfl) zld zle (by kernel_rfl) (by kernel_rfl) (env.ty 37 _ rfl) rfl (by decide) zam p0 p1 p2 h1 h2
theorem zgc (fuel:Nat) (p0:Wear) (p1:Look) {r:(Wear×Int)} (H:zc6 fuel p0 p1=some r):Ctr Tryz.prog 14 [.agg (zan p0),.agg [.int .i64 (p1.Source),.int .i64 (p1.Lamp),.int .i64 (p1.Night),.bool (p1.Bad),.int .i64 (p1.Known),.int .i64 (p1.Until)]] (.tup [.agg (zan r.1),.int .i64 (r.2)]):=by
 unfold zc6 at H
 refine Ctr.zal (N:=56) Tryz.func14 (by kernel_rfl) (c:=_) rfl Tryz.ntmps14 rfl (fun w0 h0 hval=>?_)
 refine W.rg env [2,3,4] [2,3,4] ?_
 refine W.seq (W.seq ?_)
 obtain ⟨y1,hy2,H⟩:=zab H
 refine W.region env [] [⟨.int .i64 (y1),[],0,[]⟩] rfl rfl rfl .nil (.free (zd0 p0 hy2) .nil) (At.kp [2,3,4,6] [2,3,4] ?_)
 refine At.zad (W.rg env [2,3,4,6,13] [2,3,4] ?_)
 refine W.cond rfl (fun hb3=>?_) (fun hb3=>?_)
 · have H:=zah H hb3
   refine W.rg env [4,5] [4] ?_
   refine W.ret (At.rthen ?_)
   cases H
   exact At.ret env.ty rfl rfl nofun (Sim.tupL (.cons (Sim.aggL (.cons (Sim.nil _ _) (.cons (Sim.nil _ _) (.cons (Sim.nil _ _) (.cons (Sim.nil _ _) .nil))))) (.cons (.refl _) .nil))) hval
 · have H:=zaf H hb3
   refine W.skip (At.zad (W.seq ?_))
   obtain ⟨y4,hy5,H⟩:=zab H
   refine W.region env [] [⟨.tup [.int .i64 (y4.1),.bool (y4.2)],[],0,[]⟩] rfl rfl rfl .nil (.free (zed fuel p0.Looks p1 (fun x0 x1=>some (zbG x0 x1)) 61 [] [] (fun x0 x1 r h=>by cases h;exact zhW x0 x1) hy5) .nil) (At.kp [2,3,4,7,8] [2,3,4] ?_)
   refine At.zad (W.seq (W.block (W.sr env [] [⟨.int .i64 ((zaV p1)),[],0,[]⟩] [2,3,4,7,23] [2,3,4] rfl rfl rfl (.cons (fun h=>by rw [h];rfl) .nil) (.free (zeR p1) .nil) ?_)))
   refine W.cond rfl (fun hb6=>?_) (fun hb6=>?_)
   · have H:=zah H hb6
     refine W.rg env [4,5] [4] ?_
     refine W.ret (At.rinb ?_)
     refine At.rthen ?_
     cases H
     exact At.ret env.ty rfl rfl nofun (Sim.tupL (.cons (Sim.aggL (.cons (Sim.nil _ _) (.cons (Sim.nil _ _) (.cons (Sim.nil _ _) (.cons (Sim.nil _ _) .nil))))) (.cons (.refl _) .nil))) hval
   · have H:=zaf H hb6
     refine W.rg env [2,3,4,7,31] [2,3,4] ?_
     refine W.cond rfl (fun hb7=>?_) (fun hb7=>?_)
     · have H:=zah H hb7
       refine W.rg env [4,5] [4] ?_
       refine W.ret (At.rinb ?_)
       refine At.rthen ?_
       cases H
       exact At.ret env.ty rfl rfl nofun (Sim.tupL (.cons (Sim.aggL (.cons (Sim.nil _ _) (.cons (Sim.nil _ _) (.cons (Sim.nil _ _) (.cons (Sim.nil _ _) .nil))))) (.cons (.refl _) .nil))) hval
     · have H:=zaf H hb7
       refine W.skip (At.inb (At.zad (W.seq ?_)))
       obtain ⟨y8,hy9,H⟩:=zab H
       obtain ⟨y10,hy11,H⟩:=zab H
       obtain ⟨y12,hy13,H⟩:=zab H
       refine W.region env [] [⟨roL 3 zay y8,[],0,[]⟩,⟨roL 6 zaq y10,[],0,[]⟩,⟨roL 7 zaD y12,[],0,[]⟩] rfl rfl (by kernel_rfl) .nil (.free (zgB p0.Batches hy9) (.free (zf5 p0.Mantles hy11) (.free (zg1 p0.Burns hy13) .nil))) (At.kp [2,3,4,7,9] [2,3,4,9] ?_)
       refine At.zad (W.seq ?_)
       obtain ⟨y14,hy15,H⟩:=zab H
       obtain ⟨y16,hy17,H⟩:=zab H
       refine W.region env [52] [⟨.buf 900 y14.length,[(900,bufL 37 6 zam y14)],50000,[]⟩,⟨.buf 54900 y16.length,[(52,bufL 37 6 zam ([p1]:List Look)),(50900,.dead),(54900,bufL 37 6 zam y16)],0,[50900,52]⟩] rfl rfl (by kernel_rfl) .nil (.free ((Ctr.ofO (zdc p0.Looks hy15))) (.free (CtrO.sim (CtrO.ren (zf4 y14 y4.1 p1 hy17) [(700,50900),(701,52),(900,54900)]) (.cons .qc (.cons (.refl _) (.cons .qc .nil))) (.cons (.refl _) (.cons (BSim.seg (Seg.lit (f:=zam) (sz:=6) ([p1]:List Look) rfl rfl (fun _=>rfl))) .nil))) .nil)) (At.kp [4,9] [4,9,54900] ?_)
       refine At.zad (W.rg env [4,5] [4,54900] ?_)
       refine W.ret ?_
       cases H
       exact At.ret env.ty rfl rfl (fun q hq=>by cases hq;exact (by first|rfl|(simp;done)|omega|(simp;omega))) (.refl _) hval
theorem zfr (p0:(List Look)) (p1:Look→Option Bool) (p1_g:Nat) (p1_a p1_b:List AV) (p1_h:∀ x0 r,p1 x0=some r→Ctr Tryz.prog p1_g (p1_a++([.agg [.int .i64 (x0.Source),.int .i64 (x0.Lamp),.int .i64 (x0.Night),.bool (x0.Bad),.int .i64 (x0.Known),.int .i64 (x0.Until)]]++p1_b)) (.bool (r))) {r:Int} (H:zcL p0 p1=some r):Ctr Tryz.prog 160 [roL 6 zam p0,.clo (.func p1_g) p1_a p1_b] (.int .i64 (r)):=by
 unfold zcL at H
 refine Ctr.zal (N:=19) Tryz.func160 (by kernel_rfl) (c:=_) rfl Tryz.ntmps160 rfl (fun w0 h0 hval=>?_)
 refine W.rg env [0,1] [] ?_
 refine W.seq (W.rg env [0,1,7,8] [] ?_)
 refine W.block (At.kp [0,1,7,8] [] ?_)
 refine W.len (t:=0) rfl (fun (hn1:p0.length≤maxLen)=>?_)
 refine W.zau H (fun i1 (s1:Unit)=>[(0,roL 6 zam p0),(1,.clo (.func p1_g) p1_a p1_b),(7,.int .i64 (((p0.length:Nat):Int))),(8,.int .i64 ((i1:Int)))]) (fun i1 (s1:Unit)=>[]) (.cons .q (.cons .q (.cons .qi (.cons .qi .nil)))) .nil (fun k1 i1 s1 hle1 H1 H2 K0 hK1=>?_)
 refine W.rg env [0,1,7,8,9] [] ?_
 refine W.seq (W.cond rfl (fun hb2=>?_) (fun hb2=>?_))
 · have hi1:i1<p0.length:=by have:=of_decide_eq_true hb2;omega
   have H:=H1 hi1
   refine W.skip (At.zad (W.seq (W.block (W.rg env [0,1,5,7,8] [] ?_))))
   refine W.seq ?_
   obtain ⟨y3,hy4,H⟩:=zab H
   refine W.region env [] [⟨.bool (y3),[],0,[]⟩] rfl rfl rfl (.cons (⟨by omega,by omega⟩:0≤(i1:Int)∧(i1:Int)<((p0.length:Nat):Int)) .nil) (.free (p1_h (p0.getD i1 default) _ hy4) .nil) (At.kp [0,1,5,7,8,16] [] ?_)
   refine At.zad (W.cond rfl (fun hb5=>?_) (fun hb5=>?_))
   · have H:=zah H hb5
     refine W.rg env [4] [] ?_
     refine W.ret (At.rinb ?_)
     refine At.rthen ?_
     refine At.rthen ?_
     refine At.rinb ?_
     refine At.rthen ?_
     cases H
     exact At.ret env.ty rfl rfl nofun (.refl _) hval
   · have H:=zaf H hb5
     refine W.skip (At.inb (At.zad (W.region env [] [] rfl rfl rfl (.cons (by unfold inI;have:=hn1;(try unfold maxLen at this);omega) .nil) .nil (At.kp [0,1,7,8] [] ?_))))
     refine At.zaM (At.kp [0,1,7,8] [] ?_)
     exact At.conv (.cons .q (.cons .q (.cons .qi (.cons .qi .nil)))) .nil (hK1 hi1 () H)
 · have H:=H2 (by have:=of_decide_eq_false hb2;omega)
   refine W.exit (At.xthen (At.xthen (At.xhere (At.zad (W.rg env [4] [] ?_)))))
   refine W.ret ?_
   cases H
   exact At.ret env.ty rfl rfl nofun (.refl _) hval
theorem zeY (fuel:Nat) (p0:(List Look)) (p1:Look→Option Bool) (p1_g:Nat) (p1_a p1_b:List AV) (p1_h:∀ x0 r,p1 x0=some r→Ctr Tryz.prog p1_g (p1_a++([.agg [.int .i64 (x0.Source),.int .i64 (x0.Lamp),.int .i64 (x0.Night),.bool (x0.Bad),.int .i64 (x0.Known),.int .i64 (x0.Until)]]++p1_b)) (.bool (r))) {r:(List Look)} (H:zcC fuel p0 p1=some r):CtrO Tryz.prog 118 [.buf 700 (p0).length,.clo (.func p1_g) p1_a p1_b] [(700,bufL 37 6 zam p0)] (.buf 900 r.length) [(900,bufL 37 6 zam r)]:=by
 unfold zcC at H
 refine CtrO.zal (N:=42) Tryz.func118 (by kernel_rfl) (c:=_) rfl Tryz.ntmps118 rfl (fun w0 h0 ρb hval hdom=>?_)
 refine W.rg env [0,1] [700] ?_
 refine W.seq ?_
 obtain ⟨y1,hy2,H⟩:=zab H
 refine W.region env [] [⟨.int .i64 (y1),[],0,[]⟩] rfl rfl rfl (.cons (by first|rfl|(simp;done)|omega|(simp;omega)) .nil) (.free (zfr p0 p1 p1_g p1_a p1_b p1_h hy2) .nil) (At.kp [0,1,5] [700] ?_)
 refine At.zad (W.seq (W.rg env [0,1,5,12] [700] ?_))
 refine W.cond rfl (fun hb3=>?_) (fun hb3=>?_)
 · have H:=zah H hb3
   refine W.rg env [4] [700] ?_
   refine W.ret (At.rthen ?_)
   cases H
   exact At.retK env.ty [700] 200 rfl rfl rfl rfl (.cons (.refl _) .nil) (.of_eq (by refine zhu ?_;first|(simp [zby];done)|omega|(simp [zby];omega)|rfl)) hval hdom rfl
 · have H:=zaf H hb3
   refine W.skip (At.zad (W.seq ?_))
   obtain ⟨hc4,H⟩:=zaa H
   refine W.sr env [] [] [0,1,5,6] [700] rfl rfl rfl (.cons hc4 .nil) .nil ?_
   refine W.block (At.kp [0,1,5,6] [700] ?_)
   refine W.loopGo H (fun (s5:Int×Int×(List Look))=>[(0,.buf 700 (s5.2.2).length),(1,.clo (.func p1_g) p1_a p1_b),(5,.int .i64 (s5.1)),(6,.int .i64 (s5.2.1))]) (fun (s5:Int×Int×(List Look))=>[(700,bufL 37 6 zam s5.2.2)]) (.cons .qb (.cons .q (.cons .qi (.cons .qi .nil)))) (.cons .q .nil) (fun k5 s5 H K0 hK5=>?_)
   refine W.seq (W.sr env [] [] [0,1,5,6,19] [700] rfl rfl rfl (.cons (by first|rfl|(simp;done)|omega|(simp;omega)) .nil) .nil ?_)
   refine W.cond rfl (fun hb6=>?_) (fun hb6=>?_)
   · have H:=zah H hb6
     refine W.skip (At.zad (W.seq (W.block ?_)))
     obtain ⟨hc7,H⟩:=zaa H
     refine W.sr env [] [] [0,1,5,6,7] [7,700] rfl rfl rfl (.cons (⟨by first|rfl|(simp;done)|omega|(simp;omega),hc7⟩) (.cons (⟨by first|rfl|(simp;done)|omega|(simp;omega),(by have:=hc7;first|omega|(simp only [List.length_set];omega)|(simp only [Int.toNat_natCast] at *;omega)|(simp at this ⊢;omega))⟩) .nil)) .nil ?_
     refine W.seq ?_
     obtain ⟨y8,hy9,H⟩:=zab H
     refine W.region env [] [⟨.bool (y8),[],0,[]⟩] rfl rfl rfl .nil (.free (p1_h (s5.2.2.getD (s5.2.1).toNat default) _ hy9) .nil) (At.kp [0,1,5,6,7,29] [7,700] ?_)
     refine At.zad (W.cond rfl (fun hb10=>?_) (fun hb10=>?_))
     · have H:=zah H hb10
       refine W.seq ?_
       obtain ⟨hc11,H⟩:=zaa H
       refine W.region env [] [] rfl rfl rfl (.cons (⟨by first|rfl|(simp;done)|omega|(simp;omega),hc11⟩) (.cons (⟨by first|rfl|(simp;done)|omega|(simp;omega),(by have:=hc11;first|omega|(simp only [List.length_set];omega)|(simp only [Int.toNat_natCast] at *;omega)|(simp at this ⊢;omega))⟩) .nil)) .nil (At.kp [0,1,5,6] [700] ?_)
       refine At.zbj (.cons (y:=bufL 37 6 zam (s5.2.2.set (s5.1).toNat (s5.2.2.getD (s5.2.1).toNat default))) (BSim.seg (Seg.set (Seg.refl zam _) (s5.2.2.getD (s5.2.1).toNat default) rfl)) .nil) ?_
       refine At.zad ?_
       obtain ⟨hc12,H⟩:=zaa H
       refine W.region env [] [] rfl rfl rfl (.cons hc12 .nil) .nil (At.kp [0,1,5,6] [700] ?_)
       refine At.inb (At.zad ?_)
       obtain ⟨hc13,H⟩:=zaa H
       refine W.region env [] [] rfl rfl rfl (.cons hc13 .nil) .nil (At.kp [0,1,5,6] [700] ?_)
       refine At.zaM (At.kp [0,1,5,6] [700] ?_)
       exact At.conv (.cons .qb (.cons .q (.cons .qi (.cons .qi .nil)))) (.cons .q .nil) (hK5 ((s5.1+1),(s5.2.1+1),(s5.2.2.set (s5.1).toNat (s5.2.2.getD (s5.2.1).toNat default))) H)
     · have H:=zaf H hb10
       refine W.skip (At.inb (At.zad ?_))
       obtain ⟨hc14,H⟩:=zaa H
       refine W.region env [] [] rfl rfl rfl (.cons hc14 .nil) .nil (At.kp [0,1,5,6] [700] ?_)
       refine At.zaM (At.kp [0,1,5,6] [700] ?_)
       exact At.conv (.cons .qb (.cons .q (.cons .qi (.cons .qi .nil)))) (.cons .q .nil) (hK5 (s5.1,(s5.2.1+1),s5.2.2) H)
   · have H:=zaf H hb6
     refine W.exit (At.xthen (At.xthen (At.xhere (At.zad (W.seq ?_)))))
     obtain ⟨hc15,H⟩:=zaa H
     refine W.region env [] [] rfl rfl rfl (.cons (⟨by first|rfl|(simp;done)|omega|(simp;omega),hc15⟩) (.cons (⟨by first|rfl|(simp;done)|omega|(simp;omega),(by have:=hc15;omega),(by have:=hc15;omega)⟩) .nil)) .nil (At.kp [0,5] [700] ?_)
     refine At.zbj (.cons (y:=bufL 37 6 zam (zby s5.2.2 ((s5.1).toNat) (s5.2.2.length - (s5.1).toNat) (fun _=>(⟨0,0,0,false,0,0⟩:Look)))) (BSim.seg (Seg.cleared (a:=(s5.1).toNat) (b:=s5.2.2.length) (Seg.refl zam _) (⟨0,0,0,false,0,0⟩:Look) rfl (by have:=hc15;omega))) .nil) ?_
     refine At.zad ?_
     obtain ⟨hc16,H⟩:=zaa H
     refine W.sr env [] [] [4] [700] rfl rfl rfl (.cons (⟨by first|rfl|(simp [zhe];done)|(simp [zhe];omega),hc16⟩) .nil) .nil ?_
     refine W.ret ?_
     cases H
     refine At.shrink 4 700 850 (K:=[]) (ts:=[]) rfl rfl (by first|rfl|(simp;done)|omega|(simp;omega)) (by have:=hc16;omega) rfl rfl rfl rfl ?_
     refine At.zbj (.cons (y:=bufL 37 6 zam ((zby s5.2.2 ((s5.1).toNat) (s5.2.2.length - (s5.1).toNat) (fun _=>(⟨0,0,0,false,0,0⟩:Look))).take ((s5.1).toNat))) (BSim.seg (Seg.first (Seg.refl zam _) (by have:=hc16;omega))) .nil) ?_
     exact At.retK env.ty [850] 50 rfl rfl rfl rfl (.cons (.refl _) .nil) (.of_eq (by refine zhu ?_;first|(simp [zby];done)|omega|(simp [zby];omega)|rfl)) hval hdom rfl
theorem zhp (p0:Look) (c0:Int) (c1:Wear) {r:Bool} (H:zdl p0 c0 c1=some r):Ctr Tryz.prog 157 [.agg [.int .i64 (p0.Source),.int .i64 (p0.Lamp),.int .i64 (p0.Night),.bool (p0.Bad),.int .i64 (p0.Known),.int .i64 (p0.Until)],.rp [.int .i64 (c0)],.rp (zan c1)] (.bool (r)):=by
 unfold zdl at H
 refine Ctr.zal (N:=22) Tryz.func157 (by kernel_rfl) (c:=_) rfl Tryz.ntmps157 rfl (fun w0 h0 hval=>?_)
 refine W.rg env [1,2,3] [3] ?_
 refine W.seq ?_
 obtain ⟨y1,hy2,H⟩:=zab H
 refine W.region env [] [⟨.bool ((zar p0.Known p0.Until c0)),[],0,[]⟩,⟨.int .i64 (y1),[],0,[]⟩] rfl rfl rfl (.cons id (.cons id (.cons id (.cons id (.cons id (.cons id (.cons id (.cons (fun h=>by rw [h];rfl) .nil)))))))) (.free (zcX p0.Known p0.Until c0) (.on (fun hW=>zcW c1 p0.Lamp p0.Night c0 (zah hy2 hW)) .nil)) (At.kp [4] [] ?_)
 refine At.zad (W.ret ?_)
 cases H
 exact At.ret env.ty rfl rfl nofun (.refl _) hval
theorem zih (fuel:Nat) (p0:Wear) (p1:Int) {r:(List Look)} (H:zeX fuel p0 p1=some r):Ctr Tryz.prog 108 [.agg (zan p0),.int .i64 (p1)] (roL 6 zam r):=by
 unfold zeX at H
 refine Ctr.zal (N:=10) Tryz.func108 (by kernel_rfl) (c:=_) rfl Tryz.ntmps108 rfl (fun w0 h0 hval=>?_)
 refine W.rg env [2,3] [2,3] ?_
 refine W.seq (At.zl7 2 (K:=[3]) (ts:=[2,3]) rfl rfl rfl rfl rfl (fun _ h=>h) ?_)
 refine At.zl7 3 (K:=[]) (ts:=[2,3]) rfl rfl rfl rfl rfl (fun _ h=>h) ?_
 obtain ⟨y1,hy2,H⟩:=zab H
 obtain ⟨y3,hy4,H⟩:=zab H
 refine W.region env [] [⟨.buf 900 y1.length,[(900,bufL 37 6 zam y1)],8000,[]⟩,⟨.buf 900 y3.length,[(8900,.dead),(900,bufL 37 6 zam y3)],10000,[]⟩] rfl rfl (by kernel_rfl) .nil (.free ((Ctr.ofO (zdc p0.Looks hy2))) (.free (CtrO.sim (CtrO.at (zeY fuel y1 (fun x0=>zdl x0 p1 p0) 157 [] ([.rp [.int .i64 (p1)],.rp (zan p0)]) (fun x0 r h=>zhp x0 p1 p0 h) hy4) rfl 8900) (.cons .qc (.cons (Sim.fnClo rfl) .nil)) (.cons (.refl _) .nil)) .nil)) (At.kp [4] [10900] ?_)
 refine At.zad (W.ret ?_)
 cases H
 exact At.ret env.ty rfl rfl (fun q hq=>by cases hq;exact (by first|rfl|(simp;done)|omega|(simp;omega))) (.refl _) hval
theorem zf1 (p0:(List Look)) (p1:Int) (p2:Int) {r:(List Look)} (H:zdC p0 p1 p2=some r):CtrO Tryz.prog 158 [.buf 700 (p0).length,.int .i64 (p1),.int .i64 (p2)] [(700,bufL 37 6 zam p0)] (.buf 900 r.length) [(900,bufL 37 6 zam r)]:=by
 unfold zdC at H
 refine CtrO.zal (N:=33) Tryz.func158 (by kernel_rfl) (c:=_) rfl Tryz.ntmps158 rfl (fun w0 h0 ρb hval hdom=>?_)
 refine W.rg env [0,1,2] [700] ?_
 obtain ⟨hc1,H⟩:=zaa H
 refine W.sr env [] [] [0,1,2] [700] rfl rfl rfl (.cons (by first|rfl|(simp;done)|omega|(simp;omega)) (.cons (⟨by first|rfl|(simp;done)|omega|(simp;omega),hc1⟩) .nil)) .nil ?_
 refine W.seq (W.rg env [0,1,2,16] [700] ?_)
 refine W.cond rfl (fun hb2=>?_) (fun hb2=>?_)
 · have H:=zah H hb2
   refine W.rg env [6] [700] ?_
   refine W.ret (At.rthen ?_)
   cases H
   exact At.retK env.ty [700] 200 rfl rfl rfl rfl (.cons (.refl _) .nil) (.of_eq (by refine zhu ?_;first|(simp [zby];done)|omega|(simp [zby];omega)|rfl)) hval hdom rfl
 · have H:=zaf H hb2
   refine W.skip (At.zad (W.sr env [] [] [0,1,2,7] [700] rfl rfl rfl (.cons (by first|rfl|(simp;done)|omega|(simp;omega)) .nil) .nil ?_))
   refine W.seq ?_
   obtain ⟨hc3,H⟩:=zaa H
   obtain ⟨hc4,H⟩:=zaa H
   obtain ⟨hc5,H⟩:=zaa H
   refine W.region env [] [] rfl rfl (by first|rfl|kernel_rfl) (.cons (⟨by first|rfl|(simp;done)|omega|(simp;omega),hc3⟩) (.cons (⟨by first|rfl|(simp;done)|omega|(simp;omega),hc4⟩) (.cons (⟨rfl,rfl,by omega,by omega,by omega⟩) .nil))) .nil (At.kp [0,7] [26] ?_)
   refine At.zbj (.cons (y:=zqz 37 6 p0.length zam (p0.take ((p1).toNat)++p0.drop ((p2).toNat))) (BSim.kseg (Seg.moved (f:=zam) (l:=p0) ((p1).toNat) ((p2).toNat) (by omega) (by omega))) .nil) ?_
   refine At.zad (W.seq ?_)
   obtain ⟨hc6,H⟩:=zaa H
   refine W.region env [] [] rfl rfl rfl (.cons (by first|rfl|(simp;done)|omega|(simp;omega)) (.cons (⟨by first|rfl|(simp;done)|omega|(simp;omega),hc6⟩) (.cons (⟨by first|rfl|(simp;done)|omega|(simp;omega),by first|rfl|(simp;done)|omega|(simp;omega),by first|omega|(simp;omega)⟩) .nil))) .nil (At.kp [0] [26] ?_)
   refine At.zbj (.cons (y:=zqz 37 6 p0.length zam (p0.take ((p1).toNat)++p0.drop ((p2).toNat))) (BSim.kseg (Seg.refl zam _)) .nil) ?_
   refine At.zad (W.rg env [6] [26] ?_)
   refine W.ret ?_
   cases H
   exact At.retK env.ty [26] 874 rfl rfl rfl rfl (.cons (.bufk (.refl _)) .nil) (.of_eq (by refine zhu ?_;first|(simp [zby];done)|omega|(simp [zby];omega)|rfl)) hval hdom rfl
theorem zkK (p0:(List Look)) (p1:Int) {r:(List Look)} (H:zgV p0 p1=some r):Ctr Tryz.prog 109 [roL 6 zam p0,.int .i64 (p1)] (roL 6 zam r):=by
 unfold zgV at H
 refine Ctr.zal (N:=11) Tryz.func109 (by kernel_rfl) (c:=_) rfl Tryz.ntmps109 rfl (fun w0 h0 hval=>?_)
 refine W.rg env [0,1] [] ?_
 refine W.seq ?_
 obtain ⟨y1,hy2,H⟩:=zab H
 obtain ⟨hc3,H⟩:=zaa H
 obtain ⟨y4,hy5,H⟩:=zab H
 refine W.region env [] [⟨.buf 900 y1.length,[(900,bufL 37 6 zam y1)],7000,[]⟩,⟨.buf 900 y4.length,[(7900,.dead),(900,bufL 37 6 zam y4)],11000,[]⟩] rfl rfl (by kernel_rfl) (.cons hc3 .nil) (.free ((Ctr.ofO (zdc p0 hy2))) (.free (CtrO.sim (CtrO.at (zf1 y1 p1 (p1+1) hy5) rfl 7900) (.cons .qc (.cons (.refl _) (.cons (.refl _) .nil))) (.cons (.refl _) .nil)) .nil)) (At.kp [4] [11900] ?_)
 refine At.zad (W.ret ?_)
 cases H
 exact At.ret env.ty rfl rfl (fun q hq=>by cases hq;exact (by first|rfl|(simp;done)|omega|(simp;omega))) (.refl _) hval
theorem zjv (fuel:Nat) (p0:Wear) (p1:Int) {r:((List Int)×Int)} (H:zfT fuel p0 p1=some r):Ctr Tryz.prog 42 [.agg (zan p0),.int .i64 (p1)] (.tup [roL 1 zac r.1,.int .i64 (r.2)]):=by
 unfold zfT at H
 refine Ctr.zal (N:=58) Tryz.func42 (by kernel_rfl) (c:=_) rfl Tryz.ntmps42 rfl (fun w0 h0 hval=>?_)
 refine W.rg env [1,2] [2] ?_
 refine W.seq (W.seq ?_)
 obtain ⟨y1,hy2,H⟩:=zab H
 refine W.region env [] [⟨.int .i64 (y1),[],0,[]⟩] rfl rfl rfl .nil (.free (Ctr.sim (.cons (.refl _) (.cons (Sim.lit (f:=zac) ([p1]:List Int) rfl rfl (fun _=>rfl)) .nil)) (zdI p0 ([p1]:List Int) hy2)) .nil) (At.kp [1,2,6] [2] ?_)
 refine At.zad (W.rg env [1,2,6,18] [2] ?_)
 refine W.cond rfl (fun hb3=>?_) (fun hb3=>?_)
 · have H:=zah H hb3
   refine W.rg env [4,5] [] ?_
   refine W.ret (At.rthen ?_)
   cases H
   exact At.ret env.ty rfl rfl nofun (Sim.tupL (.cons (Sim.nil _ _) (.cons (.refl _) .nil))) hval
 · have H:=zaf H hb3
   refine W.skip (At.zad (W.seq ?_))
   obtain ⟨y4,hy5,H⟩:=zab H
   refine W.region env [] [⟨roL 6 zam y4,[],0,[]⟩] rfl rfl rfl .nil (.free (zih fuel p0 p1 hy5) .nil) (At.kp [1,2,7] [2] ?_)
   refine At.zad (W.seq (W.seq ?_))
   obtain ⟨y6,hy7,H⟩:=zab H
   obtain ⟨y8,hy9,H⟩:=zab H
   refine W.region env [] [⟨.agg (zaH y6),[],0,[]⟩,⟨.bool (y8),[],0,[]⟩] rfl rfl rfl .nil (.free (zc7 fuel p0 y4 p1 hy7) (.free (za3 y6 hy9) .nil)) (At.kp [1,2,7,27] [2] ?_)
   refine At.zad (W.cond rfl (fun hb10=>?_) (fun hb10=>?_))
   · have H:=zah H hb10
     refine W.rg env [4,5] [] ?_
     refine W.ret (At.rthen ?_)
     cases H
     exact At.ret env.ty rfl rfl nofun (Sim.tupL (.cons (Sim.nil _ _) (.cons (.refl _) .nil))) hval
   · have H:=zaf H hb10
     refine W.skip (At.zad (W.seq ?_))
     obtain ⟨hc11,H⟩:=zaa H
     refine W.sr env [] [] [1,2,7,8] [2] rfl rfl rfl (.cons hc11 .nil) .nil ?_
     refine W.block (At.kp [1,2,7,8] [2] ?_)
     refine W.loopGo H (fun (s12:Int×(List Look))=>[(1,.int .i64 (p1)),(2,.lp 2 0),(7,roL 6 zam s12.2),(8,.int .i64 (s12.1))]) (fun (s12:Int×(List Look))=>[(2,.cells (zan p0))]) (.cons .qi (.cons .q (.cons .q (.cons .qi .nil)))) (.cons .q .nil) (fun k12 s12 H K0 hK12=>?_)
     refine W.seq (W.rg env [1,2,7,8,32] [2] ?_)
     refine W.cond rfl (fun hb13=>?_) (fun hb13=>?_)
     · have H:=zah H hb13
       refine W.skip (At.zad (W.seq (W.block (W.seq ?_))))
       obtain ⟨y14,hy15,H⟩:=zab H
       refine W.region env [] [⟨roL 6 zam y14,[],0,[]⟩] rfl rfl rfl .nil (.free (zkK s12.2 s12.1 hy15) .nil) (At.kp [1,2,7,8,9] [2] ?_)
       refine At.zad (W.seq ?_)
       obtain ⟨y16,hy17,H⟩:=zab H
       obtain ⟨y18,hy19,H⟩:=zab H
       refine W.region env [] [⟨.agg (zaH y16),[],0,[]⟩,⟨.bool (y18),[],0,[]⟩] rfl rfl rfl .nil (.free (zc7 fuel p0 y14 p1 hy17) (.free (za3 y16 hy19) .nil)) (At.kp [1,2,7,8,9,43] [2] ?_)
       refine At.zad (W.cond rfl (fun hb20=>?_) (fun hb20=>?_))
       · have H:=zah H hb20
         refine W.region env [] [] rfl rfl rfl .nil .nil (At.kp [1,2,7,8] [2] ?_)
         refine At.inb (At.zad ?_)
         obtain ⟨hc21,H⟩:=zaa H
         refine W.region env [] [] rfl rfl rfl (.cons hc21 .nil) .nil (At.kp [1,2,7,8] [2] ?_)
         refine At.zaM (At.kp [1,2,7,8] [2] ?_)
         exact At.conv (.cons .qi (.cons .q (.cons .q (.cons .qi .nil)))) (.cons .q .nil) (hK12 ((s12.1 - 1),y14) H)
       · have H:=zaf H hb20
         refine W.skip (At.inb (At.zad ?_))
         obtain ⟨hc22,H⟩:=zaa H
         refine W.region env [] [] rfl rfl rfl (.cons hc22 .nil) .nil (At.kp [1,2,7,8] [2] ?_)
         refine At.zaM (At.kp [1,2,7,8] [2] ?_)
         exact At.conv (.cons .qi (.cons .q (.cons .q (.cons .qi .nil)))) (.cons .q .nil) (hK12 ((s12.1 - 1),s12.2) H)
     · have H:=zaf H hb13
       refine W.exit (At.xthen (At.xthen (At.xhere (At.zad (W.rg env [7,10] [] ?_)))))
       refine W.seq (W.rg env [10,45,46,47] [] ?_)
       refine W.block (At.zfO 10 510 3 1 (e:=fun i=>zac (([]:List Int).getD i default)) rfl rfl ?_)
       refine At.kp [10,45,46,47] [510] ?_
       refine W.len (t:=45) rfl (fun (hn23:s12.2.length≤maxLen)=>?_)
       refine W.zau H (fun i23 (s23:(List Int))=>[(10,.buf 510 (s23).length),(45,roL 6 zam s12.2),(46,.int .i64 (((s12.2.length:Nat):Int))),(47,.int .i64 ((i23:Int)))]) (fun i23 (s23:(List Int))=>[(510,bufL 3 1 zac s23)]) (.cons .qb (.cons .q (.cons .qi (.cons .qi .nil)))) (.cons .q .nil) (fun k23 i23 s23 hle23 H1 H2 K0 hK23=>?_)
       refine W.rg env [10,45,46,47,48] [510] ?_
       refine W.seq (W.cond rfl (fun hb24=>?_) (fun hb24=>?_))
       · have hi23:i23<s12.2.length:=by have:=of_decide_eq_true hb24;omega
         have H:=H1 hi23
         refine W.skip (At.zad (W.seq (W.block (W.sr env [] [] [10,12,45,46,47] [12,510] rfl rfl rfl (.cons (⟨by omega,by omega⟩:0≤(i23:Int)∧(i23:Int)<((s12.2.length:Nat):Int)) .nil) .nil ?_))))
         obtain ⟨hc25,H⟩:=zaa H
         refine W.region env [] [] rfl rfl rfl (.cons (⟨by first|rfl|(simp;done)|omega|(simp;omega),by have:=hc25;first|simpa using this|(unfold room at this ⊢;simp at this ⊢;omega)⟩) .nil) .nil (At.kp [10,45,46,47] [510] ?_)
         refine At.zbj (.cons (y:=bufL 3 1 zac (s23++([(s12.2.getD i23 default).Source]:List Int))) (BSim.seg (Seg.push (Seg.refl zac _) (Seg.lit (f:=zac) (sz:=1) ([(s12.2.getD i23 default).Source]:List Int) rfl rfl (fun _=>rfl)))) .nil) ?_
         refine At.inb (At.zad (W.region env [] [] rfl rfl rfl (.cons (by unfold inI;have:=hn23;(try unfold maxLen at this);omega) .nil) .nil (At.kp [10,45,46,47] [510] ?_)))
         refine At.zaM (At.kp [10,45,46,47] [510] ?_)
         exact At.conv (.cons .qb (.cons .q (.cons .qi (.cons .qi .nil)))) (.cons .q .nil) (hK23 hi23 (s23++([(s12.2.getD i23 default).Source]:List Int)) H)
       · have H:=H2 (by have:=of_decide_eq_false hb24;omega)
         refine W.exit (At.xthen (At.xthen (At.xhere (At.zad (W.rg env [4,5] [510] ?_)))))
         refine W.ret ?_
         cases H
         exact At.ret env.ty rfl rfl (fun q hq=>by cases hq;exact (by first|rfl|(simp;done)|omega|(simp;omega))) (.refl _) hval
theorem zeo (fuel:Nat) (p0:(List Int)) (p1:(List Int)) {r:Bool} (H:zcJ fuel p0 p1=some r):Ctr Tryz.prog 44 [roL 1 zac p0,roL 1 zac p1] (.bool (r)):=by
 unfold zcJ at H
 refine Ctr.zal (N:=31) Tryz.func44 (by kernel_rfl) (c:=_) rfl Tryz.ntmps44 rfl (fun w0 h0 hval=>?_)
 refine W.rg env [0,1] [] ?_
 refine W.rg env [0,1,5] [] ?_
 refine W.seq (W.rg env [0,1,5,6] [] ?_)
 refine W.block (At.kp [0,1,5,6] [] ?_)
 refine W.loopGo H (fun (s1:Bool×Int)=>[(0,roL 1 zac p0),(1,roL 1 zac p1),(5,.bool (s1.1)),(6,.int .i64 (s1.2))]) (fun (s1:Bool×Int)=>[]) (.cons .q (.cons .q (.cons .q (.cons .qi .nil)))) .nil (fun k1 s1 H K0 hK1=>?_)
 refine W.seq (W.sr env [] [] [0,1,5,6,18] [] rfl rfl rfl (.cons id .nil) .nil ?_)
 refine W.cond rfl (fun hb2=>?_) (fun hb2=>?_)
 · have H:=zah H hb2
   refine W.skip (At.zad (W.seq (W.block ?_)))
   obtain ⟨hc3,H⟩:=zaa H
   obtain ⟨hc4,H⟩:=zaa H
   refine W.region env [] [] rfl rfl (by first|rfl|kernel_rfl) (.cons hc3 (.cons hc4 .nil)) .nil (At.kp [0,1,5,6] [] ?_)
   refine At.inb (At.zad ?_)
   obtain ⟨hc5,H⟩:=zaa H
   refine W.region env [] [] rfl rfl rfl (.cons hc5 .nil) .nil (At.kp [0,1,5,6] [] ?_)
   refine At.zaM (At.kp [0,1,5,6] [] ?_)
   exact At.conv (.cons .q (.cons .q (.cons .q (.cons .qi .nil)))) .nil (hK1 ((decide ((p0.getD (s1.2).toNat default)=(p1.getD (s1.2).toNat default))),(s1.2+1)) H)
 · have H:=zaf H hb2
   refine W.exit (At.xthen (At.xthen (At.xhere (At.zad (W.rg env [4] [] ?_)))))
   refine W.ret ?_
   cases H
   exact At.ret env.ty rfl rfl nofun (.refl _) hval
theorem zfF (fuel:Nat) (post:Bool→Option Unit) {r:Unit} (H:zdb fuel post=some r):CtrN Tryz.prog 13 [] (fun (y:Bool)=>.bool (y)) (fun y=>post y=some r):=by
 unfold zdb at H
 refine CtrN.zal (N:=148) Tryz.func13 (by kernel_rfl) (c:=_) rfl Tryz.ntmps13 rfl (fun w0 h0 hval=>?_)
 refine W.rg env [] [] ?_
 refine W.sr env [] [⟨.agg [roL 3 zay ((zak).Batches),roL 6 zaq ((zak).Mantles),roL 7 zaD ((zak).Burns),roL 6 zam ((zak).Looks)],[],0,[]⟩] [1] [1] rfl rfl rfl .nil (.free (zfy) .nil) ?_
 refine W.seq (W.region env [] [] rfl rfl rfl .nil .nil (At.kp [1,2] [1] ?_))
 refine At.slot (t:=2) (v:=roL 1 zac ([10,11,12]:List Int)) (Sim.lit (f:=zac) ([10,11,12]:List Int) rfl rfl (fun _=>rfl)) ?_
 refine At.zad (W.seq ?_)
 obtain ⟨y1,hy2,H⟩:=zab H
 refine W.region env [] [⟨.tup [.agg [.int .i64 (y1.1.Lo),.int .i64 (y1.1.Hi)],.int .i64 (y1.2)],[],0,[]⟩] rfl rfl rfl .nil (.free (zlw fuel (zak) 10 2 5 hy2) .nil) (At.kp [1,2,3,4] [1,3] ?_)
 refine At.zad (W.seq ?_)
 obtain ⟨y3,hy4,H⟩:=zab H
 refine W.region env [] [⟨.tup [.agg [.int .i64 (y3.1.Lo),.int .i64 (y3.1.Hi)],.int .i64 (y3.2)],[],0,[]⟩] rfl rfl rfl .nil (.free (zfw fuel (zak) 1 5 hy4) .nil) (At.kp [1,2,3,4,5,6] [1,3,5] ?_)
 refine At.zad (W.seq ?_)
 obtain ⟨y5,hy6,H⟩:=zab H
 refine W.region env [] [⟨.tup [.int .i64 (y5.1),.int .i64 (y5.2)],[],0,[]⟩] rfl rfl rfl .nil (.free (zdZ fuel (zak) 10 2 4 hy6) .nil) (At.kp [1,2,3,4,5,6,7,8] [1,3,5] ?_)
 refine At.zad (W.seq ?_)
 obtain ⟨y7,hy8,H⟩:=zab H
 refine W.region env [] [⟨.tup [.int .i64 (y7.1),.int .i64 (y7.2)],[],0,[]⟩] rfl rfl rfl .nil (.free (zdZ fuel (zak) 10 1 5 hy8) .nil) (At.kp [1,2,3,4,5,6,7,8,9,10] [1,3,5] ?_)
 refine At.zad (W.seq ?_)
 obtain ⟨y9,hy10,H⟩:=zab H
 refine W.region env [] [⟨.tup [.agg [.int .i64 (y9.1.Lo),.int .i64 (y9.1.Hi)],.int .i64 (y9.2)],[],0,[]⟩] rfl rfl rfl .nil (.free (zeQ fuel (zak) ([10,11,12]:List Int) 2 4 hy10) .nil) (At.kp [1,2,3,4,5,6,7,8,9,10,11,12] [1,3,5,11] ?_)
 refine At.zad (W.seq ?_)
 obtain ⟨y11,hy12,H⟩:=zab H
 refine W.region env [] [⟨.tup [.agg [.int .i64 (y11.1.Lo),.int .i64 (y11.1.Hi)],.int .i64 (y11.2)],[],0,[]⟩] rfl rfl rfl .nil (.free (zeQ fuel (zak) ([10,11,12]:List Int) 2 5 hy12) .nil) (At.kp [1,2,3,4,5,6,7,8,9,10,11,12,13,14] [1,3,5,11,13] ?_)
 refine At.zad (W.seq (W.znX env [] 2 [] [] rfl rfl rfl rfl rfl rfl (fun _=>rfl) rfl .nil .nil (fun _=>.nil) (fun _=>.nil) (fun _=>rfl) (zhV fuel (zak) ([10,11,12]:List Int) 2 4 0 false _ H) (fun y13 H=>?_)))
 refine At.kp [1,3,4,5,6,7,8,9,10,11,12,13,14,15,16] [1,3,5,11,13] ?_
 refine At.zad (W.seq ?_)
 obtain ⟨y14,hy15,H⟩:=zab H
 refine W.region env [] [⟨.tup [.agg (zan y14.1),.int .i64 (y14.2)],[],0,[]⟩] rfl rfl rfl .nil (.free (zgc fuel (zak) (⟨24,10,3,false,0,0⟩:Look) hy15) .nil) (At.kp [3,4,5,6,7,8,9,10,11,12,13,14,15,16,17,18] [3,5,11,13,17] ?_)
 refine At.zad (W.seq ?_)
 obtain ⟨y16,hy17,H⟩:=zab H
 refine W.region env [] [⟨.tup [roL 1 zac y16.1,.int .i64 (y16.2)],[],0,[]⟩] rfl rfl rfl .nil (.free (zjv fuel y14.1 5 hy17) .nil) (At.kp [3,4,5,6,7,8,9,10,11,12,13,14,15,16,18,19,20] [3,5,11,13] ?_)
 refine At.zad (W.sr env [] [] [3,5,7,9,11,13,15,19,21] [3,5,11,13] rfl rfl rfl (.cons id (.cons id (.cons id (.cons id (.cons id (.cons id (.cons id (.cons id (.cons id (.cons id (.cons id (.cons id (.cons id (.cons id (.cons id (.cons id .nil)))))))))))))))) .nil ?_)
 refine W.sr env [] [] [7,9,15,19,21,22] [] rfl rfl rfl (.cons id (.cons id (.cons id (.cons id (.cons id (.cons id (.cons id (.cons id (.cons id .nil))))))))) .nil ?_
 refine W.seq ?_
 obtain ⟨y18,hy19,H⟩:=zab H
 obtain ⟨y20,hy21,H⟩:=zab H
 refine W.region env [] [⟨.bool (y18),[],0,[]⟩,⟨.bool (y20),[],0,[]⟩] rfl rfl rfl (.cons id (.cons id (.cons id (.cons id (.cons id (.cons id (.cons id (.cons id (.cons id (.cons id (.cons id .nil))))))))))) (.on (fun hW=>Ctr.sim (.cons (.refl _) (.cons (Sim.lit (f:=zac) ([10]:List Int) rfl rfl (fun _=>rfl)) .nil)) (zeo fuel y13.1 ([10]:List Int) (zah hy19 hW))) (.on (fun hW=>Ctr.sim (.cons (.refl _) (.cons (Sim.lit (f:=zac) ([22,24]:List Int) rfl rfl (fun _=>rfl)) .nil)) (zeo fuel y16.1 ([22,24]:List Int) (zah hy21 hW))) .nil)) (At.kp [0] [] ?_)
 exact At.zad (W.ret (At.retN env.ty ((((((((((((((decide (y1.2=0)) && (decide (y3.2=0))) && (decide (y5.2=0))) && (decide (y7.2=0))) && (decide (y9.2=0))) && (decide (y11.2=0))) && (decide (y13.2=0))) && (decide (y14.2=0))) && (decide (y16.2=0))) && (((((decide (y1.1.Lo=1300)) && (decide (y1.1.Hi=1600))) && ((decide (y3.1.Lo=1000)) && (decide (y3.1.Hi=1599)))) && ((decide (y9.1.Lo=0)) && (decide (y9.1.Hi=2)))) && ((decide (y11.1.Lo=1)) && (decide (y11.1.Hi=2))))) && (decide (y5.1=2))) && (decide (y7.1=0))) && y18) && y20) H rfl rfl nofun (.refl _) hval))
theorem zgF (fuel:Nat) {r:Bool} (H:zdH fuel=some r):Ctr Tryz.prog 13 [] (.bool r):=by
 obtain ⟨u,H2,hr⟩:=znn H
 subst hr
 exact CtrN.one (zfF fuel _ H2) zn1
theorem zat (p0:Int) (p1:Int) {r:Int} (H:zas p0 p1=some r):Ctr Tryz.prog 27 [.int .i64 (p0),.int .i64 (p1)] (.int .i64 (r)):=by
 unfold zas at H
 refine Ctr.zal (N:=12) Tryz.func27 (by kernel_rfl) (c:=_) rfl Tryz.ntmps27 rfl (fun w0 h0 hval=>?_)
 refine W.rg env [0,1] [] ?_
 obtain ⟨hc1,H⟩:=zaa H
 obtain ⟨hc2,H⟩:=zaa H
 obtain ⟨hc3,H⟩:=zaa H
 refine W.sr env [] [] [4] [] rfl rfl rfl (.cons hc1 (.cons hc2 (.cons hc3 .nil))) .nil ?_
 refine W.ret ?_
 cases H
 exact At.ret env.ty rfl rfl nofun (.refl _) hval
theorem zen (p0:(List Int)) (p1:Int) {r:Int} (H:zbM p0 p1=some r):Ctr Tryz.prog 88 [roL 1 zac p0,.int .i64 (p1)] (.int .i64 (r)):=by
 unfold zbM at H
 refine Ctr.zal (N:=15) Tryz.func88 (by kernel_rfl) (c:=_) rfl Tryz.ntmps88 rfl (fun w0 h0 hval=>?_)
 refine W.rg env [0,1] [] ?_
 refine W.seq (W.rg env [0,1,7] [] ?_)
 refine W.cond rfl (fun hb1=>?_) (fun hb1=>?_)
 · have H:=zah H hb1
   refine W.rg env [4] [] ?_
   refine W.ret (At.rthen ?_)
   cases H
   exact At.ret env.ty rfl rfl nofun (.refl _) hval
 · have H:=zaf H hb1
   refine W.skip (At.zad ?_)
   obtain ⟨hc2,H⟩:=zaa H
   obtain ⟨hc3,H⟩:=zaa H
   refine W.sr env [] [] [4] [] rfl rfl rfl (.cons hc2 (.cons hc3 .nil)) .nil ?_
   refine W.ret ?_
   cases H
   exact At.ret env.ty rfl rfl nofun (.refl _) hval
theorem zgD (fuel:Nat) (p0:gasolierref06_Raw) (p1:(List Int)) {r:(Wear×Lives)} (H:zb6 fuel p0 p1=some r):Ctr Tryz.prog 28 [.agg [roL 2 zcR p0.Batches,roL 4 zba p0.Mantles,roL 5 zcQ p0.Burns,roL 4 zba p0.Looks],roL 1 zac p1] (.tup [.agg (zan r.1),.agg [roL 1 zac r.2.Lives,roL 1 zac r.2.Minutes]]):=by
 unfold zb6 at H
 refine Ctr.zal (N:=234) Tryz.func28 (by kernel_rfl) (c:=_) rfl Tryz.ntmps28 rfl (fun w0 h0 hval=>?_)
 refine W.rg env [1,2,4,5] [2,4,5] ?_
 refine W.rg env [1,2,4,5,6] [2,4,5,6] ?_
 refine W.rg env [1,2,4,5,6,7] [2,4,5,6,7] ?_
 refine W.seq (W.rg env [1,2,4,5,6,7,8] [2,4,5,6,7] ?_)
 refine W.block (At.zdw 6 0 900 31 3 (e:=fun i=>zay (([]:List Batch).getD i default)) rfl rfl rfl ?_)
 refine At.zdw 7 0 950 3 1 (e:=fun i=>zac (([]:List Int).getD i default)) rfl rfl rfl ?_
 refine At.kp [1,2,4,5,6,7,8] [2,4,5,6,7,900,950] ?_
 refine W.loopGo H (fun (s1:Int×(List Batch)×(List Int))=>[(1,roL 1 zac p1),(2,.lp 2 0),(4,.lp 4 0),(5,.lp 5 0),(6,.lp 6 0),(7,.lp 7 0),(8,.int .i64 (s1.1))]) (fun (s1:Int×(List Batch)×(List Int))=>[(2,.cells [roL 2 zcR p0.Batches,roL 4 zba p0.Mantles,roL 5 zcQ p0.Burns,roL 4 zba p0.Looks]),(4,.cells [.nilS,.nilS,.nilS,.nilS]),(5,.cells [.nilS,.nilS]),(6,.cells [.buf 900 (s1.2.1).length,.nilS,.nilS,.nilS]),(7,.cells [.buf 950 (s1.2.2).length,.nilS]),(900,bufL 31 3 zay s1.2.1),(950,bufL 3 1 zac s1.2.2)]) (.cons .q (.cons .q (.cons .q (.cons .q (.cons .q (.cons .q (.cons .qi .nil))))))) (.cons .q (.cons (BSim.cells (.cons (by first|exact Sim.refl _|exact Sim.nil _ _) (.cons (by first|exact Sim.refl _|exact Sim.nil _ _) (.cons (by first|exact Sim.refl _|exact Sim.nil _ _) (.cons (by first|exact Sim.refl _|exact Sim.nil _ _) .nil))))) (.cons (BSim.cells (.cons (by first|exact Sim.refl _|exact Sim.nil _ _) (.cons (by first|exact Sim.refl _|exact Sim.nil _ _) .nil))) (.cons (BSim.cells (.cons .qc (.cons (by first|exact Sim.refl _|exact Sim.nil _ _) (.cons (by first|exact Sim.refl _|exact Sim.nil _ _) (.cons (by first|exact Sim.refl _|exact Sim.nil _ _) .nil))))) (.cons (BSim.cells (.cons .qc (.cons (by first|exact Sim.refl _|exact Sim.nil _ _) .nil))) (.cons .q (.cons .q .nil))))))) (fun k1 s1 H K0 hK1=>?_)
 refine W.seq (W.sr env [] [] [1,2,4,5,6,7,8,32] [2,4,5,6,7,900,950] rfl rfl rfl (.cons id (.cons id (.cons id (.cons (fun h=>by rw [h];rfl) .nil)))) .nil ?_)
 refine W.cond rfl (fun hb2=>?_) (fun hb2=>?_)
 · have H:=zah H hb2
   refine W.skip (At.zad (W.seq (W.block (W.rg env [1,2,4,5,6,7,8,9] [2,4,5,6,7,9,900,950] ?_))))
   refine W.seq (W.rg env [1,2,4,5,6,7,8,9,40] [2,4,5,6,7,9,900,950] ?_)
   refine W.zki H (fun (s3:(Arr2 Int))=>[(1,roL 1 zac p1),(2,.lp 2 0),(4,.lp 4 0),(5,.lp 5 0),(6,.lp 6 0),(7,.lp 7 0),(8,.int .i64 (s1.1)),(9,.lp 9 0)]) (fun (s3:(Arr2 Int))=>[(2,.cells [roL 2 zcR p0.Batches,roL 4 zba p0.Mantles,roL 5 zcQ p0.Burns,roL 4 zba p0.Looks]),(4,.cells [.nilS,.nilS,.nilS,.nilS]),(5,.cells [.nilS,.nilS]),(6,.cells [.buf 900 (s1.2.1).length,.nilS,.nilS,.nilS]),(7,.cells [.buf 950 (s1.2.2).length,.nilS]),(9,.cells [.int .i64 (s3.x0),.int .i64 (s3.x1)]),(900,bufL 31 3 zay s1.2.1),(950,bufL 3 1 zac s1.2.2)]) (fun s3 H=>?_) (fun k3 H hK3=>?_)
   · refine W.seq ?_
     obtain ⟨y4,hy5,H⟩:=zab H
     refine W.region env [] [⟨.int .i64 (y4),[],0,[]⟩] rfl rfl rfl (.cons (by decide) .nil) (.free (zat s3.x0 120 hy5) .nil) (At.kp [1,2,4,5,6,7,8,9,10] [2,4,5,6,7,9,900,950] ?_)
     refine At.zad (W.seq ?_)
     obtain ⟨hc6,H⟩:=zaa H
     obtain ⟨y7,hy8,H⟩:=zab H
     obtain ⟨hc9,H⟩:=zaa H
     refine W.region env [] [⟨.int .i64 (y7),[],0,[]⟩] rfl rfl rfl (.cons hc6 (.cons (by decide) (.cons hc9 .nil))) (.free (zat s3.x1 90 hy8) .nil) (At.kp [1,2,4,5,6,7,8,11] [2,4,5,6,7,11,900,950] ?_)
     refine At.zad (W.seq ?_)
     obtain ⟨hc10,H⟩:=zaa H
     refine W.region env [] [] rfl rfl rfl (.cons (⟨by first|rfl|(simp;done)|omega|(simp;omega),by have:=hc10;first|simpa using this|(unfold room at this ⊢;simp at this ⊢;omega)⟩) .nil) .nil (At.kp [1,2,4,5,6,7,8,11] [2,4,5,6,7,11,900,950] ?_)
     refine At.zbj (.cons (.refl _) (.cons (.refl _) (.cons (.refl _) (.cons (.refl _) (.cons (.refl _) (.cons (.refl _) (.cons (y:=bufL 31 3 zay (s1.2.1++([(⟨(s1.1+1),(⟨y4,(y4+y7)⟩:Range)⟩:Batch)]:List Batch))) (BSim.seg (Seg.push (Seg.refl zay _) (Seg.lit (f:=zay) (sz:=3) ([(⟨(s1.1+1),(⟨y4,(y4+y7)⟩:Range)⟩:Batch)]:List Batch) rfl rfl (fun _=>rfl)))) (.cons (.refl _) .nil)))))))) ?_
     refine At.zad ?_
     obtain ⟨y11,hy12,H⟩:=zab H
     obtain ⟨hc13,H⟩:=zaa H
     obtain ⟨hc14,H⟩:=zaa H
     obtain ⟨y15,hy16,H⟩:=zab H
     obtain ⟨hc17,H⟩:=zaa H
     obtain ⟨hc18,H⟩:=zaa H
     refine W.region env [] [⟨.int .i64 (y11),[],0,[]⟩,⟨.int .i64 (y15),[],0,[]⟩] rfl rfl (by kernel_rfl) (.cons hc13 (.cons hc14 (.cons hc17 (.cons (⟨by first|rfl|(simp;done)|omega|(simp;omega),by have:=hc18;first|simpa using this|(unfold room at this ⊢;simp at this ⊢;omega)⟩) .nil)))) (.free (zen p1 s1.1 hy12) (.free (zat y11 (((y4+y7) - y4)+1) hy16) .nil)) (At.kp [1,2,4,5,6,7,8] [2,4,5,6,7,900,950] ?_)
     refine At.zbj (.cons (.refl _) (.cons (.refl _) (.cons (.refl _) (.cons (.refl _) (.cons (.refl _) (.cons (.refl _) (.cons (y:=bufL 3 1 zac (s1.2.2++([(y4+y15)]:List Int))) (BSim.seg (Seg.push (Seg.refl zac _) (Seg.lit (f:=zac) (sz:=1) ([(y4+y15)]:List Int) rfl rfl (fun _=>rfl)))) .nil))))))) ?_
     refine At.inb (At.zad ?_)
     obtain ⟨hc19,H⟩:=zaa H
     refine W.region env [] [] rfl rfl rfl (.cons hc19 .nil) .nil (At.kp [1,2,4,5,6,7,8] [2,4,5,6,7,900,950] ?_)
     refine At.zaM (At.kp [1,2,4,5,6,7,8] [2,4,5,6,7,900,950] ?_)
     exact At.conv (.cons .q (.cons .q (.cons .q (.cons .q (.cons .q (.cons .q (.cons .qi .nil))))))) (.cons .q (.cons (BSim.cells (.cons (by first|exact Sim.refl _|exact Sim.nil _ _) (.cons (by first|exact Sim.refl _|exact Sim.nil _ _) (.cons (by first|exact Sim.refl _|exact Sim.nil _ _) (.cons (by first|exact Sim.refl _|exact Sim.nil _ _) .nil))))) (.cons (BSim.cells (.cons (by first|exact Sim.refl _|exact Sim.nil _ _) (.cons (by first|exact Sim.refl _|exact Sim.nil _ _) .nil))) (.cons (BSim.cells (.cons .qc (.cons (by first|exact Sim.refl _|exact Sim.nil _ _) (.cons (by first|exact Sim.refl _|exact Sim.nil _ _) (.cons (by first|exact Sim.refl _|exact Sim.nil _ _) .nil))))) (.cons (BSim.cells (.cons .qc (.cons (by first|exact Sim.refl _|exact Sim.nil _ _) .nil))) (.cons .q (.cons .q .nil))))))) (hK1 ((s1.1+1),(s1.2.1++([(⟨(s1.1+1),(⟨y4,(y4+y7)⟩:Range)⟩:Batch)]:List Batch)),(s1.2.2++([(y4+y15)]:List Int))) H)
   · refine W.cond rfl (fun hb20=>?_) (fun hb20=>?_)
     · have H:=zah H hb20
       obtain ⟨hc21,H⟩:=zaa H
       refine W.region env [] [] rfl rfl rfl (.cons hc21 .nil) .nil (At.kp [1,2,4,5,6,7,8,9] [2,4,5,6,7,9,900,950] ?_)
       refine At.zaM (At.kp [1,2,4,5,6,7,8,9] [2,4,5,6,7,9,900,950] ?_)
       exact At.conv (.cons .q (.cons .q (.cons .q (.cons .q (.cons .q (.cons .q (.cons .qi (.cons .q .nil)))))))) (.cons .q (.cons (BSim.cells (.cons (by first|exact Sim.refl _|exact Sim.nil _ _) (.cons (by first|exact Sim.refl _|exact Sim.nil _ _) (.cons (by first|exact Sim.refl _|exact Sim.nil _ _) (.cons (by first|exact Sim.refl _|exact Sim.nil _ _) .nil))))) (.cons (BSim.cells (.cons (by first|exact Sim.refl _|exact Sim.nil _ _) (.cons (by first|exact Sim.refl _|exact Sim.nil _ _) .nil))) (.cons (BSim.cells (.cons .qc (.cons (by first|exact Sim.refl _|exact Sim.nil _ _) (.cons (by first|exact Sim.refl _|exact Sim.nil _ _) (.cons (by first|exact Sim.refl _|exact Sim.nil _ _) .nil))))) (.cons (BSim.cells (.cons .qc (.cons (by first|exact Sim.refl _|exact Sim.nil _ _) .nil))) (.cons .q (.cons .q (.cons .q .nil)))))))) (hK3 (p0.Batches.getD (s1.1).toNat default) H)
     · have H:=zaf H hb20
       refine W.skip (At.zaM (At.kp [1,2,4,5,6,7,8,9] [2,4,5,6,7,9,900,950] ?_))
       exact At.conv (.cons .q (.cons .q (.cons .q (.cons .q (.cons .q (.cons .q (.cons .qi (.cons .q .nil)))))))) (.cons .q (.cons (BSim.cells (.cons (by first|exact Sim.refl _|exact Sim.nil _ _) (.cons (by first|exact Sim.refl _|exact Sim.nil _ _) (.cons (by first|exact Sim.refl _|exact Sim.nil _ _) (.cons (by first|exact Sim.refl _|exact Sim.nil _ _) .nil))))) (.cons (BSim.cells (.cons (by first|exact Sim.refl _|exact Sim.nil _ _) (.cons (by first|exact Sim.refl _|exact Sim.nil _ _) .nil))) (.cons (BSim.cells (.cons .qc (.cons (by first|exact Sim.refl _|exact Sim.nil _ _) (.cons (by first|exact Sim.refl _|exact Sim.nil _ _) (.cons (by first|exact Sim.refl _|exact Sim.nil _ _) .nil))))) (.cons (BSim.cells (.cons .qc (.cons (by first|exact Sim.refl _|exact Sim.nil _ _) .nil))) (.cons .q (.cons .q (.cons .q .nil)))))))) (hK3 (⟨40,60⟩:(Arr2 Int)) H)
 · have H:=zaf H hb2
   refine W.exit (At.xthen (At.xthen (At.xhere (At.zad (W.seq (W.rg env [1,2,4,5,6,7,12] [2,4,5,6,7,900,950] ?_))))))
   refine W.block (At.zdw 6 1 901 33 6 (e:=fun i=>zaq (([]:List Mantle).getD i default)) rfl rfl rfl ?_)
   refine At.kp [1,2,4,5,6,7,12] [2,4,5,6,7,900,901,950] ?_
   refine W.loopGo H (fun (s22:Int×(List Mantle))=>[(1,roL 1 zac p1),(2,.lp 2 0),(4,.lp 4 0),(5,.lp 5 0),(6,.lp 6 0),(7,.lp 7 0),(12,.int .i64 (s22.1))]) (fun (s22:Int×(List Mantle))=>[(2,.cells [roL 2 zcR p0.Batches,roL 4 zba p0.Mantles,roL 5 zcQ p0.Burns,roL 4 zba p0.Looks]),(4,.cells [.nilS,.nilS,.nilS,.nilS]),(5,.cells [.nilS,.nilS]),(6,.cells [.buf 900 (s1.2.1).length,.buf 901 (s22.2).length,.nilS,.nilS]),(7,.cells [.buf 950 (s1.2.2).length,.nilS]),(900,bufL 31 3 zay s1.2.1),(901,bufL 33 6 zaq s22.2),(950,bufL 3 1 zac s1.2.2)]) (.cons .q (.cons .q (.cons .q (.cons .q (.cons .q (.cons .q (.cons .qi .nil))))))) (.cons .q (.cons (BSim.cells (.cons (by first|exact Sim.refl _|exact Sim.nil _ _) (.cons (by first|exact Sim.refl _|exact Sim.nil _ _) (.cons (by first|exact Sim.refl _|exact Sim.nil _ _) (.cons (by first|exact Sim.refl _|exact Sim.nil _ _) .nil))))) (.cons (BSim.cells (.cons (by first|exact Sim.refl _|exact Sim.nil _ _) (.cons (by first|exact Sim.refl _|exact Sim.nil _ _) .nil))) (.cons (BSim.cells (.cons .qc (.cons .qc (.cons (by first|exact Sim.refl _|exact Sim.nil _ _) (.cons (by first|exact Sim.refl _|exact Sim.nil _ _) .nil))))) (.cons (BSim.cells (.cons .qc (.cons (by first|exact Sim.refl _|exact Sim.nil _ _) .nil))) (.cons .q (.cons .q (.cons .q .nil)))))))) (fun k22 s22 H K0 hK22=>?_)
   refine W.seq (W.sr env [] [] [1,2,4,5,6,7,12,94] [2,4,5,6,7,900,901,950] rfl rfl rfl (.cons id (.cons id .nil)) .nil ?_)
   refine W.cond rfl (fun hb23=>?_) (fun hb23=>?_)
   · have H:=zah H hb23
     refine W.skip (At.zad (W.seq (W.block ?_)))
     obtain ⟨hc24,H⟩:=zaa H
     refine W.sr env [] [] [1,2,4,5,6,7,12,13] [2,4,5,6,7,13,900,901,950] rfl rfl rfl (.cons hc24 .nil) .nil ?_
     obtain ⟨hc25,H⟩:=zaa H
     obtain ⟨y26,hy27,H⟩:=zab H
     obtain ⟨hc28,H⟩:=zaa H
     obtain ⟨y29,hy30,H⟩:=zab H
     obtain ⟨hc31,H⟩:=zaa H
     obtain ⟨y32,hy33,H⟩:=zab H
     obtain ⟨y34,hy35,H⟩:=zab H
     obtain ⟨hc36,H⟩:=zaa H
     refine W.region env [] [⟨.int .i64 (y26),[],0,[]⟩,⟨.int .i64 (y29),[],0,[]⟩,⟨.int .i64 (y32),[],0,[]⟩,⟨.int .i64 (y34),[],0,[]⟩] rfl rfl (by kernel_rfl) (.cons hc25 (.cons (by decide) (.cons hc28 (.cons (by decide) (.cons (by first|rfl|(simp;done)|omega|(simp;omega)) (.cons hc31 (.cons (by decide) (.cons (by decide) (.cons (⟨by first|rfl|(simp;done)|omega|(simp;omega),by have:=hc36;first|simpa using this|(unfold room at this ⊢;simp at this ⊢;omega)⟩) .nil))))))))) (.free (zat ((p0.Mantles.getD (s22.1).toNat default).x0) 5 hy27) (.free (zat ((p0.Mantles.getD (s22.1).toNat default).x1) ((s1.2.1.length:Nat):Int) hy30) (.free (zat ((p0.Mantles.getD (s22.1).toNat default).x2) 6 hy33) (.free (zat ((p0.Mantles.getD (s22.1).toNat default).x3) 8 hy35) .nil)))) (At.kp [1,2,4,5,6,7,12] [2,4,5,6,7,900,901,950] ?_)
     refine At.zbj (.cons (.refl _) (.cons (.refl _) (.cons (.refl _) (.cons (.refl _) (.cons (.refl _) (.cons (.refl _) (.cons (y:=bufL 33 6 zaq (s22.2++([(⟨(1+s22.1),(1+y26),(1+y29),y32,y34,0⟩:Mantle)]:List Mantle))) (BSim.seg (Seg.push (Seg.refl zaq _) (Seg.lit (f:=zaq) (sz:=6) ([(⟨(1+s22.1),(1+y26),(1+y29),y32,y34,0⟩:Mantle)]:List Mantle) rfl rfl (fun _=>rfl)))) (.cons (.refl _) .nil)))))))) ?_
     refine At.inb (At.zad ?_)
     obtain ⟨hc37,H⟩:=zaa H
     refine W.region env [] [] rfl rfl rfl (.cons hc37 .nil) .nil (At.kp [1,2,4,5,6,7,12] [2,4,5,6,7,900,901,950] ?_)
     refine At.zaM (At.kp [1,2,4,5,6,7,12] [2,4,5,6,7,900,901,950] ?_)
     exact At.conv (.cons .q (.cons .q (.cons .q (.cons .q (.cons .q (.cons .q (.cons .qi .nil))))))) (.cons .q (.cons (BSim.cells (.cons (by first|exact Sim.refl _|exact Sim.nil _ _) (.cons (by first|exact Sim.refl _|exact Sim.nil _ _) (.cons (by first|exact Sim.refl _|exact Sim.nil _ _) (.cons (by first|exact Sim.refl _|exact Sim.nil _ _) .nil))))) (.cons (BSim.cells (.cons (by first|exact Sim.refl _|exact Sim.nil _ _) (.cons (by first|exact Sim.refl _|exact Sim.nil _ _) .nil))) (.cons (BSim.cells (.cons .qc (.cons .qc (.cons (by first|exact Sim.refl _|exact Sim.nil _ _) (.cons (by first|exact Sim.refl _|exact Sim.nil _ _) .nil))))) (.cons (BSim.cells (.cons .qc (.cons (by first|exact Sim.refl _|exact Sim.nil _ _) .nil))) (.cons .q (.cons .q (.cons .q .nil)))))))) (hK22 ((s22.1+1),(s22.2++([(⟨(1+s22.1),(1+y26),(1+y29),y32,y34,0⟩:Mantle)]:List Mantle))) H)
   · have H:=zaf H hb23
     refine W.exit (At.xthen (At.xthen (At.xhere (At.zad (W.seq (W.rg env [1,2,4,5,6,7,14] [2,4,5,6,7,900,901,950] ?_))))))
     refine W.block (At.zdw 6 2 902 35 7 (e:=fun i=>zaD (([]:List Burn).getD i default)) rfl rfl rfl ?_)
     refine At.zdw 7 1 951 3 1 (e:=fun i=>zac (([]:List Int).getD i default)) rfl rfl rfl ?_
     refine At.kp [1,2,4,5,6,7,14] [2,4,5,6,7,900,901,902,950,951] ?_
     refine W.loopGo H (fun (s38:Int×(List Burn)×(List Int))=>[(1,roL 1 zac p1),(2,.lp 2 0),(4,.lp 4 0),(5,.lp 5 0),(6,.lp 6 0),(7,.lp 7 0),(14,.int .i64 (s38.1))]) (fun (s38:Int×(List Burn)×(List Int))=>[(2,.cells [roL 2 zcR p0.Batches,roL 4 zba p0.Mantles,roL 5 zcQ p0.Burns,roL 4 zba p0.Looks]),(4,.cells [.nilS,.nilS,.nilS,.nilS]),(5,.cells [.nilS,.nilS]),(6,.cells [.buf 900 (s1.2.1).length,.buf 901 (s22.2).length,.buf 902 (s38.2.1).length,.nilS]),(7,.cells [.buf 950 (s1.2.2).length,.buf 951 (s38.2.2).length]),(900,bufL 31 3 zay s1.2.1),(901,bufL 33 6 zaq s22.2),(902,bufL 35 7 zaD s38.2.1),(950,bufL 3 1 zac s1.2.2),(951,bufL 3 1 zac s38.2.2)]) (.cons .q (.cons .q (.cons .q (.cons .q (.cons .q (.cons .q (.cons .qi .nil))))))) (.cons .q (.cons (BSim.cells (.cons (by first|exact Sim.refl _|exact Sim.nil _ _) (.cons (by first|exact Sim.refl _|exact Sim.nil _ _) (.cons (by first|exact Sim.refl _|exact Sim.nil _ _) (.cons (by first|exact Sim.refl _|exact Sim.nil _ _) .nil))))) (.cons (BSim.cells (.cons (by first|exact Sim.refl _|exact Sim.nil _ _) (.cons (by first|exact Sim.refl _|exact Sim.nil _ _) .nil))) (.cons (BSim.cells (.cons .qc (.cons .qc (.cons .qc (.cons (by first|exact Sim.refl _|exact Sim.nil _ _) .nil))))) (.cons (BSim.cells (.cons .qc (.cons .qc .nil))) (.cons .q (.cons .q (.cons .q (.cons .q (.cons .q .nil)))))))))) (fun k38 s38 H K0 hK38=>?_)
     refine W.seq (W.sr env [] [] [1,2,4,5,6,7,14,135] [2,4,5,6,7,900,901,902,950,951] rfl rfl rfl (.cons id (.cons id .nil)) .nil ?_)
     refine W.cond rfl (fun hb39=>?_) (fun hb39=>?_)
     · have H:=zah H hb39
       refine W.skip (At.zad (W.seq (W.block ?_)))
       obtain ⟨hc40,H⟩:=zaa H
       refine W.sr env [] [] [1,2,4,5,6,7,14,15] [2,4,5,6,7,15,900,901,902,950,951] rfl rfl rfl (.cons hc40 .nil) .nil ?_
       refine W.seq ?_
       obtain ⟨y41,hy42,H⟩:=zab H
       refine W.region env [] [⟨.int .i64 (y41),[],0,[]⟩] rfl rfl rfl (.cons (by decide) .nil) (.free (zat ((p0.Burns.getD (s38.1).toNat default).x2) 40 hy42) .nil) (At.kp [1,2,4,5,6,7,14,15,16] [2,4,5,6,7,15,900,901,902,950,951] ?_)
       refine At.zad (W.seq ?_)
       obtain ⟨hc43,H⟩:=zaa H
       obtain ⟨y44,hy45,H⟩:=zab H
       obtain ⟨hc46,H⟩:=zaa H
       obtain ⟨y47,hy48,H⟩:=zab H
       obtain ⟨y49,hy50,H⟩:=zab H
       obtain ⟨hc51,H⟩:=zaa H
       obtain ⟨y52,hy53,H⟩:=zab H
       refine W.region env [] [⟨.int .i64 (y44),[],0,[]⟩,⟨.int .i64 (y47),[],0,[]⟩,⟨.int .i64 (y49),[],0,[]⟩,⟨.int .i64 (y52),[],0,[]⟩] rfl rfl (by kernel_rfl) (.cons hc43 (.cons (by decide) (.cons hc46 (.cons (by decide) (.cons (by decide) (.cons hc51 (.cons (by decide) .nil))))))) (.free (zat ((p0.Burns.getD (s38.1).toNat default).x0) 5 hy45) (.free (zat ((p0.Burns.getD (s38.1).toNat default).x1) 10 hy48) (.free (zat ((p0.Burns.getD (s38.1).toNat default).x3) 30 hy50) (.free (zat ((p0.Burns.getD (s38.1).toNat default).x4) 12 hy53) .nil)))) (At.kp [1,2,4,5,6,7,14,17] [2,4,5,6,7,17,900,901,902,950,951] ?_)
       refine At.zad (W.seq ?_)
       obtain ⟨hc54,H⟩:=zaa H
       refine W.region env [] [] rfl rfl rfl (.cons (⟨by first|rfl|(simp;done)|omega|(simp;omega),by have:=hc54;first|simpa using this|(unfold room at this ⊢;simp at this ⊢;omega)⟩) .nil) .nil (At.kp [1,2,4,5,6,7,14,17] [2,4,5,6,7,17,900,901,902,950,951] ?_)
       refine At.zbj (.cons (.refl _) (.cons (.refl _) (.cons (.refl _) (.cons (.refl _) (.cons (.refl _) (.cons (.refl _) (.cons (.refl _) (.cons (.refl _) (.cons (y:=bufL 35 7 zaD (s38.2.1++([(⟨(20+s38.1),(1+y44),y47,(⟨y41,(y41+y49)⟩:Range),y52,0⟩:Burn)]:List Burn))) (BSim.seg (Seg.push (Seg.refl zaD _) (Seg.lit (f:=zaD) (sz:=7) ([(⟨(20+s38.1),(1+y44),y47,(⟨y41,(y41+y49)⟩:Range),y52,0⟩:Burn)]:List Burn) rfl rfl (fun _=>rfl)))) (.cons (.refl _) (.cons (.refl _) .nil))))))))))) ?_
       refine At.zad ?_
       obtain ⟨hc55,H⟩:=zaa H
       obtain ⟨y56,hy57,H⟩:=zab H
       obtain ⟨hc58,H⟩:=zaa H
       obtain ⟨hc59,H⟩:=zaa H
       obtain ⟨y60,hy61,H⟩:=zab H
       obtain ⟨hc62,H⟩:=zaa H
       obtain ⟨hc63,H⟩:=zaa H
       refine W.region env [] [⟨.int .i64 (y56),[],0,[]⟩,⟨.int .i64 (y60),[],0,[]⟩] rfl rfl (by kernel_rfl) (.cons hc55 (.cons hc58 (.cons hc59 (.cons hc62 (.cons (⟨by first|rfl|(simp;done)|omega|(simp;omega),by have:=hc63;first|simpa using this|(unfold room at this ⊢;simp at this ⊢;omega)⟩) .nil))))) (.free (zen p1 (s38.1+2) hy57) (.free (zat y56 (((y41+y49) - y41)+1) hy61) .nil)) (At.kp [1,2,4,5,6,7,14] [2,4,5,6,7,900,901,902,950,951] ?_)
       refine At.zbj (.cons (.refl _) (.cons (.refl _) (.cons (.refl _) (.cons (.refl _) (.cons (.refl _) (.cons (.refl _) (.cons (.refl _) (.cons (.refl _) (.cons (.refl _) (.cons (y:=bufL 3 1 zac (s38.2.2++([(y41+y60)]:List Int))) (BSim.seg (Seg.push (Seg.refl zac _) (Seg.lit (f:=zac) (sz:=1) ([(y41+y60)]:List Int) rfl rfl (fun _=>rfl)))) .nil)))))))))) ?_
       refine At.inb (At.zad ?_)
       obtain ⟨hc64,H⟩:=zaa H
       refine W.region env [] [] rfl rfl rfl (.cons hc64 .nil) .nil (At.kp [1,2,4,5,6,7,14] [2,4,5,6,7,900,901,902,950,951] ?_)
       refine At.zaM (At.kp [1,2,4,5,6,7,14] [2,4,5,6,7,900,901,902,950,951] ?_)
       exact At.conv (.cons .q (.cons .q (.cons .q (.cons .q (.cons .q (.cons .q (.cons .qi .nil))))))) (.cons .q (.cons (BSim.cells (.cons (by first|exact Sim.refl _|exact Sim.nil _ _) (.cons (by first|exact Sim.refl _|exact Sim.nil _ _) (.cons (by first|exact Sim.refl _|exact Sim.nil _ _) (.cons (by first|exact Sim.refl _|exact Sim.nil _ _) .nil))))) (.cons (BSim.cells (.cons (by first|exact Sim.refl _|exact Sim.nil _ _) (.cons (by first|exact Sim.refl _|exact Sim.nil _ _) .nil))) (.cons (BSim.cells (.cons .qc (.cons .qc (.cons .qc (.cons (by first|exact Sim.refl _|exact Sim.nil _ _) .nil))))) (.cons (BSim.cells (.cons .qc (.cons .qc .nil))) (.cons .q (.cons .q (.cons .q (.cons .q (.cons .q .nil)))))))))) (hK38 ((s38.1+1),(s38.2.1++([(⟨(20+s38.1),(1+y44),y47,(⟨y41,(y41+y49)⟩:Range),y52,0⟩:Burn)]:List Burn)),(s38.2.2++([(y41+y60)]:List Int))) H)
     · have H:=zaf H hb39
       refine W.exit (At.xthen (At.xthen (At.xhere (At.zad (W.seq (W.rg env [2,4,5,6,7,18] [2,4,5,6,7,900,901,902,950,951] ?_))))))
       refine W.block (At.zdw 6 3 903 37 6 (e:=fun i=>zam (([]:List Look).getD i default)) rfl rfl rfl ?_)
       refine At.kp [2,4,5,6,7,18] [2,4,5,6,7,900,901,902,903,950,951] ?_
       refine W.loopGo H (fun (s65:Int×(List Look))=>[(2,.lp 2 0),(4,.lp 4 0),(5,.lp 5 0),(6,.lp 6 0),(7,.lp 7 0),(18,.int .i64 (s65.1))]) (fun (s65:Int×(List Look))=>[(2,.cells [roL 2 zcR p0.Batches,roL 4 zba p0.Mantles,roL 5 zcQ p0.Burns,roL 4 zba p0.Looks]),(4,.cells [.nilS,.nilS,.nilS,.nilS]),(5,.cells [.nilS,.nilS]),(6,.cells [.buf 900 (s1.2.1).length,.buf 901 (s22.2).length,.buf 902 (s38.2.1).length,.buf 903 (s65.2).length]),(7,.cells [.buf 950 (s1.2.2).length,.buf 951 (s38.2.2).length]),(900,bufL 31 3 zay s1.2.1),(901,bufL 33 6 zaq s22.2),(902,bufL 35 7 zaD s38.2.1),(903,bufL 37 6 zam s65.2),(950,bufL 3 1 zac s1.2.2),(951,bufL 3 1 zac s38.2.2)]) (.cons .q (.cons .q (.cons .q (.cons .q (.cons .q (.cons .qi .nil)))))) (.cons .q (.cons (BSim.cells (.cons (by first|exact Sim.refl _|exact Sim.nil _ _) (.cons (by first|exact Sim.refl _|exact Sim.nil _ _) (.cons (by first|exact Sim.refl _|exact Sim.nil _ _) (.cons (by first|exact Sim.refl _|exact Sim.nil _ _) .nil))))) (.cons (BSim.cells (.cons (by first|exact Sim.refl _|exact Sim.nil _ _) (.cons (by first|exact Sim.refl _|exact Sim.nil _ _) .nil))) (.cons (BSim.cells (.cons .qc (.cons .qc (.cons .qc (.cons .qc .nil))))) (.cons (BSim.cells (.cons .qc (.cons .qc .nil))) (.cons .q (.cons .q (.cons .q (.cons .q (.cons .q (.cons .q .nil))))))))))) (fun k65 s65 H K0 hK65=>?_)
       refine W.seq (W.sr env [] [] [2,4,5,6,7,18,202] [2,4,5,6,7,900,901,902,903,950,951] rfl rfl rfl (.cons id (.cons id .nil)) .nil ?_)
       refine W.cond rfl (fun hb66=>?_) (fun hb66=>?_)
       · have H:=zah H hb66
         refine W.skip (At.zad (W.seq (W.block ?_)))
         obtain ⟨hc67,H⟩:=zaa H
         refine W.sr env [] [] [2,4,5,6,7,18,19] [2,4,5,6,7,19,900,901,902,903,950,951] rfl rfl rfl (.cons hc67 .nil) .nil ?_
         obtain ⟨hc68,H⟩:=zaa H
         obtain ⟨y69,hy70,H⟩:=zab H
         obtain ⟨hc71,H⟩:=zaa H
         obtain ⟨y72,hy73,H⟩:=zab H
         obtain ⟨y74,hy75,H⟩:=zab H
         obtain ⟨y76,hy77,H⟩:=zab H
         obtain ⟨hc78,H⟩:=zaa H
         refine W.region env [] [⟨.int .i64 (y69),[],0,[]⟩,⟨.int .i64 (y72),[],0,[]⟩,⟨.int .i64 (y74),[],0,[]⟩,⟨.int .i64 (y76),[],0,[]⟩] rfl rfl (by kernel_rfl) (.cons hc68 (.cons (by decide) (.cons hc71 (.cons (by decide) (.cons (by decide) (.cons (by decide) (.cons (⟨by first|rfl|(simp;done)|omega|(simp;omega),by have:=hc78;first|simpa using this|(unfold room at this ⊢;simp at this ⊢;omega)⟩) .nil))))))) (.free (zat ((p0.Looks.getD (s65.1).toNat default).x0) 5 hy70) (.free (zat ((p0.Looks.getD (s65.1).toNat default).x1) 10 hy73) (.free (zat ((p0.Looks.getD (s65.1).toNat default).x2) 2 hy75) (.free (zat ((p0.Looks.getD (s65.1).toNat default).x3) 12 hy77) .nil)))) (At.kp [2,4,5,6,7,18] [2,4,5,6,7,900,901,902,903,950,951] ?_)
         refine At.zbj (.cons (.refl _) (.cons (.refl _) (.cons (.refl _) (.cons (.refl _) (.cons (.refl _) (.cons (.refl _) (.cons (.refl _) (.cons (.refl _) (.cons (y:=bufL 37 6 zam (s65.2++([(⟨(50+s65.1),(1+y69),y72,(decide (y74=1)),y76,0⟩:Look)]:List Look))) (BSim.seg (Seg.push (Seg.refl zam _) (Seg.lit (f:=zam) (sz:=6) ([(⟨(50+s65.1),(1+y69),y72,(decide (y74=1)),y76,0⟩:Look)]:List Look) rfl rfl (fun _=>rfl)))) (.cons (.refl _) (.cons (.refl _) .nil))))))))))) ?_
         refine At.inb (At.zad ?_)
         obtain ⟨hc79,H⟩:=zaa H
         refine W.region env [] [] rfl rfl rfl (.cons hc79 .nil) .nil (At.kp [2,4,5,6,7,18] [2,4,5,6,7,900,901,902,903,950,951] ?_)
         refine At.zaM (At.kp [2,4,5,6,7,18] [2,4,5,6,7,900,901,902,903,950,951] ?_)
         exact At.conv (.cons .q (.cons .q (.cons .q (.cons .q (.cons .q (.cons .qi .nil)))))) (.cons .q (.cons (BSim.cells (.cons (by first|exact Sim.refl _|exact Sim.nil _ _) (.cons (by first|exact Sim.refl _|exact Sim.nil _ _) (.cons (by first|exact Sim.refl _|exact Sim.nil _ _) (.cons (by first|exact Sim.refl _|exact Sim.nil _ _) .nil))))) (.cons (BSim.cells (.cons (by first|exact Sim.refl _|exact Sim.nil _ _) (.cons (by first|exact Sim.refl _|exact Sim.nil _ _) .nil))) (.cons (BSim.cells (.cons .qc (.cons .qc (.cons .qc (.cons .qc .nil))))) (.cons (BSim.cells (.cons .qc (.cons .qc .nil))) (.cons .q (.cons .q (.cons .q (.cons .q (.cons .q (.cons .q .nil))))))))))) (hK65 ((s65.1+1),(s65.2++([(⟨(50+s65.1),(1+y69),y72,(decide (y74=1)),y76,0⟩:Look)]:List Look))) H)
       · have H:=zaf H hb66
         refine W.exit (At.xthen (At.xthen (At.xhere (At.zad (W.sr env [] [] [4,5] [4,5,900,901,902,903,950,951] rfl rfl (by first|rfl|kernel_rfl) .nil .nil ?_)))))
         refine W.ret ?_
         cases H
         exact At.ret env.ty rfl rfl (fun q hq=>by cases hq;exact (by (repeat' apply And.intro) <;> first|rfl|(simp;done)|omega|(simp;omega))) (.refl _) hval
theorem zlH (p0:Wear) {r:Wear} (H:zbN p0=some r):Ctr Tryz.prog 68 [.agg (zan p0)] (.agg (zan r)):=by
 unfold zbN at H
 refine Ctr.zal (N:=20) Tryz.func68 (by kernel_rfl) (c:=_) rfl Tryz.ntmps68 rfl (fun w0 h0 hval=>?_)
 refine W.rg env [1,2] [1,2] ?_
 refine W.seq ?_
 obtain ⟨hc1,H⟩:=zaa H
 obtain ⟨hc2,H⟩:=zaa H
 obtain ⟨hc3,H⟩:=zaa H
 obtain ⟨hc4,H⟩:=zaa H
 refine W.region env [3,7,11,15] [] rfl rfl (by first|rfl|kernel_rfl) (.cons (⟨by first|rfl|(simp;done)|omega|(simp;omega),by have:=hc1;first|simpa using this|(unfold room at this ⊢;simp at this ⊢;omega)⟩) (.cons (⟨by first|rfl|(simp;done)|omega|(simp;omega),by have:=hc2;first|simpa using this|(unfold room at this ⊢;simp at this ⊢;omega)⟩) (.cons (⟨by first|rfl|(simp;done)|omega|(simp;omega),by have:=hc3;first|simpa using this|(unfold room at this ⊢;simp at this ⊢;omega)⟩) (.cons (⟨by first|rfl|(simp;done)|omega|(simp;omega),by have:=hc4;first|simpa using this|(unfold room at this ⊢;simp at this ⊢;omega)⟩) .nil)))) .nil (At.kp [2] [2,3,7,11,15] ?_)
 refine At.zbj (.cons (.refl _) (.cons (y:=bufL 31 3 zay (([]:List Batch)++p0.Batches)) (BSim.seg (Seg.push (Seg.lit (f:=zay) (sz:=3) ([]:List Batch) rfl rfl (fun _=>rfl)) (Seg.refl zay p0.Batches))) (.cons (y:=bufL 33 6 zaq (([]:List Mantle)++p0.Mantles)) (BSim.seg (Seg.push (Seg.lit (f:=zaq) (sz:=6) ([]:List Mantle) rfl rfl (fun _=>rfl)) (Seg.refl zaq p0.Mantles))) (.cons (y:=bufL 35 7 zaD (([]:List Burn)++p0.Burns)) (BSim.seg (Seg.push (Seg.lit (f:=zaD) (sz:=7) ([]:List Burn) rfl rfl (fun _=>rfl)) (Seg.refl zaD p0.Burns))) (.cons (y:=bufL 37 6 zam (([]:List Look)++p0.Looks)) (BSim.seg (Seg.push (Seg.lit (f:=zam) (sz:=6) ([]:List Look) rfl rfl (fun _=>rfl)) (Seg.refl zam p0.Looks))) .nil))))) ?_
 refine At.zad (W.ret ?_)
 cases H
 exact At.ret env.ty rfl rfl (fun q hq=>by cases hq;exact (by (repeat' apply And.intro) <;> first|rfl|(simp;done)|omega|(simp;omega))) (.refl _) hval
theorem zcE (p0:Int) (p1:Int) (p2:Int):Ctr Tryz.prog 153 [.int .i64 (p0),.int .i64 (p1),.int .i64 (p2)] (.bool ((zaI p0 p1 p2))):=by
 obtain ⟨r,H⟩:∃ r,zaI p0 p1 p2=r:=⟨_,rfl⟩
 rw [H]
 unfold zaI at H
 refine Ctr.zal (N:=19) Tryz.func153 (by kernel_rfl) (c:=_) rfl Tryz.ntmps153 rfl (fun w0 h0 hval=>?_)
 refine W.rg env [0,1,2] [] ?_
 refine W.sr env [] [] [6] [] rfl rfl rfl (.cons id (.cons id (.cons id (.cons id (.cons id (.cons (fun hW h=>by revert hW h;first|(simp +contextual;done)|grind) (.cons id .nil))))))) .nil ?_
 refine W.ret ?_
 cases H
 exact At.ret env.ty rfl rfl nofun (.refl _) hval
theorem zdJ (fuel:Nat) (p0:Wear) (p1:Int) (p2:Int) (p3:Int) {r:(Mantle×Bool)} (H:zbO fuel p0 p1 p2 p3=some r):Ctr Tryz.prog 94 [.agg (zan p0),.int .i64 (p1),.int .i64 (p2),.int .i64 (p3)] (.tup [.agg [.int .i64 (r.1.Source),.int .i64 (r.1.Lamp),.int .i64 (r.1.Batch),.int .i64 (r.1.Night),.int .i64 (r.1.Known),.int .i64 (r.1.Until)],.bool (r.2)]):=by
 unfold zbO at H
 refine Ctr.zal (N:=58) Tryz.func94 (by kernel_rfl) (c:=_) rfl Tryz.ntmps94 rfl (fun w0 h0 hval=>?_)
 refine W.rg env [1,2,3,4,8] [4,8] ?_
 refine W.rg env [1,2,3,4,8,10] [4,8,10] ?_
 refine W.rg env [1,2,3,4,8,10,11] [4,8,10] ?_
 refine W.seq (W.rg env [1,2,3,4,8,10,11,12] [4,8,10] ?_)
 refine W.block (At.kp [1,2,3,4,8,10,11,12] [4,8,10] ?_)
 refine W.loopGo H (fun (s1:Bool×Int×Mantle)=>[(1,.int .i64 (p1)),(2,.int .i64 (p2)),(3,.int .i64 (p3)),(4,.lp 4 0),(8,.lp 8 0),(10,.lp 10 0),(11,.bool (s1.1)),(12,.int .i64 (s1.2.1))]) (fun (s1:Bool×Int×Mantle)=>[(4,.cells (zan p0)),(8,.cells [.int .i64 (0),.int .i64 (0),.int .i64 (0),.int .i64 (0),.int .i64 (0),.int .i64 (0)]),(10,.cells [.int .i64 (s1.2.2.Source),.int .i64 (s1.2.2.Lamp),.int .i64 (s1.2.2.Batch),.int .i64 (s1.2.2.Night),.int .i64 (s1.2.2.Known),.int .i64 (s1.2.2.Until)])]) (.cons .qi (.cons .qi (.cons .qi (.cons .q (.cons .q (.cons .q (.cons .q (.cons .qi .nil)))))))) (.cons .q (.cons .q (.cons .q .nil))) (fun k1 s1 H K0 hK1=>?_)
 refine W.seq (W.rg env [1,2,3,4,8,10,11,12,18] [4,8,10] ?_)
 refine W.cond rfl (fun hb2=>?_) (fun hb2=>?_)
 · have H:=zah H hb2
   refine W.skip (At.zad (W.seq (W.block ?_)))
   obtain ⟨hc3,H⟩:=zaa H
   refine W.sr env [] [] [1,2,3,4,8,10,11,12,13] [4,8,10,13] rfl rfl rfl (.cons hc3 .nil) .nil ?_
   refine W.sr env [] [⟨.bool ((zaI ((p0.Mantles.getD (s1.2.1).toNat default).Known) ((p0.Mantles.getD (s1.2.1).toNat default).Until) p3)),[],0,[]⟩] [1,2,3,4,8,10,11,12,13,54] [4,8,10,13] rfl rfl rfl (.cons id (.cons id (.cons id (.cons id (.cons id (.cons id (.cons id (.cons id (.cons id (.cons id (.cons id (.cons id (.cons id (.cons id (.cons id (.cons id (.cons id (.cons (fun hW h=>by revert hW h;first|(simp +contextual;done)|grind) (.cons id .nil))))))))))))))))))) (.on (fun hW=>zcE ((p0.Mantles.getD (s1.2.1).toNat default).Known) ((p0.Mantles.getD (s1.2.1).toNat default).Until) p3) .nil) ?_
   refine W.cond rfl (fun hb4=>?_) (fun hb4=>?_)
   · have H:=zah H hb4
     refine W.rg env [1,2,3,4,8,10,12] [4,8,10] ?_
     refine W.region env [] [] rfl rfl rfl .nil .nil (At.kp [1,2,3,4,8,10,11,12] [4,8,10] ?_)
     refine At.inb (At.zad ?_)
     obtain ⟨hc5,H⟩:=zaa H
     refine W.region env [] [] rfl rfl rfl (.cons hc5 .nil) .nil (At.kp [1,2,3,4,8,10,11,12] [4,8,10] ?_)
     refine At.zaM (At.kp [1,2,3,4,8,10,11,12] [4,8,10] ?_)
     exact At.conv (.cons .qi (.cons .qi (.cons .qi (.cons .q (.cons .q (.cons .q (.cons .q (.cons .qi .nil)))))))) (.cons .q (.cons .q (.cons .q .nil))) (hK1 (true,(s1.2.1+1),(p0.Mantles.getD (s1.2.1).toNat default)) H)
   · have H:=zaf H hb4
     refine W.skip (At.inb (At.zad ?_))
     obtain ⟨hc6,H⟩:=zaa H
     refine W.region env [] [] rfl rfl rfl (.cons hc6 .nil) .nil (At.kp [1,2,3,4,8,10,11,12] [4,8,10] ?_)
     refine At.zaM (At.kp [1,2,3,4,8,10,11,12] [4,8,10] ?_)
     exact At.conv (.cons .qi (.cons .qi (.cons .qi (.cons .q (.cons .q (.cons .q (.cons .q (.cons .qi .nil)))))))) (.cons .q (.cons .q (.cons .q .nil))) (hK1 (s1.1,(s1.2.1+1),s1.2.2) H)
 · have H:=zaf H hb2
   refine W.exit (At.xthen (At.xthen (At.xhere (At.zad (W.rg env [8,9] [8] ?_)))))
   refine W.ret ?_
   cases H
   exact At.ret env.ty rfl rfl nofun (.refl _) hval
theorem zfx (fuel:Nat) (p0:Wear) (p1:Int) {r:(List Bool)} (H:zbH fuel p0 p1=some r):Ctr Tryz.prog 144 [.agg (zan p0),.int .i64 (p1)] (roL 1 zes r):=by
 unfold zbH at H
 refine Ctr.zal (N:=86) Tryz.func144 (by kernel_rfl) (c:=_) rfl Tryz.ntmps144 rfl (fun w0 h0 hval=>?_)
 refine W.rg env [1,2] [2] ?_
 refine W.rg env [1,2,5] [2] ?_
 refine W.seq (W.rg env [1,2,5,6] [2] ?_)
 refine W.block (At.zfO 5 505 4 1 (e:=fun i=>zes (([]:List Bool).getD i default)) rfl rfl ?_)
 refine At.kp [1,2,5,6] [2,505] ?_
 refine W.loopGo H (fun (s1:Int×(List Bool))=>[(1,.int .i64 (p1)),(2,.lp 2 0),(5,.buf 505 (s1.2).length),(6,.int .i64 (s1.1))]) (fun (s1:Int×(List Bool))=>[(2,.cells (zan p0)),(505,bufL 4 1 zes s1.2)]) (.cons .qi (.cons .q (.cons .qb (.cons .qi .nil)))) (.cons .q (.cons .q .nil)) (fun k1 s1 H K0 hK1=>?_)
 refine W.seq (W.rg env [1,2,5,6,16] [2,505] ?_)
 refine W.cond rfl (fun hb2=>?_) (fun hb2=>?_)
 · have H:=zah H hb2
   refine W.skip (At.zad (W.seq (W.block ?_)))
   obtain ⟨hc3,H⟩:=zaa H
   refine W.sr env [] [] [1,2,5,6,7] [2,7,505] rfl rfl rfl (.cons hc3 .nil) .nil ?_
   refine W.seq ?_
   obtain ⟨y4,hy5,H⟩:=zab H
   refine W.region env [] [⟨.tup [.agg [.int .i64 (y4.1.Source),.int .i64 (y4.1.Lamp),.int .i64 (y4.1.Batch),.int .i64 (y4.1.Night),.int .i64 (y4.1.Known),.int .i64 (y4.1.Until)],.bool (y4.2)],[],0,[]⟩] rfl rfl rfl .nil (.free (zdJ fuel p0 ((p0.Burns.getD (s1.1).toNat default).Lamp) ((p0.Burns.getD (s1.1).toNat default).Night) p1 hy5) .nil) (At.kp [1,2,5,6,7,9] [2,7,505] ?_)
   refine At.zad (W.sr env [] [⟨.bool ((zaI ((p0.Burns.getD (s1.1).toNat default).Known) ((p0.Burns.getD (s1.1).toNat default).Until) p1)),[],0,[]⟩] [1,2,5,6,7,9] [2,7,505] rfl rfl rfl (.cons id (.cons id (.cons id (.cons id (.cons id (.cons id .nil)))))) (.on (fun hW=>zcE ((p0.Burns.getD (s1.1).toNat default).Known) ((p0.Burns.getD (s1.1).toNat default).Until) p1) .nil) ?_)
   refine W.seq ?_
   obtain ⟨hc6,H⟩:=zaa H
   refine W.sr env [] [] [1,2,5,6,7,9,10] [2,7,505] rfl rfl rfl (.cons hc6 .nil) .nil ?_
   refine W.block (At.kp [1,2,5,6,7,9,10] [2,7,505] ?_)
   refine W.loopGo H (fun (s7:Int×Bool)=>[(1,.int .i64 (p1)),(2,.lp 2 0),(5,.buf 505 (s1.2).length),(6,.int .i64 (s1.1)),(7,.lp 7 0),(9,.bool (s7.2)),(10,.int .i64 (s7.1))]) (fun (s7:Int×Bool)=>[(2,.cells (zan p0)),(7,.cells [.int .i64 ((p0.Burns.getD (s1.1).toNat default).Source),.int .i64 ((p0.Burns.getD (s1.1).toNat default).Lamp),.int .i64 ((p0.Burns.getD (s1.1).toNat default).Night),.int .i64 ((p0.Burns.getD (s1.1).toNat default).Minutes.Lo),.int .i64 ((p0.Burns.getD (s1.1).toNat default).Minutes.Hi),.int .i64 ((p0.Burns.getD (s1.1).toNat default).Known),.int .i64 ((p0.Burns.getD (s1.1).toNat default).Until)]),(505,bufL 4 1 zes s1.2)]) (.cons .qi (.cons .q (.cons .qb (.cons .qi (.cons .q (.cons .q (.cons .qi .nil))))))) (.cons .q (.cons .q (.cons .q .nil))) (fun k7 s7 H K0 hK7=>?_)
   refine W.seq (W.rg env [1,2,5,6,7,9,10,49] [2,7,505] ?_)
   refine W.cond rfl (fun hb8=>?_) (fun hb8=>?_)
   · have H:=zah H hb8
     refine W.skip (At.zad (W.seq (W.block ?_)))
     obtain ⟨hc9,H⟩:=zaa H
     refine W.sr env [] [] [1,2,5,6,7,9,10,11] [2,7,11,505] rfl rfl rfl (.cons hc9 .nil) .nil ?_
     refine W.region env [] [⟨.bool ((zaI ((p0.Burns.getD (s7.1).toNat default).Known) ((p0.Burns.getD (s7.1).toNat default).Until) p1)),[],0,[]⟩] rfl rfl rfl (.cons id (.cons id (.cons id (.cons id (.cons id (.cons id (.cons id (.cons id (.cons id (.cons id (.cons (fun hW h=>by revert hW h;first|(simp +contextual;done)|grind) (.cons id (.cons id (.cons id (.cons id (.cons id (.cons id (.cons id (.cons id (.cons (fun hW h=>by revert hW h;first|(simp +contextual;done)|grind) (.cons id .nil))))))))))))))))))))) (.on (fun hW=>zcE ((p0.Burns.getD (s7.1).toNat default).Known) ((p0.Burns.getD (s7.1).toNat default).Until) p1) .nil) (At.kp [1,2,5,6,7,9,10] [2,7,505] ?_)
     refine At.inb (At.zad ?_)
     obtain ⟨hc10,H⟩:=zaa H
     refine W.region env [] [] rfl rfl rfl (.cons hc10 .nil) .nil (At.kp [1,2,5,6,7,9,10] [2,7,505] ?_)
     refine At.zaM (At.kp [1,2,5,6,7,9,10] [2,7,505] ?_)
     exact At.conv (.cons .qi (.cons .q (.cons .qb (.cons .qi (.cons .q (.cons .q (.cons .qi .nil))))))) (.cons .q (.cons .q (.cons .q .nil))) (hK7 ((s7.1+1),(s7.2 && (((!decide ((p0.Burns.getD (s7.1).toNat default).Lamp=(p0.Burns.getD (s1.1).toNat default).Lamp)) || (!decide ((p0.Burns.getD (s7.1).toNat default).Night=(p0.Burns.getD (s1.1).toNat default).Night))) || (!(zaI ((p0.Burns.getD (s7.1).toNat default).Known) ((p0.Burns.getD (s7.1).toNat default).Until) p1))))) H)
   · have H:=zaf H hb8
     refine W.exit (At.xthen (At.xthen (At.xhere (At.zad ?_))))
     obtain ⟨hc11,H⟩:=zaa H
     refine W.region env [] [] rfl rfl rfl (.cons (⟨by first|rfl|(simp;done)|omega|(simp;omega),by have:=hc11;first|simpa using this|(unfold room at this ⊢;simp at this ⊢;omega)⟩) .nil) .nil (At.kp [1,2,5,6] [2,505] ?_)
     refine At.zbj (.cons (.refl _) (.cons (y:=bufL 4 1 zes (s1.2++([s7.2]:List Bool))) (BSim.seg (Seg.push (Seg.refl zes _) (Seg.lit (f:=zes) (sz:=1) ([s7.2]:List Bool) rfl rfl (fun _=>rfl)))) .nil)) ?_
     refine At.inb (At.zad ?_)
     obtain ⟨hc12,H⟩:=zaa H
     refine W.region env [] [] rfl rfl rfl (.cons hc12 .nil) .nil (At.kp [1,2,5,6] [2,505] ?_)
     refine At.zaM (At.kp [1,2,5,6] [2,505] ?_)
     exact At.conv (.cons .qi (.cons .q (.cons .qb (.cons .qi .nil)))) (.cons .q (.cons .q .nil)) (hK1 ((s1.1+1),(s1.2++([s7.2]:List Bool))) H)
 · have H:=zaf H hb2
   refine W.exit (At.xthen (At.xthen (At.xhere (At.zad (W.rg env [4] [505] ?_)))))
   refine W.ret ?_
   cases H
   exact At.ret env.ty rfl rfl (fun q hq=>by cases hq;exact (by first|rfl|(simp;done)|omega|(simp;omega))) (.refl _) hval
theorem zhs (p0:Int) (p1:Int) (p2:Int):Ctr Tryz.prog 83 [.int .i64 (p0),.int .i64 (p1),.int .i64 (p2)] (.bool ((zaE p0 p1 p2))):=by
 obtain ⟨r,H⟩:∃ r,zaE p0 p1 p2=r:=⟨_,rfl⟩
 rw [H]
 unfold zaE at H
 refine Ctr.zal (N:=15) Tryz.func83 (by kernel_rfl) (c:=_) rfl Tryz.ntmps83 rfl (fun w0 h0 hval=>?_)
 refine W.rg env [0,1,2] [] ?_
 refine W.sr env [] [] [6] [] rfl rfl rfl (.cons id (.cons id (.cons id .nil))) .nil ?_
 refine W.ret ?_
 cases H
 exact At.ret env.ty rfl rfl nofun (.refl _) hval
theorem zgd (fuel:Nat) (p0:Wear) (p1:Lives) (p2:gasolierref06_When) {r:Bool} (H:zbX fuel p0 p1 p2=some r):Ctr Tryz.prog 89 [.agg (zan p0),.agg [roL 1 zac p1.Lives,roL 1 zac p1.Minutes],.agg [.int .i64 (p2.Lamp),.int .i64 (p2.Night),.int .i64 (p2.Known)]] (.bool (r)):=by
 unfold zbX at H
 refine Ctr.zal (N:=94) Tryz.func89 (by kernel_rfl) (c:=_) rfl Tryz.ntmps89 rfl (fun w0 h0 hval=>?_)
 refine W.rg env [3,4,5] [3,4,5] ?_
 refine W.seq ?_
 obtain ⟨y1,hy2,H⟩:=zab H
 refine W.region env [] [⟨.tup [.agg [.int .i64 (y1.1.Source),.int .i64 (y1.1.Lamp),.int .i64 (y1.1.Batch),.int .i64 (y1.1.Night),.int .i64 (y1.1.Known),.int .i64 (y1.1.Until)],.bool (y1.2)],[],0,[]⟩] rfl rfl rfl .nil (.free (zdJ fuel p0 p2.Lamp p2.Night p2.Known hy2) .nil) (At.kp [3,4,5,7,8] [3,4,5,7] ?_)
 refine At.zad (W.seq ?_)
 obtain ⟨y3,hy4,H⟩:=zab H
 refine W.region env [] [⟨roL 1 zes y3,[],0,[]⟩] rfl rfl rfl .nil (.free (zfx fuel p0 p2.Known hy4) .nil) (At.kp [3,4,5,7,8,9] [3,4,5,7] ?_)
 refine At.zad (W.rg env [3,4,5,7,8,9,10] [3,4,5,7] ?_)
 refine W.seq (W.rg env [3,4,5,7,8,9,10,11] [3,4,5,7] ?_)
 refine W.block (At.kp [3,4,5,7,8,9,10,11] [3,4,5,7] ?_)
 refine W.loopGo H (fun (s5:Int×Int)=>[(3,.lp 3 0),(4,.lp 4 0),(5,.lp 5 0),(7,.lp 7 0),(8,.bool (y1.2)),(9,roL 1 zes y3),(10,.int .i64 (s5.1)),(11,.int .i64 (s5.2))]) (fun (s5:Int×Int)=>[(3,.cells (zan p0)),(4,.cells [roL 1 zac p1.Lives,roL 1 zac p1.Minutes]),(5,.cells [.int .i64 (p2.Lamp),.int .i64 (p2.Night),.int .i64 (p2.Known)]),(7,.cells [.int .i64 (y1.1.Source),.int .i64 (y1.1.Lamp),.int .i64 (y1.1.Batch),.int .i64 (y1.1.Night),.int .i64 (y1.1.Known),.int .i64 (y1.1.Until)])]) (.cons .q (.cons .q (.cons .q (.cons .q (.cons .q (.cons .q (.cons .qi (.cons .qi .nil)))))))) (.cons .q (.cons .q (.cons .q (.cons .q .nil)))) (fun k5 s5 H K0 hK5=>?_)
 refine W.seq (W.rg env [3,4,5,7,8,9,10,11,33] [3,4,5,7] ?_)
 refine W.cond rfl (fun hb6=>?_) (fun hb6=>?_)
 · have H:=zah H hb6
   refine W.skip (At.zad (W.seq (W.block ?_)))
   obtain ⟨hc7,H⟩:=zaa H
   refine W.sr env [] [] [3,4,5,7,8,9,10,11,12] [3,4,5,7,12] rfl rfl rfl (.cons hc7 .nil) .nil ?_
   obtain ⟨hc8,H⟩:=zaa H
   refine W.sr env [] [⟨.bool ((zaE ((p0.Burns.getD (s5.2).toNat default).Night) y1.1.Night p2.Night)),[],0,[]⟩] [3,4,5,7,8,9,10,11,60] [3,4,5,7] rfl rfl rfl (.cons hc8 (.cons id (.cons id (.cons id (.cons id (.cons id (.cons id (.cons id (.cons id (.cons id (.cons id (.cons id (.cons id .nil))))))))))))) (.on (fun hW=>zhs ((p0.Burns.getD (s5.2).toNat default).Night) y1.1.Night p2.Night) .nil) ?_
   refine W.cond rfl (fun hb9=>?_) (fun hb9=>?_)
   · have H:=zah H hb9
     obtain ⟨hc10,H⟩:=zaa H
     obtain ⟨hc11,H⟩:=zaa H
     refine W.region env [] [] rfl rfl rfl (.cons hc10 (.cons hc11 .nil)) .nil (At.kp [3,4,5,7,8,9,10,11] [3,4,5,7] ?_)
     refine At.inb (At.zad ?_)
     obtain ⟨hc12,H⟩:=zaa H
     refine W.region env [] [] rfl rfl rfl (.cons hc12 .nil) .nil (At.kp [3,4,5,7,8,9,10,11] [3,4,5,7] ?_)
     refine At.zaM (At.kp [3,4,5,7,8,9,10,11] [3,4,5,7] ?_)
     exact At.conv (.cons .q (.cons .q (.cons .q (.cons .q (.cons .q (.cons .q (.cons .qi (.cons .qi .nil)))))))) (.cons .q (.cons .q (.cons .q (.cons .q .nil)))) (hK5 ((s5.1+(p1.Minutes.getD (s5.2).toNat default)),(s5.2+1)) H)
   · have H:=zaf H hb9
     refine W.skip (At.inb (At.zad ?_))
     obtain ⟨hc13,H⟩:=zaa H
     refine W.region env [] [] rfl rfl rfl (.cons hc13 .nil) .nil (At.kp [3,4,5,7,8,9,10,11] [3,4,5,7] ?_)
     refine At.zaM (At.kp [3,4,5,7,8,9,10,11] [3,4,5,7] ?_)
     exact At.conv (.cons .q (.cons .q (.cons .q (.cons .q (.cons .q (.cons .q (.cons .qi (.cons .qi .nil)))))))) (.cons .q (.cons .q (.cons .q (.cons .q .nil)))) (hK5 (s5.1,(s5.2+1)) H)
 · have H:=zaf H hb6
   refine W.exit (At.xthen (At.xthen (At.xhere (At.zad (W.seq (W.rg env [3,4,7,8,10,13] [3,4,7] ?_))))))
   refine W.block (At.kp [3,4,7,8,10,13] [3,4,7] ?_)
   refine W.loopGo H (fun (s14:Int)=>[(3,.lp 3 0),(4,.lp 4 0),(7,.lp 7 0),(8,.bool (y1.2)),(10,.int .i64 (s5.1)),(13,.int .i64 (s14))]) (fun (s14:Int)=>[(3,.cells (zan p0)),(4,.cells [roL 1 zac p1.Lives,roL 1 zac p1.Minutes]),(7,.cells [.int .i64 (y1.1.Source),.int .i64 (y1.1.Lamp),.int .i64 (y1.1.Batch),.int .i64 (y1.1.Night),.int .i64 (y1.1.Known),.int .i64 (y1.1.Until)])]) (.cons .q (.cons .q (.cons .q (.cons .q (.cons .qi (.cons .qi .nil)))))) (.cons .q (.cons .q (.cons .q .nil))) (fun k14 s14 H K0 hK14=>?_)
   refine W.seq (W.rg env [3,4,7,8,10,13,72] [3,4,7] ?_)
   refine W.cond rfl (fun hb15=>?_) (fun hb15=>?_)
   · have H:=zah H hb15
     refine W.skip (At.zad (W.seq (W.block ?_)))
     obtain ⟨hc16,H⟩:=zaa H
     refine W.sr env [] [] [3,4,7,8,10,13,83] [3,4,7] rfl rfl (by first|rfl|kernel_rfl) (.cons hc16 .nil) .nil ?_
     refine W.cond rfl (fun hb17=>?_) (fun hb17=>?_)
     · have H:=zah H hb17
       obtain ⟨hc18,H⟩:=zaa H
       refine W.sr env [] [] [6] [] rfl rfl rfl (.cons id (.cons hc18 (.cons id (.cons id (.cons id (.cons id (.cons id (.cons id .nil)))))))) .nil ?_
       refine W.ret (At.rinb ?_)
       refine At.rthen ?_
       refine At.rthen ?_
       refine At.rinb ?_
       refine At.rthen ?_
       cases H
       exact At.ret env.ty rfl rfl nofun (.refl _) hval
     · have H:=zaf H hb17
       refine W.skip (At.inb (At.zad ?_))
       obtain ⟨hc19,H⟩:=zaa H
       refine W.region env [] [] rfl rfl rfl (.cons hc19 .nil) .nil (At.kp [3,4,7,8,10,13] [3,4,7] ?_)
       refine At.zaM (At.kp [3,4,7,8,10,13] [3,4,7] ?_)
       exact At.conv (.cons .q (.cons .q (.cons .q (.cons .q (.cons .qi (.cons .qi .nil)))))) (.cons .q (.cons .q (.cons .q .nil))) (hK14 (s14+1) H)
   · have H:=zaf H hb15
     refine W.exit (At.xthen (At.xthen (At.xhere (At.zad (W.rg env [6] [] ?_)))))
     refine W.ret ?_
     cases H
     exact At.ret env.ty rfl rfl nofun (.refl _) hval
theorem zea (p0:Wear) {r:Wear} (H:zbN p0=some r):CtrO Tryz.prog 68 [.agg (zan p0)] [] (.agg [.buf 940 (r.Batches).length,.buf 941 (r.Mantles).length,.buf 942 (r.Burns).length,.buf 943 (r.Looks).length]) [(940,bufL 31 3 zay r.Batches),(941,bufL 33 6 zaq r.Mantles),(942,bufL 35 7 zaD r.Burns),(943,bufL 37 6 zam r.Looks)]:=by
 unfold zbN at H
 refine CtrO.zal (N:=20) Tryz.func68 (by kernel_rfl) (c:=_) rfl Tryz.ntmps68 rfl (fun w0 h0 ρb hval hdom=>?_)
 refine W.rg env [1,2] [1,2] ?_
 refine W.seq ?_
 obtain ⟨hc1,H⟩:=zaa H
 obtain ⟨hc2,H⟩:=zaa H
 obtain ⟨hc3,H⟩:=zaa H
 obtain ⟨hc4,H⟩:=zaa H
 refine W.region env [3,7,11,15] [] rfl rfl (by first|rfl|kernel_rfl) (.cons (⟨by first|rfl|(simp;done)|omega|(simp;omega),by have:=hc1;first|simpa using this|(unfold room at this ⊢;simp at this ⊢;omega)⟩) (.cons (⟨by first|rfl|(simp;done)|omega|(simp;omega),by have:=hc2;first|simpa using this|(unfold room at this ⊢;simp at this ⊢;omega)⟩) (.cons (⟨by first|rfl|(simp;done)|omega|(simp;omega),by have:=hc3;first|simpa using this|(unfold room at this ⊢;simp at this ⊢;omega)⟩) (.cons (⟨by first|rfl|(simp;done)|omega|(simp;omega),by have:=hc4;first|simpa using this|(unfold room at this ⊢;simp at this ⊢;omega)⟩) .nil)))) .nil (At.kp [2] [2,3,7,11,15] ?_)
 refine At.zbj (.cons (.refl _) (.cons (y:=bufL 31 3 zay (([]:List Batch)++p0.Batches)) (BSim.seg (Seg.push (Seg.lit (f:=zay) (sz:=3) ([]:List Batch) rfl rfl (fun _=>rfl)) (Seg.refl zay p0.Batches))) (.cons (y:=bufL 33 6 zaq (([]:List Mantle)++p0.Mantles)) (BSim.seg (Seg.push (Seg.lit (f:=zaq) (sz:=6) ([]:List Mantle) rfl rfl (fun _=>rfl)) (Seg.refl zaq p0.Mantles))) (.cons (y:=bufL 35 7 zaD (([]:List Burn)++p0.Burns)) (BSim.seg (Seg.push (Seg.lit (f:=zaD) (sz:=7) ([]:List Burn) rfl rfl (fun _=>rfl)) (Seg.refl zaD p0.Burns))) (.cons (y:=bufL 37 6 zam (([]:List Look)++p0.Looks)) (BSim.seg (Seg.push (Seg.lit (f:=zam) (sz:=6) ([]:List Look) rfl rfl (fun _=>rfl)) (Seg.refl zam p0.Looks))) .nil))))) ?_
 refine At.zad (W.ret ?_)
 cases H
 refine At.ren [(3,940),(7,941),(11,942),(15,943)] (K:=[2,3,7,11,15]) (ts:=[2]) rfl rfl rfl rfl rfl ?_
 exact At.retK env.ty [940,941,942,943] 0 rfl rfl rfl rfl (.cons (.refl _) (.cons (.refl _) (.cons (.refl _) (.cons (.refl _) .nil)))) (Sim.aggL (.cons .qc (.cons .qc (.cons .qc (.cons .qc .nil))))) hval hdom rfl
theorem zee (fuel:Nat) (p0:Wear) (p1:Lives) (p2:Int) {r:Wear} (H:zbB fuel p0 p1 p2=some r):Ctr Tryz.prog 29 [.agg (zan p0),.agg [roL 1 zac p1.Lives,roL 1 zac p1.Minutes],.int .i64 (p2)] (.agg (zan r)):=by
 unfold zbB at H
 refine Ctr.zal (N:=39) Tryz.func29 (by kernel_rfl) (c:=_) rfl Tryz.ntmps29 rfl (fun w0 h0 hval=>?_)
 refine W.rg env [2,3,4,6] [3,4,6] ?_
 refine W.seq ?_
 obtain ⟨y1,hy2,H⟩:=zab H
 refine W.region env [] [⟨.agg [.buf 940 (y1.Batches).length,.buf 941 (y1.Mantles).length,.buf 942 (y1.Burns).length,.buf 943 (y1.Looks).length],[(940,bufL 31 3 zay y1.Batches),(941,bufL 33 6 zaq y1.Mantles),(942,bufL 35 7 zaD y1.Burns),(943,bufL 37 6 zam y1.Looks)],12000,[]⟩] rfl rfl (by kernel_rfl) .nil (.free ((Ctr.ofO (zea p0 hy2))) .nil) (At.kp [2,3,4,6,7] [3,4,6,7,12940,12941,12942,12943] ?_)
 refine At.zad (W.seq (W.rg env [2,3,4,6,7,8] [3,4,6,7,12940,12941,12942,12943] ?_))
 refine W.block (At.kp [2,3,4,6,7,8] [3,4,6,7,12940,12941,12942,12943] ?_)
 refine W.loopGo H (fun (s3:Int×(List Look))=>[(2,.int .i64 (p2)),(3,.lp 3 0),(4,.lp 4 0),(6,.lp 6 0),(7,.lp 7 0),(8,.int .i64 (s3.1))]) (fun (s3:Int×(List Look))=>[(3,.cells (zan p0)),(4,.cells [roL 1 zac p1.Lives,roL 1 zac p1.Minutes]),(6,.cells [.nilS,.nilS,.nilS,.nilS]),(7,.cells [.buf 12940 (y1.Batches).length,.buf 12941 (y1.Mantles).length,.buf 12942 (y1.Burns).length,.buf 12943 (s3.2).length]),(12940,bufL 31 3 zay y1.Batches),(12941,bufL 33 6 zaq y1.Mantles),(12942,bufL 35 7 zaD y1.Burns),(12943,bufL 37 6 zam s3.2)]) (.cons .qi (.cons .q (.cons .q (.cons .q (.cons .q (.cons .qi .nil)))))) (.cons .q (.cons .q (.cons (BSim.cells (.cons (by first|exact Sim.refl _|exact Sim.nil _ _) (.cons (by first|exact Sim.refl _|exact Sim.nil _ _) (.cons (by first|exact Sim.refl _|exact Sim.nil _ _) (.cons (by first|exact Sim.refl _|exact Sim.nil _ _) .nil))))) (.cons (BSim.cells (.cons .qc (.cons .qc (.cons .qc (.cons .qc .nil))))) (.cons .q (.cons .q (.cons .q (.cons .q .nil)))))))) (fun k3 s3 H K0 hK3=>?_)
 refine W.seq (W.sr env [] [] [2,3,4,6,7,8,16] [3,4,6,7,12940,12941,12942,12943] rfl rfl rfl (.cons (by first|rfl|(simp;done)|omega|(simp;omega)) .nil) .nil ?_)
 refine W.cond rfl (fun hb4=>?_) (fun hb4=>?_)
 · have H:=zah H hb4
   refine W.skip (At.zad (W.seq (W.block ?_)))
   obtain ⟨hc5,H⟩:=zaa H
   refine W.sr env [] [] [2,3,4,6,7,8,9] [3,4,6,7,9,12940,12941,12942,12943] rfl rfl rfl (.cons (⟨by first|rfl|(simp;done)|omega|(simp;omega),hc5⟩) (.cons (⟨by first|rfl|(simp;done)|omega|(simp;omega),(by have:=hc5;first|omega|(simp only [List.length_set];omega)|(simp only [Int.toNat_natCast] at *;omega)|(simp at this ⊢;omega))⟩) .nil)) .nil ?_
   obtain ⟨y6,hy7,H⟩:=zab H
   obtain ⟨hc8,H⟩:=zaa H
   refine W.region env [] [⟨.bool (y6),[],0,[]⟩] rfl rfl (by kernel_rfl) (.cons (⟨by first|rfl|(simp;done)|omega|(simp;omega),hc8⟩) (.cons (⟨by first|rfl|(simp;done)|omega|(simp;omega),(by have:=hc8;first|omega|(simp only [List.length_set];omega)|(simp only [Int.toNat_natCast] at *;omega)|(simp at this ⊢;omega))⟩) .nil)) (.free (zgd fuel p0 p1 (⟨(s3.2.getD (s3.1).toNat default).Lamp,(s3.2.getD (s3.1).toNat default).Night,p2⟩:gasolierref06_When) hy7) .nil) (At.kp [2,3,4,6,7,8] [3,4,6,7,12940,12941,12942,12943] ?_)
   refine At.zbj (.cons (.refl _) (.cons (.refl _) (.cons (.refl _) (.cons (.refl _) (.cons (.refl _) (.cons (.refl _) (.cons (.refl _) (.cons (y:=bufL 37 6 zam (s3.2.set (s3.1).toNat (⟨(s3.2.getD (s3.1).toNat default).Source,(s3.2.getD (s3.1).toNat default).Lamp,(s3.2.getD (s3.1).toNat default).Night,y6,(s3.2.getD (s3.1).toNat default).Known,(s3.2.getD (s3.1).toNat default).Until⟩:Look))) (BSim.seg (Seg.set (Seg.refl zam _) (⟨(s3.2.getD (s3.1).toNat default).Source,(s3.2.getD (s3.1).toNat default).Lamp,(s3.2.getD (s3.1).toNat default).Night,y6,(s3.2.getD (s3.1).toNat default).Known,(s3.2.getD (s3.1).toNat default).Until⟩:Look) rfl)) .nil)))))))) ?_
   refine At.inb (At.zad ?_)
   obtain ⟨hc9,H⟩:=zaa H
   refine W.region env [] [] rfl rfl rfl (.cons hc9 .nil) .nil (At.kp [2,3,4,6,7,8] [3,4,6,7,12940,12941,12942,12943] ?_)
   refine At.zaM (At.kp [2,3,4,6,7,8] [3,4,6,7,12940,12941,12942,12943] ?_)
   exact At.conv (.cons .qi (.cons .q (.cons .q (.cons .q (.cons .q (.cons .qi .nil)))))) (.cons .q (.cons .q (.cons (BSim.cells (.cons (by first|exact Sim.refl _|exact Sim.nil _ _) (.cons (by first|exact Sim.refl _|exact Sim.nil _ _) (.cons (by first|exact Sim.refl _|exact Sim.nil _ _) (.cons (by first|exact Sim.refl _|exact Sim.nil _ _) .nil))))) (.cons (BSim.cells (.cons .qc (.cons .qc (.cons .qc (.cons .qc .nil))))) (.cons .q (.cons .q (.cons .q (.cons .q .nil)))))))) (hK3 ((s3.1+1),(s3.2.set (s3.1).toNat (⟨(s3.2.getD (s3.1).toNat default).Source,(s3.2.getD (s3.1).toNat default).Lamp,(s3.2.getD (s3.1).toNat default).Night,y6,(s3.2.getD (s3.1).toNat default).Known,(s3.2.getD (s3.1).toNat default).Until⟩:Look))) H)
 · have H:=zaf H hb4
   refine W.exit (At.xthen (At.xthen (At.xhere (At.zad (W.rg env [6] [6,12940,12941,12942,12943] ?_)))))
   refine W.ret ?_
   cases H
   exact At.ret env.ty rfl rfl (fun q hq=>by cases hq;exact (by (repeat' apply And.intro) <;> first|rfl|(simp;done)|omega|(simp;omega))) (.refl _) hval
theorem zju (fuel:Nat) (p0:Wear) (p1:Int) {r:(Bool×Int)} (H:zd9 fuel p0 p1=some r):Ctr Tryz.prog 30 [.agg (zan p0),.int .i64 (p1)] (.tup [.bool (r.1),.int .i64 (r.2)]):=by
 unfold zd9 at H
 refine Ctr.zal (N:=20) Tryz.func30 (by kernel_rfl) (c:=_) rfl Tryz.ntmps30 rfl (fun w0 h0 hval=>?_)
 refine W.rg env [1,2] [2] ?_
 refine W.seq (W.seq ?_)
 obtain ⟨y1,hy2,H⟩:=zab H
 refine W.region env [] [⟨.int .i64 (y1),[],0,[]⟩] rfl rfl rfl .nil (.free (Ctr.sim (.cons (.refl _) (.cons (Sim.lit (f:=zac) ([p1]:List Int) rfl rfl (fun _=>rfl)) .nil)) (zdI p0 ([p1]:List Int) hy2)) .nil) (At.kp [1,2,6] [2] ?_)
 refine At.zad (W.rg env [1,2,6,12] [2] ?_)
 refine W.cond rfl (fun hb3=>?_) (fun hb3=>?_)
 · have H:=zah H hb3
   refine W.rg env [4,5] [] ?_
   refine W.ret (At.rthen ?_)
   cases H
   exact At.ret env.ty rfl rfl nofun (.refl _) hval
 · have H:=zaf H hb3
   refine W.skip (At.zad (W.seq ?_))
   obtain ⟨y4,hy5,H⟩:=zab H
   obtain ⟨y6,hy7,H⟩:=zab H
   refine W.region env [] [⟨.agg (zaH y4),[],0,[]⟩,⟨.bool (y6),[],0,[]⟩] rfl rfl rfl .nil (.free (zc7 fuel p0 p0.Looks p1 hy5) (.free (za3 y4 hy7) .nil)) (At.kp [4,5] [] ?_)
   refine At.zad (W.ret ?_)
   cases H
   exact At.ret env.ty rfl rfl nofun (.refl _) hval
theorem zgE (fuel:Nat) (p0:Wear) (p1:Int) (p2:Int) {r:(List Int)} (H:zb7 fuel p0 p1 p2=some r):Ctr Tryz.prog 32 [.agg (zan p0),.int .i64 (p1),.int .i64 (p2)] (roL 1 zac r):=by
 unfold zb7 at H
 refine Ctr.zal (N:=29) Tryz.func32 (by kernel_rfl) (c:=_) rfl Tryz.ntmps32 rfl (fun w0 h0 hval=>?_)
 refine W.rg env [1,2,3] [3] ?_
 refine W.rg env [1,2,3,7] [3] ?_
 refine W.seq (W.rg env [1,2,3,7,8] [3] ?_)
 refine W.block (At.zfO 7 507 3 1 (e:=fun i=>zac (([]:List Int).getD i default)) rfl rfl ?_)
 refine At.kp [1,2,3,7,8] [3,507] ?_
 refine W.loopGo H (fun (s1:Int×(List Int))=>[(1,.int .i64 (p1)),(2,.int .i64 (p2)),(3,.lp 3 0),(7,.buf 507 (s1.2).length),(8,.int .i64 (s1.1))]) (fun (s1:Int×(List Int))=>[(3,.cells (zan p0)),(507,bufL 3 1 zac s1.2)]) (.cons .qi (.cons .qi (.cons .q (.cons .qb (.cons .qi .nil))))) (.cons .q (.cons .q .nil)) (fun k1 s1 H K0 hK1=>?_)
 refine W.seq (W.rg env [1,2,3,7,8,12] [3,507] ?_)
 refine W.cond rfl (fun hb2=>?_) (fun hb2=>?_)
 · have H:=zah H hb2
   refine W.skip (At.zad (W.seq (W.block (W.seq ?_))))
   obtain ⟨y3,hy4,H⟩:=zab H
   refine W.region env [] [⟨.tup [.agg [.int .i64 (y3.1.Source),.int .i64 (y3.1.Lamp),.int .i64 (y3.1.Batch),.int .i64 (y3.1.Night),.int .i64 (y3.1.Known),.int .i64 (y3.1.Until)],.bool (y3.2)],[],0,[]⟩] rfl rfl rfl .nil (.free (zdJ fuel p0 s1.1 p1 p2 hy4) .nil) (At.kp [1,2,3,7,8,10] [3,507] ?_)
   refine At.zad (W.rg env [1,2,3,7,8,23] [3,507] ?_)
   refine W.cond rfl (fun hb5=>?_) (fun hb5=>?_)
   · have H:=zah H hb5
     obtain ⟨hc6,H⟩:=zaa H
     refine W.region env [] [] rfl rfl rfl (.cons (⟨by first|rfl|(simp;done)|omega|(simp;omega),by have:=hc6;first|simpa using this|(unfold room at this ⊢;simp at this ⊢;omega)⟩) .nil) .nil (At.kp [1,2,3,7,8] [3,507] ?_)
     refine At.zbj (.cons (.refl _) (.cons (y:=bufL 3 1 zac (s1.2++([s1.1]:List Int))) (BSim.seg (Seg.push (Seg.refl zac _) (Seg.lit (f:=zac) (sz:=1) ([s1.1]:List Int) rfl rfl (fun _=>rfl)))) .nil)) ?_
     refine At.inb (At.zad ?_)
     obtain ⟨hc7,H⟩:=zaa H
     refine W.region env [] [] rfl rfl rfl (.cons hc7 .nil) .nil (At.kp [1,2,3,7,8] [3,507] ?_)
     refine At.zaM (At.kp [1,2,3,7,8] [3,507] ?_)
     exact At.conv (.cons .qi (.cons .qi (.cons .q (.cons .qb (.cons .qi .nil))))) (.cons .q (.cons .q .nil)) (hK1 ((s1.1+1),(s1.2++([s1.1]:List Int))) H)
   · have H:=zaf H hb5
     refine W.skip (At.inb (At.zad ?_))
     obtain ⟨hc8,H⟩:=zaa H
     refine W.region env [] [] rfl rfl rfl (.cons hc8 .nil) .nil (At.kp [1,2,3,7,8] [3,507] ?_)
     refine At.zaM (At.kp [1,2,3,7,8] [3,507] ?_)
     exact At.conv (.cons .qi (.cons .qi (.cons .q (.cons .qb (.cons .qi .nil))))) (.cons .q (.cons .q .nil)) (hK1 ((s1.1+1),s1.2) H)
 · have H:=zaf H hb2
   refine W.exit (At.xthen (At.xthen (At.xhere (At.zad (W.rg env [6] [507] ?_)))))
   refine W.ret ?_
   cases H
   exact At.ret env.ty rfl rfl (fun q hq=>by cases hq;exact (by first|rfl|(simp;done)|omega|(simp;omega))) (.refl _) hval
theorem zeu (fuel:Nat) (p0:gasolierref06_Raw) (p1:(List Int)) (p2:(Arr4 Int)) {r:Bool} (H:zaZ fuel p0 p1 p2=some r):Ctr Tryz.prog 4 [.agg [roL 2 zcR p0.Batches,roL 4 zba p0.Mantles,roL 5 zcQ p0.Burns,roL 4 zba p0.Looks],roL 1 zac p1,.agg [.int .i64 (p2.x0),.int .i64 (p2.x1),.int .i64 (p2.x2),.int .i64 (p2.x3)]] (.bool (r)):=by
 unfold zaZ at H
 refine Ctr.zal (N:=223) Tryz.func4 (by kernel_rfl) (c:=_) rfl Tryz.ntmps4 rfl (fun w0 h0 hval=>?_)
 refine W.rg env [1,3,5] [3,5] ?_
 refine W.seq ?_
 obtain ⟨y1,hy2,H⟩:=zab H
 refine W.region env [] [⟨.bool (y1),[],0,[]⟩] rfl rfl rfl .nil (.free (zgF 20000 hy2) .nil) (At.kp [1,3,5,7] [3,5] ?_)
 refine At.zad (W.seq ?_)
 obtain ⟨y3,hy4,H⟩:=zab H
 refine W.region env [] [⟨.int .i64 (y3),[],0,[]⟩] rfl rfl rfl (.cons (by decide) .nil) (.free (zat p2.x0 11 hy4) .nil) (At.kp [1,3,5,7,8] [3,5] ?_)
 refine At.zad (W.seq ?_)
 obtain ⟨y5,hy6,H⟩:=zab H
 refine W.region env [] [⟨.int .i64 (y5),[],0,[]⟩] rfl rfl rfl (.cons (by decide) .nil) (.free (zat p2.x1 13 hy6) .nil) (At.kp [1,3,5,7,8,9] [3,5] ?_)
 refine At.zad (W.seq ?_)
 obtain ⟨y7,hy8,H⟩:=zab H
 refine W.region env [] [⟨.tup [.agg (zan y7.1),.agg [roL 1 zac y7.2.Lives,roL 1 zac y7.2.Minutes]],[],0,[]⟩] rfl rfl rfl .nil (.free (zgD fuel p0 p1 hy8) .nil) (At.kp [5,7,8,9,10,11] [5,10,11] ?_)
 refine At.zad (W.seq ?_)
 obtain ⟨y9,hy10,H⟩:=zab H
 refine W.region env [] [⟨.agg (zan y9),[],0,[]⟩] rfl rfl rfl .nil (.free (zee fuel y7.1 y7.2 y5 hy10) .nil) (At.kp [5,7,8,9,10,11] [5,10,11] ?_)
 refine At.zad (W.seq ?_)
 obtain ⟨y11,hy12,H⟩:=zab H
 obtain ⟨hc13,H⟩:=zaa H
 obtain ⟨y14,hy15,H⟩:=zab H
 refine W.region env [] [⟨.int .i64 (y11),[],0,[]⟩,⟨.int .i64 (y14),[],0,[]⟩] rfl rfl (by kernel_rfl) (.cons (by decide) (.cons hc13 (.cons (by decide) .nil))) (.free (zat p2.x2 5 hy12) (.free (zat p2.x3 11 hy15) .nil)) (At.kp [7,8,9,10,11,12] [10,11,12] ?_)
 refine At.zad (W.seq ?_)
 obtain ⟨y16,hy17,H⟩:=zab H
 refine W.region env [] [⟨.tup [.agg (zan y16.1),.int .i64 (y16.2)],[],0,[]⟩] rfl rfl rfl .nil (.free (zgc fuel y9 (⟨90,(1+y11),y14,false,y5,0⟩:Look) hy17) .nil) (At.kp [7,8,9,10,11,13,14] [10,11,13] ?_)
 refine At.zad (W.seq (W.sr env [] [] [8,9,10,11,13,69] [10,11,13] rfl rfl rfl (.cons id (.cons (fun h=>by rw [h];rfl) .nil)) .nil ?_))
 refine W.cond rfl (fun hb18=>?_) (fun hb18=>?_)
 · have H:=zah H hb18
   refine W.rg env [6] [] ?_
   refine W.ret (At.rthen ?_)
   cases H
   exact At.ret env.ty rfl rfl nofun (.refl _) hval
 · have H:=zaf H hb18
   refine W.skip (At.zad (W.seq ?_))
   obtain ⟨y19,hy20,H⟩:=zab H
   refine W.region env [] [⟨.agg (zan y19),[],0,[]⟩] rfl rfl rfl .nil (.free (zee fuel y16.1 y7.2 y5 hy20) .nil) (At.kp [8,9,10,13] [10,13] ?_)
   refine At.zad (W.seq ?_)
   obtain ⟨y21,hy22,H⟩:=zab H
   refine W.region env [] [⟨.tup [.bool (y21.1),.int .i64 (y21.2)],[],0,[]⟩] rfl rfl rfl .nil (.free (zju fuel y19 y5 hy22) .nil) (At.kp [8,9,10,13,15,16] [10,13] ?_)
   refine At.zad (W.seq (W.sr env [] [] [8,9,10,13,85] [10,13] rfl rfl rfl (.cons id (.cons (fun h=>by rw [h];rfl) .nil)) .nil ?_))
   refine W.cond rfl (fun hb23=>?_) (fun hb23=>?_)
   · have H:=zah H hb23
     refine W.rg env [6] [] ?_
     refine W.ret (At.rthen ?_)
     cases H
     exact At.ret env.ty rfl rfl nofun (.refl _) hval
   · have H:=zaf H hb23
     refine W.skip (At.zad (W.seq (W.rg env [8,9,10,13,17] [10,13] ?_)))
     refine W.block (At.kp [8,9,10,13,17] [10,13] ?_)
     refine W.loopGo H (fun (s24:Int)=>[(8,.int .i64 (y3)),(9,.int .i64 (y5)),(10,.lp 10 0),(13,.lp 13 0),(17,.int .i64 (s24))]) (fun (s24:Int)=>[(10,.cells (zan y9)),(13,.cells (zan y19))]) (.cons .qi (.cons .qi (.cons .q (.cons .q (.cons .qi .nil))))) (.cons .q (.cons .q .nil)) (fun k24 s24 H K0 hK24=>?_)
     refine W.seq (W.rg env [8,9,10,13,17,90] [10,13] ?_)
     refine W.cond rfl (fun hb25=>?_) (fun hb25=>?_)
     · have H:=zah H hb25
       refine W.skip (At.zad (W.seq (W.block (W.seq ?_))))
       obtain ⟨hc26,H⟩:=zaa H
       obtain ⟨y27,hy28,H⟩:=zab H
       refine W.region env [] [⟨.tup [.agg [.int .i64 (y27.1.Lo),.int .i64 (y27.1.Hi)],.int .i64 (y27.2)],[],0,[]⟩] rfl rfl (by kernel_rfl) (.cons hc26 .nil) (.free (zfw fuel y9 ((y9.Batches.getD (s24).toNat default).Id) y5 hy28) .nil) (At.kp [8,9,10,13,17,18,19] [10,13,18] ?_)
       refine At.zad (W.seq ?_)
       obtain ⟨hc29,H⟩:=zaa H
       obtain ⟨y30,hy31,H⟩:=zab H
       refine W.region env [] [⟨.tup [.agg [.int .i64 (y30.1.Lo),.int .i64 (y30.1.Hi)],.int .i64 (y30.2)],[],0,[]⟩] rfl rfl (by kernel_rfl) (.cons hc29 .nil) (.free (zfw fuel y19 ((y9.Batches.getD (s24).toNat default).Id) y5 hy31) .nil) (At.kp [8,9,10,13,17,18,19,20,21] [10,13,18,20] ?_)
       refine At.zad (W.sr env [] [] [8,9,10,13,17,136] [10,13] rfl rfl rfl (.cons id (.cons (fun h=>by rw [h];rfl) (.cons id (.cons id (.cons id (.cons id (.cons (fun h=>by rw [h];rfl) (.cons id (.cons id (.cons id (.cons id (.cons (fun h=>by rw [h];rfl) .nil)))))))))))) .nil ?_)
       refine W.cond rfl (fun hb32=>?_) (fun hb32=>?_)
       · have H:=zah H hb32
         refine W.rg env [6] [] ?_
         refine W.ret (At.rinb ?_)
         refine At.rthen ?_
         refine At.rthen ?_
         refine At.rinb ?_
         refine At.rthen ?_
         cases H
         exact At.ret env.ty rfl rfl nofun (.refl _) hval
       · have H:=zaf H hb32
         refine W.skip (At.inb (At.zad ?_))
         obtain ⟨hc33,H⟩:=zaa H
         refine W.region env [] [] rfl rfl rfl (.cons hc33 .nil) .nil (At.kp [8,9,10,13,17] [10,13] ?_)
         refine At.zaM (At.kp [8,9,10,13,17] [10,13] ?_)
         exact At.conv (.cons .qi (.cons .qi (.cons .q (.cons .q (.cons .qi .nil))))) (.cons .q (.cons .q .nil)) (hK24 (s24+1) H)
     · have H:=zaf H hb25
       refine W.exit (At.xthen (At.xthen (At.xhere (At.zad (W.seq ?_)))))
       obtain ⟨y34,hy35,H⟩:=zab H
       refine W.region env [] [⟨roL 1 zac y34,[],0,[]⟩] rfl rfl rfl .nil (.free (zgE fuel y9 y3 y5 hy35) .nil) (At.kp [8,9,10,13,22] [10,13] ?_)
       refine At.zad (W.seq (W.rg env [8,9,10,13,22,143] [10,13] ?_))
       refine W.cond rfl (fun hb36=>?_) (fun hb36=>?_)
       · have H:=zah H hb36
         refine W.rg env [6] [] ?_
         refine W.ret (At.rthen ?_)
         cases H
         exact At.ret env.ty rfl rfl nofun (.refl _) hval
       · have H:=zaf H hb36
         refine W.skip (At.zad (W.seq ?_))
         obtain ⟨y37,hy38,H⟩:=zab H
         refine W.region env [] [⟨.tup [.agg [.int .i64 (y37.1.Lo),.int .i64 (y37.1.Hi)],.int .i64 (y37.2)],[],0,[]⟩] rfl rfl rfl .nil (.free (zeQ fuel y9 y34 y3 y5 hy38) .nil) (At.kp [8,9,10,13,22,23,24] [10,13,23] ?_)
         refine At.zad (W.seq ?_)
         obtain ⟨y39,hy40,H⟩:=zab H
         refine W.region env [] [⟨.tup [.agg [.int .i64 (y39.1.Lo),.int .i64 (y39.1.Hi)],.int .i64 (y39.2)],[],0,[]⟩] rfl rfl rfl .nil (.free (zeQ fuel y19 y34 y3 y5 hy40) .nil) (At.kp [8,9,10,13,22,23,24,25,26] [10,13,23,25] ?_)
         refine At.zad (W.seq (W.sr env [] [] [8,9,10,13,22,179] [10,13] rfl rfl rfl (.cons id (.cons (fun h=>by rw [h];rfl) (.cons id (.cons id (.cons id (.cons id (.cons (fun h=>by rw [h];rfl) (.cons id (.cons id (.cons id (.cons id (.cons (fun h=>by rw [h];rfl) .nil)))))))))))) .nil ?_))
         refine W.cond rfl (fun hb41=>?_) (fun hb41=>?_)
         · have H:=zah H hb41
           refine W.rg env [6] [] ?_
           refine W.ret (At.rthen ?_)
           cases H
           exact At.ret env.ty rfl rfl nofun (.refl _) hval
         · have H:=zaf H hb41
           refine W.skip (At.zad (W.seq (W.rg env [8,9,10,13,22,27] [10,13] ?_)))
           refine W.block (At.kp [8,9,10,13,22,27] [10,13] ?_)
           refine W.loopGo H (fun (s42:Int)=>[(8,.int .i64 (y3)),(9,.int .i64 (y5)),(10,.lp 10 0),(13,.lp 13 0),(22,roL 1 zac y34),(27,.int .i64 (s42))]) (fun (s42:Int)=>[(10,.cells (zan y9)),(13,.cells (zan y19))]) (.cons .qi (.cons .qi (.cons .q (.cons .q (.cons .q (.cons .qi .nil)))))) (.cons .q (.cons .q .nil)) (fun k42 s42 H K0 hK42=>?_)
           refine W.seq (W.rg env [8,9,10,13,22,27,183] [10,13] ?_)
           refine W.cond rfl (fun hb43=>?_) (fun hb43=>?_)
           · have H:=zah H hb43
             refine W.skip (At.zad (W.seq (W.block (W.seq ?_))))
             obtain ⟨hc44,H⟩:=zaa H
             obtain ⟨y45,hy46,H⟩:=zab H
             refine W.region env [] [⟨.tup [.int .i64 (y45.1),.int .i64 (y45.2)],[],0,[]⟩] rfl rfl (by kernel_rfl) (.cons hc44 .nil) (.free (zdZ fuel y9 (y34.getD (s42).toNat default) y3 y5 hy46) .nil) (At.kp [8,9,10,13,22,27,28,29] [10,13] ?_)
             refine At.zad (W.seq ?_)
             obtain ⟨hc47,H⟩:=zaa H
             obtain ⟨y48,hy49,H⟩:=zab H
             refine W.region env [] [⟨.tup [.int .i64 (y48.1),.int .i64 (y48.2)],[],0,[]⟩] rfl rfl (by kernel_rfl) (.cons hc47 .nil) (.free (zdZ fuel y19 (y34.getD (s42).toNat default) y3 y5 hy49) .nil) (At.kp [8,9,10,13,22,27,28,29,30,31] [10,13] ?_)
             refine At.zad (W.sr env [] [] [8,9,10,13,22,27,222] [10,13] rfl rfl rfl (.cons id (.cons (fun h=>by rw [h];rfl) (.cons id (.cons id (.cons id (.cons id (.cons id (.cons (fun hW h=>by revert hW h;first|(simp +contextual;done)|grind) (.cons (fun h=>by rw [h];rfl) .nil))))))))) .nil ?_)
             refine W.cond rfl (fun hb50=>?_) (fun hb50=>?_)
             · have H:=zah H hb50
               refine W.rg env [6] [] ?_
               refine W.ret (At.rinb ?_)
               refine At.rthen ?_
               refine At.rthen ?_
               refine At.rinb ?_
               refine At.rthen ?_
               cases H
               exact At.ret env.ty rfl rfl nofun (.refl _) hval
             · have H:=zaf H hb50
               refine W.skip (At.inb (At.zad ?_))
               obtain ⟨hc51,H⟩:=zaa H
               refine W.region env [] [] rfl rfl rfl (.cons hc51 .nil) .nil (At.kp [8,9,10,13,22,27] [10,13] ?_)
               refine At.zaM (At.kp [8,9,10,13,22,27] [10,13] ?_)
               exact At.conv (.cons .qi (.cons .qi (.cons .q (.cons .q (.cons .q (.cons .qi .nil)))))) (.cons .q (.cons .q .nil)) (hK42 (s42+1) H)
           · have H:=zaf H hb43
             refine W.exit (At.xthen (At.xthen (At.xhere (At.zad (W.rg env [6] [] ?_)))))
             refine W.ret ?_
             cases H
             exact At.ret env.ty rfl rfl nofun (.refl _) hval
end Go.Sp
