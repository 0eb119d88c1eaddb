/- Printed by gen.py: contracts, part 2. -/
import Derived.Test.YtakjeajlmlmkeaaGreatCtr1
set_option linter.all false
set_option maxRecDepth 100000
set_option maxHeartbeats 1000000
namespace Go.Sp
open Go Go.Av Go.Proofs
theorem zhq (p0:mantle_lot) (p1:Int) (p2:Bool) {r:(List (List Int))} (H:zd0 p0 p1 p2=some r):Ctr Tryz.prog 163 [.agg (zar p0),.int .i64 (p1),.bool (p2)] (roL 1 zcv r):=by
 unfold zd0 at H
 refine Ctr.zak (N:=135) Tryz.func163 (by kernel_rfl) (c:=_) rfl Tryz.ntmps163 rfl (fun w0 h0 hval=>?_)
 refine W.rg env [1,2,3] [3] ?_
 refine W.rg env [1,2,3,7] [3] ?_
 refine W.seq (W.seq ?_)
 obtain ⟨y1,hy2,H⟩:=zab H
 refine W.region env [] [⟨roL 1 zae y1,[],0,[]⟩] rfl rfl rfl .nil (.free (zdU p0 hy2) .nil) (At.kp [1,2,3,7,22,23,24] [3] ?_)
 refine At.zac (W.block (At.zeY 7 507 3 1 (e:=fun i=>zae (([]:List Int).getD i default)) rfl rfl ?_))
 refine At.kp [1,2,3,7,22,23,24] [3,507] ?_
 refine W.len (t:=22) rfl (fun (hn3:y1.length≤maxLen)=>?_)
 refine W.zav H (fun i3 (s3:(List Int))=>[(1,.int .i64 (p1)),(2,.bool (p2)),(3,.lp 3 0),(7,.buf 507 (s3).length),(22,roL 1 zae y1),(23,.int .i64 (((y1.length:Nat):Int))),(24,.int .i64 ((i3:Int)))]) (fun i3 (s3:(List Int))=>[(3,.cells (zar p0)),(507,bufL 3 1 zae s3)]) (.cons .qi (.cons .q (.cons .q (.cons .qb (.cons .q (.cons .qi (.cons .qi .nil))))))) (.cons .q (.cons .q .nil)) (fun k3 i3 s3 hle3 H1 H2 K0 hK3=>?_)
 refine W.rg env [1,2,3,7,22,23,24,25] [3,507] ?_
 refine W.seq (W.cond rfl (fun hb4=>?_) (fun hb4=>?_))
 · have hi3:i3<y1.length:=by have:=of_decide_eq_true hb4;omega
   have H:=H1 hi3
   refine W.skip (At.zac (W.seq (W.block (W.sr env [] [] [1,2,3,7,9,22,23,24] [3,507] rfl rfl rfl (.cons (⟨by omega,by omega⟩:0≤(i3:Int)∧(i3:Int)<((y1.length:Nat):Int)) .nil) .nil ?_))))
   refine W.seq ?_
   obtain ⟨hc5,H⟩:=zaa H
   obtain ⟨y6,hy7,H⟩:=zab H
   refine W.region env [] [⟨.int .i64 (y6),[],0,[]⟩] rfl rfl (by kernel_rfl) (.cons hc5 .nil) (.free (zcU p0.closet (p0.mantles.getD ((y1.getD i3 default)).toNat default) hy7) .nil) (At.kp [1,2,3,7,9,22,23,24,37] [3,507] ?_)
   refine At.zac (W.cond rfl (fun hb8=>?_) (fun hb8=>?_))
   · have H:=zaf H hb8
     obtain ⟨hc9,H⟩:=zaa H
     refine W.region env [] [] rfl rfl rfl (.cons (⟨by first|rfl|(simp;done)|omega|(simp;omega),by have:=hc9;first|simpa using this|(unfold room at this ⊢;simp at this ⊢;omega)⟩) .nil) .nil (At.kp [1,2,3,7,22,23,24] [3,507] ?_)
     refine At.zbG (.cons (.refl _) (.cons (y:=bufL 3 1 zae (s3++([(y1.getD i3 default)]:List Int))) (BSim.seg (Seg.push (Seg.refl zae _) (Seg.lit (f:=zae) (sz:=1) ([(y1.getD i3 default)]:List Int) rfl rfl (fun _=>rfl)))) .nil)) ?_
     refine At.inb (At.zac (W.region env [] [] rfl rfl rfl (.cons (by unfold inI;have:=hn3;(try unfold maxLen at this);omega) .nil) .nil (At.kp [1,2,3,7,22,23,24] [3,507] ?_)))
     refine At.zaG (At.kp [1,2,3,7,22,23,24] [3,507] ?_)
     exact At.conv (.cons .qi (.cons .q (.cons .q (.cons .qb (.cons .q (.cons .qi (.cons .qi .nil))))))) (.cons .q (.cons .q .nil)) (hK3 hi3 (s3++([(y1.getD i3 default)]:List Int)) H)
   · have H:=zad H hb8
     refine W.skip (At.inb (At.zac (W.region env [] [] rfl rfl rfl (.cons (by unfold inI;have:=hn3;(try unfold maxLen at this);omega) .nil) .nil (At.kp [1,2,3,7,22,23,24] [3,507] ?_))))
     refine At.zaG (At.kp [1,2,3,7,22,23,24] [3,507] ?_)
     exact At.conv (.cons .qi (.cons .q (.cons .q (.cons .qb (.cons .q (.cons .qi (.cons .qi .nil))))))) (.cons .q (.cons .q .nil)) (hK3 hi3 s3 H)
 · have H:=H2 (by have:=of_decide_eq_false hb4;omega)
   refine W.exit (At.xthen (At.xthen (At.xhere (At.zac (W.seq ?_)))))
   obtain ⟨hc10,H⟩:=zaa H
   obtain ⟨hc11,H⟩:=zaa H
   refine W.region env [] [] rfl rfl rfl (.cons (by first|rfl|(simp;done)|omega|(simp;omega)) (.cons hc10 (.cons hc11 .nil))) .nil (At.kp [2,3,7,10] [3,46,507] ?_)
   refine At.zbG (.cons (.refl _) (.cons (y:=bufL 56 1 (encN 1 zae) (List.replicate ((((s3.length:Nat):Int)+1)).toNat ([]:(List Int)))) (BSim.madeN) (.cons (.refl _) .nil))) ?_
   refine At.zac (W.seq ?_)
   obtain ⟨hc12,H⟩:=zaa H
   obtain ⟨hc13,H⟩:=zaa H
   refine W.region env [] [] rfl rfl rfl (.cons (by first|rfl|(simp;done)|omega|(simp;omega)) (.cons hc12 (.cons hc13 .nil))) .nil (At.kp [2,3,7,10,11] [3,46,50,507] ?_)
   refine At.zbG (.cons (.refl _) (.cons (.refl _) (.cons (y:=bufL 3 1 zae (List.replicate ((((s3.length:Nat):Int)+1)).toNat (0:Int))) (BSim.seg (Seg.made (f:=zae) 0 rfl)) (.cons (.refl _) .nil)))) ?_
   refine At.zac (W.seq (W.sr env [] [] [2,3,7,10,11,51,52,53] [3,46,50,507] rfl rfl rfl (.cons (by first|rfl|(simp;done)|omega|(simp;omega)) .nil) .nil ?_))
   refine W.block (At.kp [2,3,7,10,11,51,52,53] [3,46,50,507] ?_)
   obtain ⟨hn14,H⟩:=zaa H
   refine W.zav H (fun i14 (s14:(List (List Int))×(List Int))=>[(2,.bool (p2)),(3,.lp 3 0),(7,.buf 507 (s3).length),(10,.buf 46 (s14.1).length),(11,.buf 50 (s14.2).length),(51,.buf 507 (s3).length),(52,.int .i64 (((s3.length:Nat):Int))),(53,.int .i64 ((i14:Int)))]) (fun i14 (s14:(List (List Int))×(List Int))=>[(3,.cells (zar p0)),(46,bufL 56 1 (encN 1 zae) s14.1),(50,bufL 3 1 zae s14.2),(507,bufL 3 1 zae s3)]) (.cons .q (.cons .q (.cons .qb (.cons .qb (.cons .qb (.cons .qb (.cons .qi (.cons .qi .nil)))))))) (.cons .q (.cons .q (.cons .q (.cons .q .nil)))) (fun k14 i14 s14 hle14 H1 H2 K0 hK14=>?_)
   refine W.rg env [2,3,7,10,11,51,52,53,54] [3,46,50,507] ?_
   refine W.seq (W.cond rfl (fun hb15=>?_) (fun hb15=>?_))
   · have hi14:i14<s3.length:=by have:=of_decide_eq_true hb15;omega
     have H:=H1 hi14
     refine W.skip (At.zac (W.seq (W.block (W.sr env [] [] [2,3,7,10,11,13,51,52,53] [3,46,50,507] rfl rfl rfl (.cons (⟨by first|rfl|(simp;done)|omega|(simp;omega),(⟨by omega,by omega⟩:0≤(i14:Int)∧(i14:Int)<((s3.length:Nat):Int))⟩) (.cons (⟨by first|rfl|(simp;done)|omega|(simp;omega),(by have:=(⟨by omega,by omega⟩:0≤(i14:Int)∧(i14:Int)<((s3.length:Nat):Int));first|omega|(simp only [List.length_set];omega)|(simp only [Int.toNat_natCast] at *;omega)|(simp at this ⊢;omega))⟩) .nil)) .nil ?_))))
     refine W.seq ?_
     obtain ⟨y16,hy17,H⟩:=zab H
     refine W.region env [] [⟨.agg (zar y16),[],0,[]⟩] rfl rfl rfl .nil (.free (Ctr.sim (.cons (.refl _) (.cons (Sim.lit (f:=zae) ([(s3.getD i14 default)]:List Int) rfl rfl (fun _=>rfl)) (.cons (.refl _) .nil))) (zdo p0 ([(s3.getD i14 default)]:List Int) p2 hy17)) .nil) (At.kp [2,3,7,10,11,13,14,51,52,53] [3,14,46,50,507] ?_)
     refine At.zac (W.rg env [2,3,7,10,11,13,14,15,51,52,53] [3,14,46,50,507] ?_)
     refine W.seq (W.sr env [] [] [2,3,7,10,11,13,14,15,51,52,53,62,63,64] [3,14,46,50,507] rfl rfl rfl (.cons (by first|rfl|(simp;done)|omega|(simp;omega)) .nil) .nil ?_)
     refine W.block (At.zeY 15 515 3 1 (e:=fun i=>zae (([]:List Int).getD i default)) rfl rfl ?_)
     refine At.kp [2,3,7,10,11,13,14,15,51,52,53,62,63,64] [3,14,46,50,507,515] ?_
     obtain ⟨hn18,H⟩:=zaa H
     refine W.zav H (fun i18 (s18:(List Int))=>[(2,.bool (p2)),(3,.lp 3 0),(7,.buf 507 (s3).length),(10,.buf 46 (s14.1).length),(11,.buf 50 (s14.2).length),(13,.int .i64 ((s3.getD i14 default))),(14,.lp 14 0),(15,.buf 515 (s18).length),(51,.buf 507 (s3).length),(52,.int .i64 (((s3.length:Nat):Int))),(53,.int .i64 ((i14:Int))),(62,.buf 507 (s3).length),(63,.int .i64 (((s3.length:Nat):Int))),(64,.int .i64 ((i18:Int)))]) (fun i18 (s18:(List Int))=>[(3,.cells (zar p0)),(14,.cells (zar y16)),(46,bufL 56 1 (encN 1 zae) s14.1),(50,bufL 3 1 zae s14.2),(507,bufL 3 1 zae s3),(515,bufL 3 1 zae s18)]) (.cons .q (.cons .q (.cons .qb (.cons .qb (.cons .qb (.cons .qi (.cons .q (.cons .qb (.cons .qb (.cons .qi (.cons .qi (.cons .qb (.cons .qi (.cons .qi .nil)))))))))))))) (.cons .q (.cons .q (.cons .q (.cons .q (.cons .q (.cons .q .nil)))))) (fun k18 i18 s18 hle18 H1 H2 K0 hK18=>?_)
     refine W.rg env [2,3,7,10,11,13,14,15,51,52,53,62,63,64,65] [3,14,46,50,507,515] ?_
     refine W.seq (W.cond rfl (fun hb19=>?_) (fun hb19=>?_))
     · have hi18:i18<s3.length:=by have:=of_decide_eq_true hb19;omega
       have H:=H1 hi18
       refine W.skip (At.zac (W.seq (W.block (W.sr env [] [] [2,3,7,10,11,13,14,15,17,51,52,53,62,63,64] [3,14,46,50,507,515] rfl rfl rfl (.cons (⟨by first|rfl|(simp;done)|omega|(simp;omega),(⟨by omega,by omega⟩:0≤(i18:Int)∧(i18:Int)<((s3.length:Nat):Int))⟩) (.cons (⟨by first|rfl|(simp;done)|omega|(simp;omega),(by have:=(⟨by omega,by omega⟩:0≤(i18:Int)∧(i18:Int)<((s3.length:Nat):Int));first|omega|(simp only [List.length_set];omega)|(simp only [Int.toNat_natCast] at *;omega)|(simp at this ⊢;omega))⟩) .nil)) .nil ?_))))
       refine W.seq ?_
       obtain ⟨hc20,H⟩:=zaa H
       obtain ⟨y21,hy22,H⟩:=zab H
       refine W.region env [] [⟨.int .i64 (y21),[],0,[]⟩] rfl rfl (by kernel_rfl) (.cons id (.cons id (.cons hc20 (.cons id (.cons id (.cons id (.cons id (.cons id (.cons id (.cons id (.cons id (.cons id .nil)))))))))))) (.on (fun hW=>zbM y16.closet (p0.mantles.getD ((s3.getD i18 default)).toNat default) p0.night (zaf hy22 hW)) .nil) (At.kp [2,3,7,10,11,13,14,15,17,51,52,53,62,63,64,83] [3,14,46,50,507,515] ?_)
       refine At.zac (W.cond rfl (fun hb23=>?_) (fun hb23=>?_))
       · have H:=zaf H hb23
         obtain ⟨hc24,H⟩:=zaa H
         refine W.region env [] [] rfl rfl rfl (.cons (⟨by first|rfl|(simp;done)|omega|(simp;omega),by have:=hc24;first|simpa using this|(unfold room at this ⊢;simp at this ⊢;omega)⟩) .nil) .nil (At.kp [2,3,7,10,11,13,14,15,51,52,53,62,63,64] [3,14,46,50,507,515] ?_)
         refine At.zbG (.cons (.refl _) (.cons (.refl _) (.cons (.refl _) (.cons (.refl _) (.cons (.refl _) (.cons (y:=bufL 3 1 zae (s18++([(s3.getD i18 default)]:List Int))) (BSim.seg (Seg.push (Seg.refl zae _) (Seg.lit (f:=zae) (sz:=1) ([(s3.getD i18 default)]:List Int) rfl rfl (fun _=>rfl)))) .nil)))))) ?_
         refine At.inb (At.zac (W.region env [] [] rfl rfl rfl (.cons (by unfold inI;have:=hn18;(try unfold maxLen at this);omega) .nil) .nil (At.kp [2,3,7,10,11,13,14,15,51,52,53,62,63,64] [3,14,46,50,507,515] ?_)))
         refine At.zaG (At.kp [2,3,7,10,11,13,14,15,51,52,53,62,63,64] [3,14,46,50,507,515] ?_)
         exact At.conv (.cons .q (.cons .q (.cons .qb (.cons .qb (.cons .qb (.cons .qi (.cons .q (.cons .qb (.cons .qb (.cons .qi (.cons .qi (.cons .qb (.cons .qi (.cons .qi .nil)))))))))))))) (.cons .q (.cons .q (.cons .q (.cons .q (.cons .q (.cons .q .nil)))))) (hK18 hi18 (s18++([(s3.getD i18 default)]:List Int)) H)
       · have H:=zad H hb23
         refine W.skip (At.inb (At.zac (W.region env [] [] rfl rfl rfl (.cons (by unfold inI;have:=hn18;(try unfold maxLen at this);omega) .nil) .nil (At.kp [2,3,7,10,11,13,14,15,51,52,53,62,63,64] [3,14,46,50,507,515] ?_))))
         refine At.zaG (At.kp [2,3,7,10,11,13,14,15,51,52,53,62,63,64] [3,14,46,50,507,515] ?_)
         exact At.conv (.cons .q (.cons .q (.cons .qb (.cons .qb (.cons .qb (.cons .qi (.cons .q (.cons .qb (.cons .qb (.cons .qi (.cons .qi (.cons .qb (.cons .qi (.cons .qi .nil)))))))))))))) (.cons .q (.cons .q (.cons .q (.cons .q (.cons .q (.cons .q .nil)))))) (hK18 hi18 s18 H)
     · have H:=H2 (by have:=of_decide_eq_false hb19;omega)
       refine W.exit (At.xthen (At.xthen (At.xhere (At.zac ?_))))
       obtain ⟨hc25,H⟩:=zaa H
       refine W.sr env [] [] [2,3,7,10,11,13,15,51,52,53,91,92] [3,46,50,507,515] rfl rfl rfl (.cons (by first|rfl|(simp;done)|omega|(simp;omega)) (.cons hc25 .nil)) .nil ?_
       refine W.block (At.zmA 515 (K:=[3,46,50,507]) (ts:=[2,3,7,10,11,13,15,51,52,53,91,92]) rfl rfl rfl rfl (.cons (by first|rfl|(simp;done)|omega|(simp;omega)) .nil) .nil (fun _ h=>h) ?_)
       refine At.kp [2,3,7,10,11,13,15,51,52,53,91,92] [3,46,50,507] ?_
       obtain ⟨hn26,H⟩:=zaa H
       refine W.zav H (fun i26 (s26:(List (List Int))×(List Int))=>[(2,.bool (p2)),(3,.lp 3 0),(7,.buf 507 (s3).length),(10,.buf 46 (s26.1).length),(11,.buf 50 (s26.2).length),(13,.int .i64 ((s3.getD i14 default))),(15,roL 1 zae s18),(51,.buf 507 (s3).length),(52,.int .i64 (((s3.length:Nat):Int))),(53,.int .i64 ((i14:Int))),(91,.int .i64 ((((s3.length:Nat):Int)+1))),(92,.int .i64 ((i26:Int)))]) (fun i26 (s26:(List (List Int))×(List Int))=>[(3,.cells (zar p0)),(46,bufL 56 1 (encN 1 zae) s26.1),(50,bufL 3 1 zae s26.2),(507,bufL 3 1 zae s3)]) (.cons .q (.cons .q (.cons .qb (.cons .qb (.cons .qb (.cons .qi (.cons .q (.cons .qb (.cons .qi (.cons .qi (.cons .qi (.cons .qi .nil)))))))))))) (.cons .q (.cons .q (.cons .q (.cons .q .nil)))) (fun k26 i26 s26 hle26 H1 H2 K0 hK26=>?_)
       refine W.rg env [2,3,7,10,11,13,15,51,52,53,91,92,93] [3,46,50,507] ?_
       refine W.seq (W.cond rfl (fun hb27=>?_) (fun hb27=>?_))
       · have hi26:i26<((((s3.length:Nat):Int)+1)).toNat:=by have:=of_decide_eq_true hb27;omega
         have H:=H1 hi26
         refine W.skip (At.zac (W.seq (W.ziB H (fun (s28:(List (List Int))×(List Int))=>[(2,.bool (p2)),(3,.lp 3 0),(7,.buf 507 (s3).length),(10,.buf 46 (s28.1).length),(11,.buf 50 (s28.2).length),(13,.int .i64 ((s3.getD i14 default))),(15,roL 1 zae s18),(51,.buf 507 (s3).length),(52,.int .i64 (((s3.length:Nat):Int))),(53,.int .i64 ((i14:Int))),(91,.int .i64 ((((s3.length:Nat):Int)+1))),(92,.int .i64 ((i26:Int)))]) (fun (s28:(List (List Int))×(List Int))=>[(3,.cells (zar p0)),(46,bufL 56 1 (encN 1 zae) s28.1),(50,bufL 3 1 zae s28.2),(507,bufL 3 1 zae s3)]) (fun s28 H=>?_) (fun k28 H hK28=>?_))))
         · refine W.region env [] [] rfl rfl rfl (.cons (by unfold inI;have:=hn26;(try unfold maxLen at this);omega) .nil) .nil (At.kp [2,3,7,10,11,13,15,51,52,53,91,92] [3,46,50,507] ?_)
           refine At.zaG (At.kp [2,3,7,10,11,13,15,51,52,53,91,92] [3,46,50,507] ?_)
           exact At.conv (.cons .q (.cons .q (.cons .qb (.cons .qb (.cons .qb (.cons .qi (.cons .q (.cons .qb (.cons .qi (.cons .qi (.cons .qi (.cons .qi .nil)))))))))))) (.cons .q (.cons .q (.cons .q (.cons .q .nil)))) (hK26 hi26 (s28.1,s28.2) H)
         · refine W.block (W.rg env [2,3,7,10,11,13,15,18,51,52,53,91,92] [3,46,50,507] ?_)
           refine W.seq (W.rg env [2,3,7,10,11,13,15,18,51,52,53,91,92,96] [3,46,50,507] ?_)
           refine W.cond rfl (fun hb29=>?_) (fun hb29=>?_)
           · have H:=zaf H hb29
             refine W.exit (At.xthen (At.xhere (At.zaG (At.kp [2,3,7,10,11,13,15,51,52,53,91,92] [3,46,50,507] ?_))))
             exact At.conv (.cons .q (.cons .q (.cons .qb (.cons .qb (.cons .qb (.cons .qi (.cons .q (.cons .qb (.cons .qi (.cons .qi (.cons .qi (.cons .qi .nil)))))))))))) (.cons .q (.cons .q (.cons .q (.cons .q .nil)))) (hK28 (s26.1,s26.2) H)
           · have H:=zad H hb29
             refine W.skip (At.zac (W.seq ?_))
             obtain ⟨hc30,H⟩:=zaa H
             obtain ⟨hc31,H⟩:=zaa H
             obtain ⟨hc32,H⟩:=zaa H
             refine W.region env [98,16777322] [] rfl rfl rfl (.cons hc30 (.cons hc31 (.cons (⟨(by first|rfl|(simp;done)|omega|(simp;omega)),(⟨by first|rfl|(simp;done)|omega|(simp;omega),by have:=hc32;first|simpa using this|(unfold room at this ⊢;simp at this ⊢;omega)⟩)⟩) .nil))) .nil (At.kp [2,3,7,10,11,13,15,18,19,51,52,53,91,92] [3,46,50,507] ?_)
             refine At.slot (t:=19) (v:=roL 1 zae (([(s3.getD i14 default)]:List Int)++(s18.take ((min ((i26:Int) - 1) ((s18.length:Nat):Int))).toNat))) (Sim.seg (Seg.push (Seg.lit (f:=zae) (sz:=1) ([(s3.getD i14 default)]:List Int) rfl rfl (fun _=>rfl)) (Seg.take zae s18 (((min ((i26:Int) - 1) ((s18.length:Nat):Int))).toNat) (by omega)))) ?_
             refine At.zac (W.seq ?_)
             obtain ⟨y33,hy34,H⟩:=zab H
             refine W.region env [] [⟨.int .i64 (y33),[],0,[]⟩] rfl rfl rfl .nil (.free (zc9 p0 (([(s3.getD i14 default)]:List Int)++(s18.take ((min ((i26:Int) - 1) ((s18.length:Nat):Int))).toNat)) p2 hy34) .nil) (At.kp [2,3,7,10,11,13,15,18,19,20,51,52,53,91,92] [3,46,50,507] ?_)
             refine At.zac ?_
             obtain ⟨hc35,H⟩:=zaa H
             obtain ⟨hc36,H⟩:=zaa H
             refine W.sr env [] [] [2,3,7,10,11,13,15,18,19,20,51,52,53,91,92,123] [3,46,50,507] rfl rfl rfl (.cons (⟨by first|rfl|(simp;done)|omega|(simp;omega),hc35⟩) (.cons (⟨by first|rfl|(simp;done)|omega|(simp;omega),(by have:=hc35;first|omega|(simp only [List.length_set];omega)|(simp only [Int.toNat_natCast] at *;omega)|(simp at this ⊢;omega))⟩) (.cons (fun hW=>⟨by first|rfl|(simp;done)|omega|(simp;omega),hc36 hW⟩) (.cons id (.cons id (.cons (fun hW=>(⟨by first|rfl|(simp;done)|omega|(simp;omega),(by have:=hc36 hW;first|omega|(simp only [List.length_set];omega)|(simp only [Int.toNat_natCast] at *;omega)|(simp at this ⊢;omega))⟩)) (.cons id (.cons id (.cons id (.cons (fun h=>by rw [h];rfl) .nil)))))))))) .nil ?_
             refine W.cond rfl (fun hb37=>?_) (fun hb37=>?_)
             · have H:=zaf H hb37
               obtain ⟨hc38,H⟩:=zaa H
               obtain ⟨hc39,H⟩:=zaa H
               obtain ⟨hc40,H⟩:=zaa H
               refine W.region env [] [] rfl rfl rfl (.cons (⟨by first|rfl|(simp;done)|omega|(simp;omega),hc38⟩) (.cons (⟨by first|rfl|(simp;done)|omega|(simp;omega),(by have:=hc38;first|omega|(simp only [List.length_set];omega)|(simp only [Int.toNat_natCast] at *;omega)|(simp at this ⊢;omega))⟩) (.cons (⟨by first|rfl|(simp;done)|omega|(simp;omega),hc40⟩) (.cons (⟨by first|rfl|(simp;done)|omega|(simp;omega),(by have:=hc40;first|omega|(simp only [List.length_set];omega)|(simp only [Int.toNat_natCast] at *;omega)|(simp at this ⊢;omega))⟩) .nil)))) .nil (At.kp [2,3,7,10,11,13,15,51,52,53,91,92] [3,46,50,507] ?_)
               refine At.zbG (.cons (.refl _) (.cons (y:=bufL 56 1 (encN 1 zae) (s26.1.set i26 (([(s3.getD i14 default)]:List Int)++(s18.take ((min ((i26:Int) - 1) ((s18.length:Nat):Int))).toNat)))) (BSim.setS (Seg.refl (encN 1 zae) _) (([(s3.getD i14 default)]:List Int)++(s18.take ((min ((i26:Int) - 1) ((s18.length:Nat):Int))).toNat)) (.cons (Sim.nsOf hc39) .nil)) (.cons (y:=bufL 3 1 zae (s26.2.set i26 y33)) (BSim.seg (Seg.set (Seg.refl zae _) y33 rfl)) (.cons (.refl _) .nil)))) ?_
               refine At.inb (At.zaG (At.kp [2,3,7,10,11,13,15,51,52,53,91,92] [3,46,50,507] ?_))
               exact At.conv (.cons .q (.cons .q (.cons .qb (.cons .qb (.cons .qb (.cons .qi (.cons .q (.cons .qb (.cons .qi (.cons .qi (.cons .qi (.cons .qi .nil)))))))))))) (.cons .q (.cons .q (.cons .q (.cons .q .nil)))) (hK28 ((s26.1.set i26 (([(s3.getD i14 default)]:List Int)++(s18.take ((min ((i26:Int) - 1) ((s18.length:Nat):Int))).toNat))),(s26.2.set i26 y33)) H)
             · have H:=zad H hb37
               refine W.skip (At.inb (At.zaG (At.kp [2,3,7,10,11,13,15,51,52,53,91,92] [3,46,50,507] ?_)))
               exact At.conv (.cons .q (.cons .q (.cons .qb (.cons .qb (.cons .qb (.cons .qi (.cons .q (.cons .qb (.cons .qi (.cons .qi (.cons .qi (.cons .qi .nil)))))))))))) (.cons .q (.cons .q (.cons .q (.cons .q .nil)))) (hK28 (s26.1,s26.2) H)
       · have H:=H2 (by have:=of_decide_eq_false hb27;omega)
         refine W.exit (At.xthen (At.xthen (At.xhere (At.inb (At.zac (W.region env [] [] rfl rfl rfl (.cons (by unfold inI;have:=hn14;(try unfold maxLen at this);omega) .nil) .nil (At.kp [2,3,7,10,11,51,52,53] [3,46,50,507] ?_)))))))
         refine At.zaG (At.kp [2,3,7,10,11,51,52,53] [3,46,50,507] ?_)
         exact At.conv (.cons .q (.cons .q (.cons .qb (.cons .qb (.cons .qb (.cons .qb (.cons .qi (.cons .qi .nil)))))))) (.cons .q (.cons .q (.cons .q (.cons .q .nil)))) (hK14 hi14 (s26.1,s26.2) H)
   · have H:=H2 (by have:=of_decide_eq_false hb15;omega)
     refine W.exit (At.xthen (At.xthen (At.xhere (At.zac (W.rg env [6] [46] ?_)))))
     refine W.ret ?_
     cases H
     exact At.ret env.ty rfl rfl (fun q hq=>by cases hq;exact (by first|rfl|(simp;done)|omega|(simp;omega))) Sim.roN hval
theorem zfU (p1:Int) {r:(List Int)} (H:zdz p1=some r):CtrO Tryz.prog 195 [.nilS,.int .i64 p1] [] (.buf 900 r.length) [(900,bufL 3 1 zae r)]:=by
 unfold zdz at H
 refine CtrO.zak (N:=27) Tryz.func195 (by kernel_rfl) (c:=_) rfl Tryz.ntmps195 rfl (fun w0 h0 ρb hval hdom=>?_)
 refine W.rg env [0,1] [] ?_
 refine W.seq (W.rg env [0,1,6] [] ?_)
 refine W.ziB H (fun (s1:Unit)=>[(0,.nilS),(1,.int .i64 (p1))]) (fun (s1:Unit)=>[]) (fun s1 H=>?_) (fun k1 H hK1=>?_)
 · refine W.seq ?_
   obtain ⟨hc2,H⟩:=zaa H
   obtain ⟨hc3,H⟩:=zaa H
   refine W.sr env [] [] [0,1] [] rfl rfl rfl (.cons hc2 (.cons hc3 .nil)) .nil ?_
   refine W.rg env [0,1,16] [] ?_
   refine W.cond rfl (fun hb4=>?_) (fun hb4=>?_)
   · have H:=zaf H hb4
     obtain ⟨hc5,H⟩:=zaa H
     obtain ⟨hc6,H⟩:=zaa H
     refine W.region env [] [] rfl rfl rfl (.cons rfl (.cons hc5 (.cons (⟨by first|rfl|(simp;done)|omega|(simp;omega),(by first|exact hc6|simpa using hc6)⟩) .nil))) .nil (At.kp [0] [22] ?_)
     refine At.zbG (.cons (y:=bufL 3 1 zae (List.replicate ((p1 - (0 - 0))).toNat (0:Int))) (BSim.seg (Seg.made (f:=zae) 0 rfl)) .nil) ?_
     refine At.zac (W.rg env [4] [22] ?_)
     refine W.ret ?_
     cases H
     refine At.shrink 4 22 850 (K:=[]) (ts:=[]) rfl rfl (by first|rfl|(simp;done)|omega|(simp;omega)) (by have:=hc6;omega) rfl rfl rfl rfl ?_
     refine At.zbG (.cons (y:=bufL 3 1 zae ((List.replicate ((p1 - (0 - 0))).toNat (0:Int)).take 0)) (BSim.seg (Seg.first (Seg.refl zae _) (by have:=hc6;omega))) .nil) ?_
     exact At.retK env.ty [850] 50 rfl rfl rfl rfl (.cons (.refl _) .nil) (.of_eq (by refine zhT ?_;first|(simp [zbi];done)|omega|(simp [zbi];omega)|rfl)) hval hdom rfl
   · have H:=zad H hb4
     refine W.skip (At.zac (W.rg env [4] [] ?_))
     refine W.ret ?_
     cases H
     refine At.zeY 4 800 3 1 (e:=fun i=>zae (([]:List Int).getD i default)) rfl rfl ?_
     exact At.retK env.ty [800] 100 rfl rfl rfl rfl (.cons (.refl _) .nil) (.of_eq (by refine zhT ?_;first|(simp [zbi];done)|omega|(simp [zbi];omega)|rfl)) hval hdom rfl
 · refine W.cond rfl (fun hb7=>?_) (fun hb7=>?_)
   · have H:=zaf H hb7
     cases H
   · have H:=zad H hb7
     refine W.skip (At.zaG (At.kp [0,1] [] ?_))
     exact At.conv (.cons (by first|exact Sim.refl _|exact Sim.nil _ _) (.cons .qi .nil)) .nil (hK1 () H)
theorem zho (p0:(List (List Int))) {r:(List Int)} (H:zdW p0=some r):Ctr Tryz.prog 164 [roL 1 zcv p0] (roL 1 zae r):=by
 unfold zdW at H
 refine Ctr.zak (N:=36) Tryz.func164 (by kernel_rfl) (c:=_) rfl Tryz.ntmps164 rfl (fun w0 h0 hval=>?_)
 refine W.rg env [0] [] ?_
 refine W.rg env [0,3] [] ?_
 refine W.seq (W.rg env [0,3,9,10,11] [] ?_)
 refine W.block (At.kp [0,3,9,10,11] [] ?_)
 refine W.len (t:=9) rfl (fun (hn1:p0.length≤maxLen)=>?_)
 refine W.zav H (fun i1 (s1:Int)=>[(0,roL 1 zcv p0),(3,.int .i64 (s1)),(9,roL 1 zcv p0),(10,.int .i64 (((p0.length:Nat):Int))),(11,.int .i64 ((i1:Int)))]) (fun i1 (s1:Int)=>[]) (.cons .q (.cons .qi (.cons .q (.cons .qi (.cons .qi .nil))))) .nil (fun k1 i1 s1 hle1 H1 H2 K0 hK1=>?_)
 refine W.rg env [0,3,9,10,11,12] [] ?_
 refine W.seq (W.cond rfl (fun hb2=>?_) (fun hb2=>?_))
 · have hi1:i1<p0.length:=by have:=of_decide_eq_true hb2;omega
   have H:=H1 hi1
   refine W.skip (At.zac (W.seq (W.block (W.sr env [] [] [0,3,5,9,10,11] [] rfl rfl rfl (.cons (⟨by omega,by omega⟩:0≤(i1:Int)∧(i1:Int)<((p0.length:Nat):Int)) .nil) .nil ?_))))
   obtain ⟨hc3,H⟩:=zaa H
   refine W.sr env [] [] [0,3,9,10,11] [] rfl rfl rfl (.cons hc3 .nil) .nil ?_
   refine W.rg env [0,3,9,10,11,20] [] ?_
   refine W.cond rfl (fun hb4=>?_) (fun hb4=>?_)
   · have H:=zaf H hb4
     cases H
   · have H:=zad H hb4
     refine W.skip (At.inb (At.zac (W.region env [] [] rfl rfl rfl (.cons (by unfold inI;have:=hn1;(try unfold maxLen at this);omega) .nil) .nil (At.kp [0,3,9,10,11] [] ?_))))
     refine At.zaG (At.kp [0,3,9,10,11] [] ?_)
     exact At.conv (.cons .q (.cons .qi (.cons .q (.cons .qi (.cons .qi .nil))))) .nil (hK1 hi1 (s1+(((p0.getD i1 default).length:Nat):Int)) H)
 · have H:=H2 (by have:=of_decide_eq_false hb2;omega)
   refine W.exit (At.xthen (At.xthen (At.xhere (At.zac (W.seq ?_)))))
   obtain ⟨y5,hy6,H⟩:=zab H
   refine W.region env [] [⟨.buf 900 y5.length,[(900,bufL 3 1 zae y5)],25000,[]⟩] rfl rfl (by kernel_rfl) .nil (.free (Ctr.ofO (zfU s1 hy6)) .nil) (At.kp [0,6] [25900] ?_)
   refine At.zac (W.seq (W.rg env [6,25,26,27] [25900] ?_))
   refine W.block (At.kp [6,25,26,27] [25900] ?_)
   refine W.len (t:=25) rfl (fun (hn7:p0.length≤maxLen)=>?_)
   refine W.zav H (fun i7 (s7:(List Int))=>[(6,.buf 25900 (s7).length),(25,roL 1 zcv p0),(26,.int .i64 (((p0.length:Nat):Int))),(27,.int .i64 ((i7:Int)))]) (fun i7 (s7:(List Int))=>[(25900,bufL 3 1 zae s7)]) (.cons .qb (.cons .q (.cons .qi (.cons .qi .nil)))) (.cons .q .nil) (fun k7 i7 s7 hle7 H1 H2 K0 hK7=>?_)
   refine W.rg env [6,25,26,27,28] [25900] ?_
   refine W.seq (W.cond rfl (fun hb8=>?_) (fun hb8=>?_))
   · have hi7:i7<p0.length:=by have:=of_decide_eq_true hb8;omega
     have H:=H1 hi7
     refine W.skip (At.zac (W.seq (W.block (W.sr env [] [] [6,8,25,26,27] [25900] rfl rfl rfl (.cons (⟨by omega,by omega⟩:0≤(i7:Int)∧(i7:Int)<((p0.length:Nat):Int)) .nil) .nil ?_))))
     obtain ⟨hc9,H⟩:=zaa H
     refine W.region env [] [] rfl rfl rfl (.cons (⟨by first|rfl|(simp;done)|omega|(simp;omega),by have:=hc9;first|simpa using this|(unfold room at this ⊢;simp at this ⊢;omega)⟩) .nil) .nil (At.kp [6,25,26,27] [25900] ?_)
     refine At.zbG (.cons (y:=bufL 3 1 zae (s7++(p0.getD i7 default))) (BSim.seg (Seg.push (Seg.refl zae _) (Seg.refl zae (p0.getD i7 default)))) .nil) ?_
     refine At.inb (At.zac (W.region env [] [] rfl rfl rfl (.cons (by unfold inI;have:=hn7;(try unfold maxLen at this);omega) .nil) .nil (At.kp [6,25,26,27] [25900] ?_)))
     refine At.zaG (At.kp [6,25,26,27] [25900] ?_)
     exact At.conv (.cons .qb (.cons .q (.cons .qi (.cons .qi .nil)))) (.cons .q .nil) (hK7 hi7 (s7++(p0.getD i7 default)) H)
   · have H:=H2 (by have:=of_decide_eq_false hb8;omega)
     refine W.exit (At.xthen (At.xthen (At.xhere (At.zac (W.rg env [2] [25900] ?_)))))
     refine W.ret ?_
     cases H
     exact At.ret env.ty rfl rfl (fun q hq=>by cases hq;exact (by first|rfl|(simp;done)|omega|(simp;omega))) (.refl _) hval
theorem zg7 (p0:Range) (p1:Int):Ctr Tryz.prog 122 [.agg [.int .i64 (p0.Lo),.int .i64 (p0.Hi)],.int .i64 (p1)] (.int .i64 ((zc4 p0 p1))):=by
 obtain ⟨r,H⟩:∃ r,zc4 p0 p1=r:=⟨_,rfl⟩
 rw [H]
 unfold zc4 at H
 refine Ctr.zak (N:=15) Tryz.func122 (by kernel_rfl) (c:=_) rfl Tryz.ntmps122 rfl (fun w0 h0 hval=>?_)
 refine W.rg env [1,2] [2] ?_
 refine W.seq (W.block (W.rg env [1,2,5] [2] ?_))
 refine W.cond rfl (fun hb1=>?_) (fun hb1=>?_)
 · have H:=zaf H hb1
   refine W.rg env [4] [] ?_
   refine W.ret (At.rinb ?_)
   refine At.rthen ?_
   cases H
   exact At.ret env.ty rfl rfl nofun (.refl _) hval
 · have H:=zad H hb1
   refine W.rg env [10] [] ?_
   refine W.cond rfl (fun hb2=>?_) (fun hb2=>?_)
   · have H:=zaf H hb2
     refine W.rg env [4] [] ?_
     refine W.ret (At.rinb ?_)
     refine At.rthen ?_
     cases H
     exact At.ret env.ty rfl rfl nofun (.refl _) hval
   · have H:=zad H hb2
     refine W.skip (At.inb (At.zac (W.rg env [4] [] ?_)))
     refine W.ret ?_
     cases H
     exact At.ret env.ty rfl rfl nofun (.refl _) hval
theorem zgr (p0:mantle_lot) (p1:(List Int)) (p2:Int) (p3:Bool) {r:Bool} (H:zdC p0 p1 p2 p3=some r):Ctr Tryz.prog 127 [.agg (zar p0),roL 1 zae p1,.int .i64 (p2),.bool (p3)] (.bool (r)):=by
 unfold zdC at H
 refine Ctr.zak (N:=29) Tryz.func127 (by kernel_rfl) (c:=_) rfl Tryz.ntmps127 rfl (fun w0 h0 hval=>?_)
 refine W.rg env [1,2,3,4] [4] ?_
 refine W.seq ?_
 obtain ⟨y1,hy2,H⟩:=zab H
 refine W.region env [] [⟨.agg (zar y1),[],0,[]⟩] rfl rfl rfl .nil (.free (zdo p0 p1 p3 hy2) .nil) (At.kp [2,3,9] [9] ?_)
 refine At.zac (W.seq (W.seq ?_))
 obtain ⟨y3,hy4,H⟩:=zab H
 refine W.region env [] [⟨.bool (y3),[],0,[]⟩] rfl rfl rfl .nil (.free (zaX y1.closet hy4) .nil) (At.kp [2,3,9,17] [9] ?_)
 refine At.zac (W.cond rfl (fun hb5=>?_) (fun hb5=>?_))
 · have H:=zaf H hb5
   refine W.rg env [8] [] ?_
   refine W.ret (At.rthen ?_)
   cases H
   exact At.ret env.ty rfl rfl nofun (.refl _) hval
 · have H:=zad H hb5
   refine W.skip (At.zac (W.seq (W.rg env [2,9,18] [9] ?_)))
   refine W.cond rfl (fun hb6=>?_) (fun hb6=>?_)
   · have H:=zaf H hb6
     refine W.seq ?_
     obtain ⟨y7,hy8,H⟩:=zab H
     refine W.region env [] [⟨.agg [.int .i64 (y7.Lo),.int .i64 (y7.Hi)],[],0,[]⟩,⟨.int .i64 ((zc4 y7 p2)),[],0,[]⟩] rfl rfl rfl .nil (.free (zdn y1 hy8) (.free (zg7 y7 p2) .nil)) (At.kp [8] [] ?_)
     refine At.zac (W.ret (At.rthen ?_))
     cases H
     exact At.ret env.ty rfl rfl nofun (.refl _) hval
   · have H:=zad H hb6
     refine W.skip (At.zac (W.seq ?_))
     obtain ⟨y9,hy10,H⟩:=zab H
     refine W.region env [] [⟨.agg [.int .i64 (y9.Lo),.int .i64 (y9.Hi)],[],0,[]⟩,⟨.int .i64 ((zc4 y9 p2)),[],0,[]⟩] rfl rfl rfl .nil (.free (zdn y1 hy10) (.free (zg7 y9 p2) .nil)) (At.kp [8] [] ?_)
     refine At.zac (W.ret ?_)
     cases H
     exact At.ret env.ty rfl rfl nofun (.refl _) hval
theorem zfW (fuel:Nat) (p0:mantle_lot) (p1:Int) (p2:Bool) (post:((List Int)×Bool)→Option Unit) {r:Unit} (H:zdk fuel p0 p1 p2 post=some r):CtrN Tryz.prog 123 [.agg (zar p0),.int .i64 (p1),.bool (p2)] (fun (y:((List Int)×Bool))=>.tup [roL 1 zae y.1,.bool (y.2)]) (fun y=>post y=some r):=by
 unfold zdk at H
 refine CtrN.zak (N:=107) Tryz.func123 (by kernel_rfl) (c:=_) rfl Tryz.ntmps123 rfl (fun w0 h0 hval=>?_)
 refine W.rg env [1,2,3] [3] ?_
 refine W.seq (W.region env [] [] rfl rfl rfl .nil .nil (At.kp [1,2,3,8] [3,22] ?_))
 refine At.zbG (.cons (.refl _) (.cons (y:=mapL (.slice none 0 0) (fun (x:(List Int))=>roL 1 zae x) ((Mp.empty:Mp (List Int)).set 0 [])) (BSim.zou (f:=(fun (x:(List Int))=>roL 1 zae x)) (zhu.set (zhu.empty (f:=(fun (x:(List Int))=>roL 1 zae x)) (Sim.nil _ _)) [] (Sim.nil _ _))) .nil)) ?_
 refine At.zac (W.seq (W.rg env [1,2,3,8,28,29] [3,22] ?_))
 refine W.block (At.zmy 22 (K:=[3]) (ts:=[1,2,3,8,28,29]) rfl rfl rfl rfl (fun _ h=>h) ?_)
 refine At.kp [1,2,3,8,28,29] [3] ?_
 obtain ⟨hn1,H⟩:=zaa H
 refine W.zav H (fun i1 (s1:(Mp (List Int)))=>[(1,.int .i64 (p1)),(2,.bool (p2)),(3,.lp 3 0),(8,romL (.slice none 0 0) (fun (x:(List Int))=>roL 1 zae x) s1),(28,.int .i64 (((p0.closet.w.Batches.length:Nat):Int))),(29,.int .i64 ((i1:Int)))]) (fun i1 (s1:(Mp (List Int)))=>[(3,.cells (zar p0))]) (.cons .qi (.cons .q (.cons .q (.cons .q (.cons .qi (.cons .qi .nil)))))) (.cons .q .nil) (fun k1 i1 s1 hle1 H1 H2 K0 hK1=>?_)
 refine W.rg env [1,2,3,8,28,29,30] [3] ?_
 refine W.seq (W.cond rfl (fun hb2=>?_) (fun hb2=>?_))
 · have hi1:i1<p0.closet.w.Batches.length:=by have:=of_decide_eq_true hb2;omega
   have H:=H1 hi1
   refine W.skip (At.zac (W.seq (W.block (W.rg env [1,2,3,8,9,28,29] [3] ?_))))
   refine W.seq ?_
   obtain ⟨y3,hy4,H⟩:=zab H
   refine W.region env [] [⟨roL 1 zcv y3,[],0,[]⟩] rfl rfl rfl .nil (.free (zhq p0 (i1:Int) p2 hy4) .nil) (At.kp [1,2,3,8,10,28,29] [3] ?_)
   refine At.zac (W.seq (W.region env [] [] rfl rfl rfl .nil .nil (At.kp [1,2,3,8,10,11,28,29] [3,36] ?_)))
   refine At.zbG (.cons (.refl _) (.cons (y:=mapL (.slice none 0 0) (fun (x:(List Int))=>roL 1 zae x) (Mp.empty:Mp (List Int))) (BSim.zou (f:=(fun (x:(List Int))=>roL 1 zae x)) (zhu.empty (f:=(fun (x:(List Int))=>roL 1 zae x)) (Sim.nil _ _))) .nil)) ?_
   refine At.zac (W.seq (W.rg env [1,2,3,10,11,28,29,38] [3,36,38] ?_))
   refine W.block ?_
   obtain ⟨hok5,H⟩:=zaa H
   refine At.kp [1,2,3,10,11,28,29,38] [38,3,36] ?_
   refine At.zkJ 38 rfl (fun left hleft=>?_)
   refine At.kp [1,2,3,10,11,28,29,38] [38,3,36] ?_
   refine W.zeH H (Mp.perm hok5 hleft) hleft.2.1 38 (fun k=>(fun (x:(List Int))=>roL 1 zae x) ((s1.get k).getD default)) (fun (s5:(Mp (List Int)))=>[(1,.int .i64 (p1)),(2,.bool (p2)),(3,.lp 3 0),(10,roL 1 zcv y3),(11,.mp 36),(28,.int .i64 (((p0.closet.w.Batches.length:Nat):Int))),(29,.int .i64 ((i1:Int))),(38,.lp 38 0)]) (fun (s5:(Mp (List Int)))=>[(3,.cells (zar p0)),(36,mapL (.slice none 0 0) (fun (x:(List Int))=>roL 1 zae x) s5)]) (.cons .qi (.cons .q (.cons .q (.cons .q (.cons .q (.cons .qi (.cons .qi (.cons .q .nil)))))))) (.cons (.refl _) (.cons .q (.cons .q .nil))) (fun left s5 HJ5 hsub5 K hK5=>?_)
   refine W.seq (W.next rfl rfl rfl rfl rfl rfl rfl rfl rfl rfl rfl (fun hz=>?_) (fun q5 left2 hp5=>?_))
   · subst hz
     have H:k1 s5=some r:=HJ5
     refine At.zac (W.seq (W.cond rfl (fun hb18=>by cases hb18) (fun hb18=>?_)))
     refine W.exit (At.xthen (At.xthen (At.xhere (At.zac (At.zmy 36 (K:=[3]) (ts:=[1,2,3,11,28,29]) rfl rfl rfl rfl (fun _ h=>h) ?_)))))
     refine W.region env [] [] rfl rfl rfl .nil .nil (At.kp [1,2,3,8,28,29] [3] ?_)
     refine At.inb (At.zac (W.region env [] [] rfl rfl rfl (.cons (by unfold inI;have:=hn1;(try unfold maxLen at this);omega) .nil) .nil (At.kp [1,2,3,8,28,29] [3] ?_)))
     refine At.zaG (At.kp [1,2,3,8,28,29] [3] ?_)
     exact At.conv (.cons .qi (.cons .q (.cons .q (.cons .q (.cons .qi (.cons .qi .nil)))))) (.cons .q .nil) (hK1 hi1 s5 H)
   · have H:=zmq hp5 HJ5
     refine At.zac (W.seq (W.cond rfl (fun hb6=>?_) (fun hb6=>by cases hb6)))
     refine W.skip (At.zac (W.block (W.rg env [1,2,3,10,11,12,13,28,29,38] [3,36,38] ?_)))
     refine W.rg env [1,2,3,10,11,12,13,28,29,38,44,45,46] [3,36,38] ?_
     refine W.block (At.kp [1,2,3,10,11,12,13,28,29,38,44,45,46] [3,36,38] ?_)
     refine W.len (t:=44) rfl (fun (hn7:y3.length≤maxLen)=>?_)
     refine W.zav H (fun i7 (s7:(Mp (List Int)))=>[(1,.int .i64 (p1)),(2,.bool (p2)),(3,.lp 3 0),(10,roL 1 zcv y3),(11,.mp 36),(12,.int .i64 (q5)),(13,roL 1 zae ((s1.get q5).getD default)),(28,.int .i64 (((p0.closet.w.Batches.length:Nat):Int))),(29,.int .i64 ((i1:Int))),(38,.lp 38 0),(44,roL 1 zcv y3),(45,.int .i64 (((y3.length:Nat):Int))),(46,.int .i64 ((i7:Int)))]) (fun i7 (s7:(Mp (List Int)))=>[(3,.cells (zar p0)),(36,mapL (.slice none 0 0) (fun (x:(List Int))=>roL 1 zae x) s7),(38,.iter (fun k=>(fun (x:(List Int))=>roL 1 zae x) ((s1.get k).getD default)) (some q5) (fun l=>l=left2))]) (.cons .qi (.cons .q (.cons .q (.cons .q (.cons .q (.cons .qi (.cons .q (.cons .qi (.cons .qi (.cons .q (.cons .q (.cons .qi (.cons .qi .nil))))))))))))) (.cons .q (.cons .q (.cons .q .nil))) (fun k7 i7 s7 hle7 H1 H2 K0 hK7=>?_)
     refine W.rg env [1,2,3,10,11,12,13,28,29,38,44,45,46,47] [3,36,38] ?_
     refine W.seq (W.cond rfl (fun hb8=>?_) (fun hb8=>?_))
     · have hi7:i7<y3.length:=by have:=of_decide_eq_true hb8;omega
       have H:=H1 hi7
       refine W.skip (At.zac (W.seq (W.block (W.sr env [] [] [1,2,3,10,11,12,13,15,28,29,38,44,45,46] [3,36,38] rfl rfl rfl (.cons (⟨by omega,by omega⟩:0≤(i7:Int)∧(i7:Int)<((y3.length:Nat):Int)) .nil) .nil ?_))))
       refine W.seq ?_
       obtain ⟨y9,hy10,H⟩:=zab H
       refine W.region env [] [⟨roL 1 zae y9,[],0,[]⟩] rfl rfl rfl .nil (.free (Ctr.sim (.cons (Sim.lit (f:=zcv) ([((s1.get q5).getD default),(y3.getD i7 default)]:List (List Int)) rfl rfl (fun _=>rfl)) .nil) (zho ([((s1.get q5).getD default),(y3.getD i7 default)]:List (List Int)) hy10)) .nil) (At.kp [1,2,3,10,11,12,13,15,16,28,29,38,44,45,46] [3,36,38] ?_)
       refine At.zac ?_
       obtain ⟨hc11,H⟩:=zaa H
       refine W.sr env [] [] [1,2,3,10,11,12,13,15,16,17,18,28,29,38,44,45,46] [3,36,38] rfl rfl rfl (.cons hc11 (.cons rfl .nil)) .nil ?_
       refine W.seq ?_
       obtain ⟨y12,hy13,H⟩:=zab H
       obtain ⟨y14,hy15,H⟩:=zab H
       refine W.region env [] [⟨.int .i64 (y12),[],0,[]⟩,⟨.int .i64 (y14),[],0,[]⟩] rfl rfl (by kernel_rfl) (.cons id (.cons id (.cons id (.cons id (.cons id (.cons id (.cons id (.cons id (.cons (fun h=>by rw [h];rfl) .nil))))))))) (.on (fun hW=>zc9 p0 y9 p2 (zaf hy13 hW)) (.on (fun hW=>zc9 p0 ((s7.get (q5+(((y3.getD i7 default).length:Nat):Int))).getD default) p2 (zaf hy15 hW)) .nil)) (At.kp [1,2,3,10,11,12,13,15,16,28,29,38,44,45,46,75] [3,36,38] ?_)
       refine At.zac (W.cond rfl (fun hb16=>?_) (fun hb16=>?_))
       · have H:=zaf H hb16
         obtain ⟨hc17,H⟩:=zaa H
         refine W.region env [] [] rfl rfl rfl (.cons hc17 .nil) .nil (At.kp [1,2,3,10,11,12,13,28,29,38,44,45,46] [3,36,38] ?_)
         refine At.zbG (.cons (.refl _) (.cons (y:=mapL (.slice none 0 0) (fun (x:(List Int))=>roL 1 zae x) (s7.set (q5+(((y3.getD i7 default).length:Nat):Int)) y9)) (BSim.mseg (f:=(fun (x:(List Int))=>roL 1 zae x)) (MSeg.set (MSeg.refl (fun (x:(List Int))=>roL 1 zae x) _) y9 rfl)) (.cons (.refl _) .nil))) ?_
         refine At.inb (At.zac (W.region env [] [] rfl rfl rfl (.cons (by unfold inI;have:=hn7;(try unfold maxLen at this);omega) .nil) .nil (At.kp [1,2,3,10,11,12,13,28,29,38,44,45,46] [3,36,38] ?_)))
         refine At.zaG (At.kp [1,2,3,10,11,12,13,28,29,38,44,45,46] [3,36,38] ?_)
         exact At.conv (.cons .qi (.cons .q (.cons .q (.cons .q (.cons .q (.cons .qi (.cons .q (.cons .qi (.cons .qi (.cons .q (.cons .q (.cons .qi (.cons .qi .nil))))))))))))) (.cons .q (.cons .q (.cons .q .nil))) (hK7 hi7 (s7.set (q5+(((y3.getD i7 default).length:Nat):Int)) y9) H)
       · have H:=zad H hb16
         refine W.skip (At.inb (At.zac (W.region env [] [] rfl rfl rfl (.cons (by unfold inI;have:=hn7;(try unfold maxLen at this);omega) .nil) .nil (At.kp [1,2,3,10,11,12,13,28,29,38,44,45,46] [3,36,38] ?_))))
         refine At.zaG (At.kp [1,2,3,10,11,12,13,28,29,38,44,45,46] [3,36,38] ?_)
         exact At.conv (.cons .qi (.cons .q (.cons .q (.cons .q (.cons .q (.cons .qi (.cons .q (.cons .qi (.cons .qi (.cons .q (.cons .q (.cons .qi (.cons .qi .nil))))))))))))) (.cons .q (.cons .q (.cons .q .nil))) (hK7 hi7 s7 H)
     · have H:=H2 (by have:=of_decide_eq_false hb8;omega)
       refine W.exit (At.xthen (At.xthen (At.xhere (At.inb (At.zaG (At.kp [1,2,3,10,11,28,29,38] [38,3,36] ?_))))))
       exact At.conv (.cons .qi (.cons .q (.cons .q (.cons .q (.cons .q (.cons .qi (.cons .qi (.cons .q .nil)))))))) (.cons (.refl _) (.cons .q (.cons .q .nil))) (hK5 _ left2 s7 hp5 H)
 · have H:=H2 (by have:=of_decide_eq_false hb2;omega)
   refine W.exit (At.xthen (At.xthen (At.xhere (At.zac (W.seq (W.rg env [1,2,3,8,19] [3] ?_))))))
   refine W.block (At.kp [1,2,3,8,19] [3] ?_)
   refine W.loopGo H (fun (s19:Int)=>[(1,.int .i64 (p1)),(2,.bool (p2)),(3,.lp 3 0),(8,romL (.slice none 0 0) (fun (x:(List Int))=>roL 1 zae x) s1),(19,.int .i64 (s19))]) (fun (s19:Int)=>[(3,.cells (zar p0))]) (.cons .qi (.cons .q (.cons .q (.cons .q (.cons .qi .nil))))) (.cons .q .nil) (fun k19 s19 H K0 hK19=>?_)
   refine W.seq (W.rg env [1,2,3,8,19,89] [3] ?_)
   refine W.cond rfl (fun hb20=>?_) (fun hb20=>?_)
   · have H:=zaf H hb20
     refine W.skip (At.zac (W.seq (W.block (W.sr env [] [] [1,2,3,8,19,20,21] [3] rfl rfl rfl (.cons rfl .nil) .nil ?_))))
     refine W.seq ?_
     obtain ⟨y21,hy22,H⟩:=zab H
     refine W.region env [] [⟨.bool (y21),[],0,[]⟩] rfl rfl rfl (.cons id (.cons id (.cons id (.cons id (.cons id .nil))))) (.on (fun hW=>zgr p0 ((s1.get s19).getD default) p1 p2 (zaf hy22 hW)) .nil) (At.kp [1,2,3,8,19,20,105] [3] ?_)
     refine At.zac (W.cond rfl (fun hb23=>?_) (fun hb23=>?_))
     · have H:=zaf H hb23
       refine W.rg env [6,7] [] ?_
       refine W.ret (At.rinb ?_)
       refine At.rthen ?_
       refine At.rthen ?_
       refine At.rinb ?_
       refine At.rthen ?_
       exact At.retN env.ty (((s1.get s19).getD default),true) H rfl rfl nofun (.refl _) hval
     · have H:=zad H hb23
       refine W.skip (At.inb (At.zac ?_))
       obtain ⟨hc24,H⟩:=zaa H
       refine W.region env [] [] rfl rfl rfl (.cons hc24 .nil) .nil (At.kp [1,2,3,8,19] [3] ?_)
       refine At.zaG (At.kp [1,2,3,8,19] [3] ?_)
       exact At.conv (.cons .qi (.cons .q (.cons .q (.cons .q (.cons .qi .nil))))) (.cons .q .nil) (hK19 (s19+1) H)
   · have H:=zad H hb20
     refine W.exit (At.xthen (At.xthen (At.xhere (At.zac (W.rg env [6,7] [] ?_)))))
     exact W.ret (At.retN env.ty ([],false) H rfl rfl nofun (Sim.tupL (.cons (Sim.nil _ _) (.cons (.refl _) .nil))) hval)
theorem zhM (p0:List Int) {r:List Int} (H:zde p0=some r):CtrO Tryz.prog 120 [.buf 90000 p0.length] [(90000,bufL 3 1 zae p0)] (.tup []) [(90000,bufL 3 1 zae r)]:=
 zps (Go.Av.enters_of Tryz.func120 (by kernel_rfl) (c:=_) rfl) (Any.slices_Sort_int zlj) (Any.slices_Sort_int_none zlj) 3 p0 H
theorem zik (fuel:Nat) (p0:Wear) (p1:(List Int)) (p2:Int) (p3:Int) (p4:Int) (p5:Bool) (post:((List Int)×Int)→Option Unit) {r:Unit} (H:zeJ fuel p0 p1 p2 p3 p4 p5 post=some r):CtrN Tryz.prog 53 [.agg (zaj p0),roL 1 zae p1,.int .i64 (p2),.int .i64 (p3),.int .i64 (p4),.bool (p5)] (fun (y:((List Int)×Int))=>.tup [roL 1 zae y.1,.int .i64 (y.2)]) (fun y=>post y=some r):=by
 unfold zeJ at H
 refine CtrN.zak (N:=59) Tryz.func53 (by kernel_rfl) (c:=_) rfl Tryz.ntmps53 rfl (fun w0 h0 hval=>?_)
 refine W.rg env [1,2,3,4,5,6] [6] ?_
 refine W.seq ?_
 obtain ⟨y1,hy2,H⟩:=zab H
 refine W.region env [] [⟨.tup [.agg (zar y1.1),.int .i64 (y1.2)],[],0,[]⟩] rfl rfl rfl .nil (.free (zfr fuel p0 p1 p2 p3 p4 hy2) .nil) (At.kp [1,4,5,14,15] [14] ?_)
 refine At.zac (W.seq (W.rg env [1,4,5,14,15,31] [14] ?_))
 refine W.cond rfl (fun hb3=>?_) (fun hb3=>?_)
 · have H:=zaf H hb3
   refine W.rg env [12,13] [] ?_
   refine W.ret (At.rthen ?_)
   exact At.retN env.ty ([],y1.2) H rfl rfl nofun (Sim.tupL (.cons (Sim.nil _ _) (.cons (.refl _) .nil))) hval
 · have H:=zad H hb3
   refine W.skip (At.zac (W.seq (W.zok env [] 3 [] [] rfl rfl rfl rfl rfl rfl (fun _=>rfl) rfl .nil .nil (fun _=>.nil) (fun _=>.nil) (fun _=>rfl) (zfW fuel y1.1 p4 p5 _ H) (fun y4 H=>?_))))
   refine At.kp [1,16,17] [] ?_
   refine At.zac (W.seq (W.rg env [1,16,41] [] ?_))
   refine W.cond rfl (fun hb5=>?_) (fun hb5=>?_)
   · have H:=zaf H hb5
     refine W.rg env [12,13] [] ?_
     refine W.ret (At.rthen ?_)
     exact At.retN env.ty ([],3) H rfl rfl nofun (Sim.tupL (.cons (Sim.nil _ _) (.cons (.refl _) .nil))) hval
   · have H:=zad H hb5
     refine W.skip (At.zac (W.rg env [1,16,18] [] ?_))
     refine W.seq (W.rg env [1,18,42,43,44] [] ?_)
     refine W.block (At.zeY 18 518 3 1 (e:=fun i=>zae (([]:List Int).getD i default)) rfl rfl ?_)
     refine At.kp [1,18,42,43,44] [518] ?_
     refine W.len (t:=42) rfl (fun (hn6:y4.1.length≤maxLen)=>?_)
     refine W.zav H (fun i6 (s6:(List Int))=>[(1,roL 1 zae p1),(18,.buf 518 (s6).length),(42,roL 1 zae y4.1),(43,.int .i64 (((y4.1.length:Nat):Int))),(44,.int .i64 ((i6:Int)))]) (fun i6 (s6:(List Int))=>[(518,bufL 3 1 zae s6)]) (.cons .q (.cons .qb (.cons .q (.cons .qi (.cons .qi .nil))))) (.cons .q .nil) (fun k6 i6 s6 hle6 H1 H2 K0 hK6=>?_)
     refine W.rg env [1,18,42,43,44,45] [518] ?_
     refine W.seq (W.cond rfl (fun hb7=>?_) (fun hb7=>?_))
     · have hi6:i6<y4.1.length:=by have:=of_decide_eq_true hb7;omega
       have H:=H1 hi6
       refine W.skip (At.zac (W.seq (W.block (W.sr env [] [] [1,18,20,42,43,44] [518] rfl rfl rfl (.cons (⟨by omega,by omega⟩:0≤(i6:Int)∧(i6:Int)<((y4.1.length:Nat):Int)) .nil) .nil ?_))))
       obtain ⟨hc8,H⟩:=zaa H
       obtain ⟨hc9,H⟩:=zaa H
       refine W.region env [] [] rfl rfl rfl (.cons hc8 (.cons (⟨by first|rfl|(simp;done)|omega|(simp;omega),by have:=hc9;first|simpa using this|(unfold room at this ⊢;simp at this ⊢;omega)⟩) .nil)) .nil (At.kp [1,18,42,43,44] [518] ?_)
       refine At.zbG (.cons (y:=bufL 3 1 zae (s6++([(p1.getD ((y4.1.getD i6 default)).toNat default)]:List Int))) (BSim.seg (Seg.push (Seg.refl zae _) (Seg.lit (f:=zae) (sz:=1) ([(p1.getD ((y4.1.getD i6 default)).toNat default)]:List Int) rfl rfl (fun _=>rfl)))) .nil) ?_
       refine At.inb (At.zac (W.region env [] [] rfl rfl rfl (.cons (by unfold inI;have:=hn6;(try unfold maxLen at this);omega) .nil) .nil (At.kp [1,18,42,43,44] [518] ?_)))
       refine At.zaG (At.kp [1,18,42,43,44] [518] ?_)
       exact At.conv (.cons .q (.cons .qb (.cons .q (.cons .qi (.cons .qi .nil))))) (.cons .q .nil) (hK6 hi6 (s6++([(p1.getD ((y4.1.getD i6 default)).toNat default)]:List Int)) H)
     · have H:=H2 (by have:=of_decide_eq_false hb7;omega)
       refine W.exit (At.xthen (At.xthen (At.xhere (At.zac (W.seq ?_)))))
       obtain ⟨y10,hy11,H⟩:=zab H
       obtain ⟨hc12,H⟩:=zaa H
       refine W.region env [] [⟨.tup [],[(518,bufL 3 1 zae y10)],0,[518]⟩] rfl rfl (by kernel_rfl) .nil (.free (CtrO.sim (CtrO.ren (zhM s6 hy11) [(90000,518)]) (.cons .qc .nil) (.cons (.refl _) .nil)) .nil) (At.kp [18] [518] ?_)
       refine At.zac (W.rg env [12,13] [518] ?_)
       exact W.ret (At.retN env.ty (y10,0) H rfl rfl (fun q hq=>by cases hq;exact (by first|rfl|(simp;done)|omega|(simp;omega))) (.refl _) hval)
theorem zeo (fuel:Nat) (p0:(List Look)) (p1:Look) (p2:Look→Look→Option Int) (p2_g:Nat) (p2_a p2_b:List AV) (p2_h:∀ x0 x1 r,p2 x0 x1=some r→Ctr Tryz.prog p2_g (p2_a++([.agg [.int .i64 (x0.Source),.int .i64 (x0.Lamp),.int .i64 (x0.Night),.bool (x0.Bad),.int .i64 (x0.Known),.int .i64 (x0.Until)],.agg [.int .i64 (x1.Source),.int .i64 (x1.Lamp),.int .i64 (x1.Night),.bool (x1.Bad),.int .i64 (x1.Known),.int .i64 (x1.Until)]]++p2_b)) (.int .i64 (r))) {r:(Int×Bool)} (H:zb4 fuel p0 p1 p2=some r):Ctr Tryz.prog 60 [roL 6 zai p0,.agg [.int .i64 (p1.Source),.int .i64 (p1.Lamp),.int .i64 (p1.Night),.bool (p1.Bad),.int .i64 (p1.Known),.int .i64 (p1.Until)],.clo (.func p2_g) p2_a p2_b] (.tup [.int .i64 (r.1),.bool (r.2)]):=by
 unfold zb4 at H
 refine Ctr.zak (N:=49) Tryz.func60 (by kernel_rfl) (c:=_) rfl Tryz.ntmps60 rfl (fun w0 h0 hval=>?_)
 refine W.rg env [0,2,4] [4] ?_
 refine W.rg env [0,2,4,8] [4] ?_
 refine W.rg env [0,2,4,8,9,10] [4] ?_
 refine W.seq (W.block (At.kp [0,2,4,8,9,10] [4] ?_))
 refine W.loopGo H (fun (s1:Int×Int)=>[(0,roL 6 zai p0),(2,.clo (.func p2_g) p2_a p2_b),(4,.lp 4 0),(8,.int .i64 (((p0.length:Nat):Int))),(9,.int .i64 (s1.2)),(10,.int .i64 (s1.1))]) (fun (s1:Int×Int)=>[(4,.cells [.int .i64 (p1.Source),.int .i64 (p1.Lamp),.int .i64 (p1.Night),.bool (p1.Bad),.int .i64 (p1.Known),.int .i64 (p1.Until)])]) (.cons .q (.cons .q (.cons .q (.cons .qi (.cons .qi (.cons .qi .nil)))))) (.cons .q .nil) (fun k1 s1 H K0 hK1=>?_)
 refine W.seq (W.rg env [0,2,4,8,9,10,17] [4] ?_)
 refine W.cond rfl (fun hb2=>?_) (fun hb2=>?_)
 · have H:=zaf H hb2
   refine W.skip (At.zac (W.block ?_))
   obtain ⟨hc3,H⟩:=zaa H
   obtain ⟨hc4,H⟩:=zaa H
   obtain ⟨hc5,H⟩:=zaa H
   refine W.sr env [] [] [0,2,4,8,9,10,11] [4] rfl rfl rfl (.cons hc3 (.cons hc4 (.cons (by decide) (.cons hc5 .nil)))) .nil ?_
   refine W.seq ?_
   obtain ⟨hc6,H⟩:=zaa H
   obtain ⟨y7,hy8,H⟩:=zab H
   refine W.region env [] [⟨.int .i64 (y7),[],0,[]⟩] rfl rfl (by kernel_rfl) (.cons hc6 .nil) (.free (p2_h (p0.getD ((Int.fdiv (s1.2+s1.1) (2 ^ (1:Int).toNat))).toNat default) p1 _ hy8) .nil) (At.kp [0,2,4,8,9,10,11,31] [4] ?_)
   refine At.zac (W.cond rfl (fun hb9=>?_) (fun hb9=>?_))
   · have H:=zaf H hb9
     obtain ⟨hc10,H⟩:=zaa H
     refine W.region env [] [] rfl rfl rfl (.cons hc10 .nil) .nil (At.kp [0,2,4,8,9,10] [4] ?_)
     refine At.inb (At.zaG (At.kp [0,2,4,8,9,10] [4] ?_))
     exact At.conv (.cons .q (.cons .q (.cons .q (.cons .qi (.cons .qi (.cons .qi .nil)))))) (.cons .q .nil) (hK1 (s1.1,((Int.fdiv (s1.2+s1.1) (2 ^ (1:Int).toNat))+1)) H)
   · have H:=zad H hb9
     refine W.region env [] [] rfl rfl rfl .nil .nil (At.kp [0,2,4,8,9,10] [4] ?_)
     refine At.inb (At.zaG (At.kp [0,2,4,8,9,10] [4] ?_))
     exact At.conv (.cons .q (.cons .q (.cons .q (.cons .qi (.cons .qi (.cons .qi .nil)))))) (.cons .q .nil) (hK1 ((Int.fdiv (s1.2+s1.1) (2 ^ (1:Int).toNat)),s1.2) H)
 · have H:=zad H hb2
   refine W.exit (At.xthen (At.xthen (At.xhere (At.zac (W.seq ?_)))))
   obtain ⟨hc11,H⟩:=zaa H
   obtain ⟨y12,hy13,H⟩:=zab H
   refine W.region env [] [⟨.int .i64 (y12),[],0,[]⟩] rfl rfl (by kernel_rfl) (.cons hc11 (.cons id (.cons id (.cons id (.cons id (.cons id (.cons id (.cons id (.cons id .nil))))))))) (.on (fun hW=>p2_h (p0.getD (s1.2).toNat default) p1 _ (zaf hy13 hW)) .nil) (At.kp [6,7] [] ?_)
   refine At.zac (W.ret ?_)
   cases H
   exact At.ret env.ty rfl rfl nofun (.refl _) hval
theorem zil (p0:Look) (p1:Look):Ctr Tryz.prog 61 [.agg [.int .i64 (p0.Source),.int .i64 (p0.Lamp),.int .i64 (p0.Night),.bool (p0.Bad),.int .i64 (p0.Known),.int .i64 (p0.Until)],.agg [.int .i64 (p1.Source),.int .i64 (p1.Lamp),.int .i64 (p1.Night),.bool (p1.Bad),.int .i64 (p1.Known),.int .i64 (p1.Until)]] (.int .i64 ((zc5 p0 p1))):=by
 obtain ⟨r,H⟩:∃ r,zc5 p0 p1=r:=⟨_,rfl⟩
 rw [H]
 unfold zc5 at H
 refine Ctr.zak (N:=10) Tryz.func61 (by kernel_rfl) (c:=_) rfl Tryz.ntmps61 rfl (fun w0 h0 hval=>?_)
 refine W.rg env [2,3] [2,3] ?_
 refine W.sr env [] [⟨.int .i64 ((za0 p0.Source p1.Source)),[],0,[]⟩] [4] [] rfl rfl rfl .nil (.free (zd6 p0.Source p1.Source) .nil) ?_
 refine W.ret ?_
 cases H
 exact At.ret env.ty rfl rfl nofun (.refl _) hval
theorem zg1 (p0:(List Batch)) {r:(List Batch)} (H:zdL p0=some r):Ctr Tryz.prog 63 [roL 3 zaK p0] (roL 3 zaK r):=by
 unfold zdL at H
 refine Ctr.zak (N:=8) Tryz.func63 (by kernel_rfl) (c:=_) rfl Tryz.ntmps63 rfl (fun w0 h0 hval=>?_)
 refine W.rg env [0] [] ?_
 refine W.seq (W.rg env [0,4] [] ?_)
 refine W.zhL rfl (fun hz=>?_) ?_
 · obtain rfl:p0=[]:=List.length_eq_zero_iff.1 hz
   obtain ⟨hc1,H⟩:=zaa H
   refine W.rg env [2] [] ?_
   refine W.ret (At.rthen ?_)
   cases H
   exact At.ret env.ty rfl rfl nofun (Sim.nil _ _) hval
 · refine W.skip (At.zac (W.seq ?_))
   obtain ⟨hc1,H⟩:=zaa H
   refine W.region env [5] [] rfl rfl rfl (.cons (⟨by first|rfl|(simp;done)|omega|(simp;omega),by have:=hc1;first|simpa using this|(unfold room at this ⊢;simp at this ⊢;omega)⟩) .nil) .nil (At.kp [2] [5] ?_)
   refine At.zbG (.cons (y:=bufL 31 3 zaK (([]:List Batch)++p0)) (BSim.seg (Seg.push (Seg.lit (f:=zaK) (sz:=3) ([]:List Batch) rfl rfl (fun _=>rfl)) (Seg.refl zaK p0))) .nil) ?_
   refine At.zac (W.ret ?_)
   cases H
   exact At.ret env.ty rfl rfl (fun q hq=>by cases hq;exact (by first|rfl|(simp;done)|omega|(simp;omega))) (.refl _) hval
theorem zgq (p0:(List Mantle)) {r:(List Mantle)} (H:zdA p0=some r):Ctr Tryz.prog 64 [roL 6 zaE p0] (roL 6 zaE r):=by
 unfold zdA at H
 refine Ctr.zak (N:=8) Tryz.func64 (by kernel_rfl) (c:=_) rfl Tryz.ntmps64 rfl (fun w0 h0 hval=>?_)
 refine W.rg env [0] [] ?_
 refine W.seq (W.rg env [0,4] [] ?_)
 refine W.zhL rfl (fun hz=>?_) ?_
 · obtain rfl:p0=[]:=List.length_eq_zero_iff.1 hz
   obtain ⟨hc1,H⟩:=zaa H
   refine W.rg env [2] [] ?_
   refine W.ret (At.rthen ?_)
   cases H
   exact At.ret env.ty rfl rfl nofun (Sim.nil _ _) hval
 · refine W.skip (At.zac (W.seq ?_))
   obtain ⟨hc1,H⟩:=zaa H
   refine W.region env [5] [] rfl rfl rfl (.cons (⟨by first|rfl|(simp;done)|omega|(simp;omega),by have:=hc1;first|simpa using this|(unfold room at this ⊢;simp at this ⊢;omega)⟩) .nil) .nil (At.kp [2] [5] ?_)
   refine At.zbG (.cons (y:=bufL 33 6 zaE (([]:List Mantle)++p0)) (BSim.seg (Seg.push (Seg.lit (f:=zaE) (sz:=6) ([]:List Mantle) rfl rfl (fun _=>rfl)) (Seg.refl zaE p0))) .nil) ?_
   refine At.zac (W.ret ?_)
   cases H
   exact At.ret env.ty rfl rfl (fun q hq=>by cases hq;exact (by first|rfl|(simp;done)|omega|(simp;omega))) (.refl _) hval
theorem zhp (p0:(List Burn)) {r:(List Burn)} (H:zdX p0=some r):Ctr Tryz.prog 65 [roL 7 zaV p0] (roL 7 zaV r):=by
 unfold zdX at H
 refine Ctr.zak (N:=8) Tryz.func65 (by kernel_rfl) (c:=_) rfl Tryz.ntmps65 rfl (fun w0 h0 hval=>?_)
 refine W.rg env [0] [] ?_
 refine W.seq (W.rg env [0,4] [] ?_)
 refine W.zhL rfl (fun hz=>?_) ?_
 · obtain rfl:p0=[]:=List.length_eq_zero_iff.1 hz
   obtain ⟨hc1,H⟩:=zaa H
   refine W.rg env [2] [] ?_
   refine W.ret (At.rthen ?_)
   cases H
   exact At.ret env.ty rfl rfl nofun (Sim.nil _ _) hval
 · refine W.skip (At.zac (W.seq ?_))
   obtain ⟨hc1,H⟩:=zaa H
   refine W.region env [5] [] rfl rfl rfl (.cons (⟨by first|rfl|(simp;done)|omega|(simp;omega),by have:=hc1;first|simpa using this|(unfold room at this ⊢;simp at this ⊢;omega)⟩) .nil) .nil (At.kp [2] [5] ?_)
   refine At.zbG (.cons (y:=bufL 35 7 zaV (([]:List Burn)++p0)) (BSim.seg (Seg.push (Seg.lit (f:=zaV) (sz:=7) ([]:List Burn) rfl rfl (fun _=>rfl)) (Seg.refl zaV p0))) .nil) ?_
   refine At.zac (W.ret ?_)
   cases H
   exact At.ret env.ty rfl rfl (fun q hq=>by cases hq;exact (by first|rfl|(simp;done)|omega|(simp;omega))) (.refl _) hval
theorem zmP (p0:(List Look)) {r:(List Look)} (H:zbb p0=some r):Ctr Tryz.prog 67 [roL 6 zai p0] (roL 6 zai r):=by
 unfold zbb at H
 refine Ctr.zak (N:=8) Tryz.func67 (by kernel_rfl) (c:=_) rfl Tryz.ntmps67 rfl (fun w0 h0 hval=>?_)
 refine W.rg env [0] [] ?_
 refine W.seq (W.rg env [0,4] [] ?_)
 refine W.zhL rfl (fun hz=>?_) ?_
 · obtain rfl:p0=[]:=List.length_eq_zero_iff.1 hz
   obtain ⟨hc1,H⟩:=zaa H
   refine W.rg env [2] [] ?_
   refine W.ret (At.rthen ?_)
   cases H
   exact At.ret env.ty rfl rfl nofun (Sim.nil _ _) hval
 · refine W.skip (At.zac (W.seq ?_))
   obtain ⟨hc1,H⟩:=zaa H
   refine W.region env [5] [] rfl rfl rfl (.cons (⟨by first|rfl|(simp;done)|omega|(simp;omega),by have:=hc1;first|simpa using this|(unfold room at this ⊢;simp at this ⊢;omega)⟩) .nil) .nil (At.kp [2] [5] ?_)
   refine At.zbG (.cons (y:=bufL 37 6 zai (([]:List Look)++p0)) (BSim.seg (Seg.push (Seg.lit (f:=zai) (sz:=6) ([]:List Look) rfl rfl (fun _=>rfl)) (Seg.refl zai p0))) .nil) ?_
   refine At.zac (W.ret ?_)
   cases H
   exact At.ret env.ty rfl rfl (fun q hq=>by cases hq;exact (by first|rfl|(simp;done)|omega|(simp;omega))) (.refl _) hval
theorem zdm (p0:(List Look)) {r:(List Look)} (H:zbb p0=some r):CtrO Tryz.prog 67 [roL 6 zai p0] [] (.buf 900 r.length) [(900,bufL 37 6 zai r)]:=by
 unfold zbb at H
 refine CtrO.zak (N:=8) Tryz.func67 (by kernel_rfl) (c:=_) rfl Tryz.ntmps67 rfl (fun w0 h0 ρb hval hdom=>?_)
 refine W.rg env [0] [] ?_
 refine W.seq (W.rg env [0,4] [] ?_)
 refine W.zhL rfl (fun hz=>?_) ?_
 · obtain rfl:p0=[]:=List.length_eq_zero_iff.1 hz
   obtain ⟨hc1,H⟩:=zaa H
   refine W.rg env [2] [] ?_
   refine W.ret (At.rthen ?_)
   cases H
   refine At.zeY 2 800 37 6 (e:=fun i=>zai (([]:List Look).getD i default)) rfl rfl ?_
   exact At.retK env.ty [800] 100 rfl rfl rfl rfl (.cons (.refl _) .nil) (.of_eq (by refine zhT ?_;first|(simp [zbi];done)|omega|(simp [zbi];omega)|rfl)) hval hdom rfl
 · refine W.skip (At.zac (W.seq ?_))
   obtain ⟨hc1,H⟩:=zaa H
   refine W.region env [5] [] rfl rfl rfl (.cons (⟨by first|rfl|(simp;done)|omega|(simp;omega),by have:=hc1;first|simpa using this|(unfold room at this ⊢;simp at this ⊢;omega)⟩) .nil) .nil (At.kp [2] [5] ?_)
   refine At.zbG (.cons (y:=bufL 37 6 zai (([]:List Look)++p0)) (BSim.seg (Seg.push (Seg.lit (f:=zai) (sz:=6) ([]:List Look) rfl rfl (fun _=>rfl)) (Seg.refl zai p0))) .nil) ?_
   refine At.zac (W.ret ?_)
   cases H
   exact At.retK env.ty [5] 895 rfl rfl rfl rfl (.cons (.refl _) .nil) (.of_eq (by refine zhT ?_;first|(simp [zbi];done)|omega|(simp [zbi];omega)|rfl)) hval hdom rfl
theorem zgp (p0:List Look) (p1:Int) (p2:Look) {r:List Look} (H:zdK p0 p1 p2=some r):CtrO Tryz.prog 66 [.buf 700 p0.length,.int .i64 p1,.buf 701 1] [(700,bufL 37 6 zai p0),(701,bufL 37 6 zai [p2])] (.buf 900 r.length) [(701,bufL 37 6 zai [p2]),(700,.dead),(900,bufL 37 6 zai r)]:=by
 unfold zdK at H
 obtain ⟨h1,H⟩:=zaa H
 obtain ⟨h2,H⟩:=zaa H
 cases H
 exact znS (Go.Av.enters_of Tryz.func66 (by kernel_rfl) (c:=_) rfl) zlA zlB (by kernel_rfl) (by kernel_rfl) (env.ty 37 _ rfl) rfl (by decide) zai p0 p1 p2 h1 h2
theorem zjJ (fuel:Nat) (p0:Wear) (p1:Look) {r:(Wear×Int)} (H:zfD fuel p0 p1=some r):Ctr Tryz.prog 14 [.agg (zaj p0),.agg [.int .i64 (p1.Source),.int .i64 (p1.Lamp),.int .i64 (p1.Night),.bool (p1.Bad),.int .i64 (p1.Known),.int .i64 (p1.Until)]] (.tup [.agg (zaj r.1),.int .i64 (r.2)]):=by
 unfold zfD at H
 refine Ctr.zak (N:=56) Tryz.func14 (by kernel_rfl) (c:=_) rfl Tryz.ntmps14 rfl (fun w0 h0 hval=>?_)
 refine W.rg env [2,3,4] [2,3,4] ?_
 refine W.seq (W.seq ?_)
 obtain ⟨y1,hy2,H⟩:=zab H
 refine W.region env [] [⟨.int .i64 (y1),[],0,[]⟩] rfl rfl rfl .nil (.free (zee p0 hy2) .nil) (At.kp [2,3,4,6] [2,3,4] ?_)
 refine At.zac (W.rg env [2,3,4,6,13] [2,3,4] ?_)
 refine W.cond rfl (fun hb3=>?_) (fun hb3=>?_)
 · have H:=zaf H hb3
   refine W.rg env [4,5] [4] ?_
   refine W.ret (At.rthen ?_)
   cases H
   exact At.ret env.ty rfl rfl nofun (Sim.tupL (.cons (Sim.aggL (.cons (Sim.nil _ _) (.cons (Sim.nil _ _) (.cons (Sim.nil _ _) (.cons (Sim.nil _ _) .nil))))) (.cons (.refl _) .nil))) hval
 · have H:=zad H hb3
   refine W.skip (At.zac (W.seq ?_))
   obtain ⟨y4,hy5,H⟩:=zab H
   refine W.region env [] [⟨.tup [.int .i64 (y4.1),.bool (y4.2)],[],0,[]⟩] rfl rfl rfl .nil (.free (zeo fuel p0.Looks p1 (fun x0 x1=>some (zc5 x0 x1)) 61 [] [] (fun x0 x1 r h=>by cases h;exact zil x0 x1) hy5) .nil) (At.kp [2,3,4,7,8] [2,3,4] ?_)
   refine At.zac (W.seq (W.block (W.sr env [] [⟨.int .i64 ((zaU p1)),[],0,[]⟩] [2,3,4,7,23] [2,3,4] rfl rfl rfl (.cons (fun h=>by rw [h];rfl) .nil) (.free (ze4 p1) .nil) ?_)))
   refine W.cond rfl (fun hb6=>?_) (fun hb6=>?_)
   · have H:=zaf H hb6
     refine W.rg env [4,5] [4] ?_
     refine W.ret (At.rinb ?_)
     refine At.rthen ?_
     cases H
     exact At.ret env.ty rfl rfl nofun (Sim.tupL (.cons (Sim.aggL (.cons (Sim.nil _ _) (.cons (Sim.nil _ _) (.cons (Sim.nil _ _) (.cons (Sim.nil _ _) .nil))))) (.cons (.refl _) .nil))) hval
   · have H:=zad H hb6
     refine W.rg env [2,3,4,7,31] [2,3,4] ?_
     refine W.cond rfl (fun hb7=>?_) (fun hb7=>?_)
     · have H:=zaf H hb7
       refine W.rg env [4,5] [4] ?_
       refine W.ret (At.rinb ?_)
       refine At.rthen ?_
       cases H
       exact At.ret env.ty rfl rfl nofun (Sim.tupL (.cons (Sim.aggL (.cons (Sim.nil _ _) (.cons (Sim.nil _ _) (.cons (Sim.nil _ _) (.cons (Sim.nil _ _) .nil))))) (.cons (.refl _) .nil))) hval
     · have H:=zad H hb7
       refine W.skip (At.inb (At.zac (W.seq ?_)))
       obtain ⟨y8,hy9,H⟩:=zab H
       obtain ⟨y10,hy11,H⟩:=zab H
       obtain ⟨y12,hy13,H⟩:=zab H
       refine W.region env [] [⟨roL 3 zaK y8,[],0,[]⟩,⟨roL 6 zaE y10,[],0,[]⟩,⟨roL 7 zaV y12,[],0,[]⟩] rfl rfl (by kernel_rfl) .nil (.free (zg1 p0.Batches hy9) (.free (zgq p0.Mantles hy11) (.free (zhp p0.Burns hy13) .nil))) (At.kp [2,3,4,7,9] [2,3,4,9] ?_)
       refine At.zac (W.seq ?_)
       obtain ⟨y14,hy15,H⟩:=zab H
       obtain ⟨y16,hy17,H⟩:=zab H
       refine W.region env [52] [⟨.buf 900 y14.length,[(900,bufL 37 6 zai y14)],50000,[]⟩,⟨.buf 54900 y16.length,[(52,bufL 37 6 zai ([p1]:List Look)),(50900,.dead),(54900,bufL 37 6 zai y16)],0,[50900,52]⟩] rfl rfl (by kernel_rfl) .nil (.free ((Ctr.ofO (zdm p0.Looks hy15))) (.free (CtrO.sim (CtrO.ren (zgp y14 y4.1 p1 hy17) [(700,50900),(701,52),(900,54900)]) (.cons .qc (.cons (.refl _) (.cons .qc .nil))) (.cons (.refl _) (.cons (BSim.seg (Seg.lit (f:=zai) (sz:=6) ([p1]:List Look) rfl rfl (fun _=>rfl))) .nil))) .nil)) (At.kp [4,9] [4,9,54900] ?_)
       refine At.zac (W.rg env [4,5] [4,54900] ?_)
       refine W.ret ?_
       cases H
       exact At.ret env.ty rfl rfl (fun q hq=>by cases hq;exact (by first|rfl|(simp;done)|omega|(simp;omega))) (.refl _) hval
theorem zfK (p0:(List Look)) (p1:Look→Option Bool) (p1_g:Nat) (p1_a p1_b:List AV) (p1_h:∀ x0 r,p1 x0=some r→Ctr Tryz.prog p1_g (p1_a++([.agg [.int .i64 (x0.Source),.int .i64 (x0.Lamp),.int .i64 (x0.Night),.bool (x0.Bad),.int .i64 (x0.Known),.int .i64 (x0.Until)]]++p1_b)) (.bool (r))) {r:Int} (H:zc1 p0 p1=some r):Ctr Tryz.prog 160 [roL 6 zai p0,.clo (.func p1_g) p1_a p1_b] (.int .i64 (r)):=by
 unfold zc1 at H
 refine Ctr.zak (N:=19) Tryz.func160 (by kernel_rfl) (c:=_) rfl Tryz.ntmps160 rfl (fun w0 h0 hval=>?_)
 refine W.rg env [0,1] [] ?_
 refine W.seq (W.rg env [0,1,7,8] [] ?_)
 refine W.block (At.kp [0,1,7,8] [] ?_)
 refine W.len (t:=0) rfl (fun (hn1:p0.length≤maxLen)=>?_)
 refine W.zav H (fun i1 (s1:Unit)=>[(0,roL 6 zai p0),(1,.clo (.func p1_g) p1_a p1_b),(7,.int .i64 (((p0.length:Nat):Int))),(8,.int .i64 ((i1:Int)))]) (fun i1 (s1:Unit)=>[]) (.cons .q (.cons .q (.cons .qi (.cons .qi .nil)))) .nil (fun k1 i1 s1 hle1 H1 H2 K0 hK1=>?_)
 refine W.rg env [0,1,7,8,9] [] ?_
 refine W.seq (W.cond rfl (fun hb2=>?_) (fun hb2=>?_))
 · have hi1:i1<p0.length:=by have:=of_decide_eq_true hb2;omega
   have H:=H1 hi1
   refine W.skip (At.zac (W.seq (W.block (W.rg env [0,1,5,7,8] [] ?_))))
   refine W.seq ?_
   obtain ⟨y3,hy4,H⟩:=zab H
   refine W.region env [] [⟨.bool (y3),[],0,[]⟩] rfl rfl rfl (.cons (⟨by omega,by omega⟩:0≤(i1:Int)∧(i1:Int)<((p0.length:Nat):Int)) .nil) (.free (p1_h (p0.getD i1 default) _ hy4) .nil) (At.kp [0,1,5,7,8,16] [] ?_)
   refine At.zac (W.cond rfl (fun hb5=>?_) (fun hb5=>?_))
   · have H:=zaf H hb5
     refine W.rg env [4] [] ?_
     refine W.ret (At.rinb ?_)
     refine At.rthen ?_
     refine At.rthen ?_
     refine At.rinb ?_
     refine At.rthen ?_
     cases H
     exact At.ret env.ty rfl rfl nofun (.refl _) hval
   · have H:=zad H hb5
     refine W.skip (At.inb (At.zac (W.region env [] [] rfl rfl rfl (.cons (by unfold inI;have:=hn1;(try unfold maxLen at this);omega) .nil) .nil (At.kp [0,1,7,8] [] ?_))))
     refine At.zaG (At.kp [0,1,7,8] [] ?_)
     exact At.conv (.cons .q (.cons .q (.cons .qi (.cons .qi .nil)))) .nil (hK1 hi1 () H)
 · have H:=H2 (by have:=of_decide_eq_false hb2;omega)
   refine W.exit (At.xthen (At.xthen (At.xhere (At.zac (W.rg env [4] [] ?_)))))
   refine W.ret ?_
   cases H
   exact At.ret env.ty rfl rfl nofun (.refl _) hval
theorem zfb (fuel:Nat) (p0:(List Look)) (p1:Look→Option Bool) (p1_g:Nat) (p1_a p1_b:List AV) (p1_h:∀ x0 r,p1 x0=some r→Ctr Tryz.prog p1_g (p1_a++([.agg [.int .i64 (x0.Source),.int .i64 (x0.Lamp),.int .i64 (x0.Night),.bool (x0.Bad),.int .i64 (x0.Known),.int .i64 (x0.Until)]]++p1_b)) (.bool (r))) {r:(List Look)} (H:zcg fuel p0 p1=some r):CtrO Tryz.prog 118 [.buf 700 (p0).length,.clo (.func p1_g) p1_a p1_b] [(700,bufL 37 6 zai p0)] (.buf 900 r.length) [(900,bufL 37 6 zai r)]:=by
 unfold zcg at H
 refine CtrO.zak (N:=42) Tryz.func118 (by kernel_rfl) (c:=_) rfl Tryz.ntmps118 rfl (fun w0 h0 ρb hval hdom=>?_)
 refine W.rg env [0,1] [700] ?_
 refine W.seq ?_
 obtain ⟨y1,hy2,H⟩:=zab H
 refine W.region env [] [⟨.int .i64 (y1),[],0,[]⟩] rfl rfl rfl (.cons (by first|rfl|(simp;done)|omega|(simp;omega)) .nil) (.free (zfK p0 p1 p1_g p1_a p1_b p1_h hy2) .nil) (At.kp [0,1,5] [700] ?_)
 refine At.zac (W.seq (W.rg env [0,1,5,12] [700] ?_))
 refine W.cond rfl (fun hb3=>?_) (fun hb3=>?_)
 · have H:=zaf H hb3
   refine W.rg env [4] [700] ?_
   refine W.ret (At.rthen ?_)
   cases H
   exact At.retK env.ty [700] 200 rfl rfl rfl rfl (.cons (.refl _) .nil) (.of_eq (by refine zhT ?_;first|(simp [zbi];done)|omega|(simp [zbi];omega)|rfl)) hval hdom rfl
 · have H:=zad H hb3
   refine W.skip (At.zac (W.seq ?_))
   obtain ⟨hc4,H⟩:=zaa H
   refine W.sr env [] [] [0,1,5,6] [700] rfl rfl rfl (.cons hc4 .nil) .nil ?_
   refine W.block (At.kp [0,1,5,6] [700] ?_)
   refine W.loopGo H (fun (s5:Int×Int×(List Look))=>[(0,.buf 700 (s5.2.2).length),(1,.clo (.func p1_g) p1_a p1_b),(5,.int .i64 (s5.1)),(6,.int .i64 (s5.2.1))]) (fun (s5:Int×Int×(List Look))=>[(700,bufL 37 6 zai s5.2.2)]) (.cons .qb (.cons .q (.cons .qi (.cons .qi .nil)))) (.cons .q .nil) (fun k5 s5 H K0 hK5=>?_)
   refine W.seq (W.sr env [] [] [0,1,5,6,19] [700] rfl rfl rfl (.cons (by first|rfl|(simp;done)|omega|(simp;omega)) .nil) .nil ?_)
   refine W.cond rfl (fun hb6=>?_) (fun hb6=>?_)
   · have H:=zaf H hb6
     refine W.skip (At.zac (W.seq (W.block ?_)))
     obtain ⟨hc7,H⟩:=zaa H
     refine W.sr env [] [] [0,1,5,6,7] [7,700] rfl rfl rfl (.cons (⟨by first|rfl|(simp;done)|omega|(simp;omega),hc7⟩) (.cons (⟨by first|rfl|(simp;done)|omega|(simp;omega),(by have:=hc7;first|omega|(simp only [List.length_set];omega)|(simp only [Int.toNat_natCast] at *;omega)|(simp at this ⊢;omega))⟩) .nil)) .nil ?_
     refine W.seq ?_
     obtain ⟨y8,hy9,H⟩:=zab H
     refine W.region env [] [⟨.bool (y8),[],0,[]⟩] rfl rfl rfl .nil (.free (p1_h (s5.2.2.getD (s5.2.1).toNat default) _ hy9) .nil) (At.kp [0,1,5,6,7,29] [7,700] ?_)
     refine At.zac (W.cond rfl (fun hb10=>?_) (fun hb10=>?_))
     · have H:=zaf H hb10
       refine W.seq ?_
       obtain ⟨hc11,H⟩:=zaa H
       refine W.region env [] [] rfl rfl rfl (.cons (⟨by first|rfl|(simp;done)|omega|(simp;omega),hc11⟩) (.cons (⟨by first|rfl|(simp;done)|omega|(simp;omega),(by have:=hc11;first|omega|(simp only [List.length_set];omega)|(simp only [Int.toNat_natCast] at *;omega)|(simp at this ⊢;omega))⟩) .nil)) .nil (At.kp [0,1,5,6] [700] ?_)
       refine At.zbG (.cons (y:=bufL 37 6 zai (s5.2.2.set (s5.1).toNat (s5.2.2.getD (s5.2.1).toNat default))) (BSim.seg (Seg.set (Seg.refl zai _) (s5.2.2.getD (s5.2.1).toNat default) rfl)) .nil) ?_
       refine At.zac ?_
       obtain ⟨hc12,H⟩:=zaa H
       refine W.region env [] [] rfl rfl rfl (.cons hc12 .nil) .nil (At.kp [0,1,5,6] [700] ?_)
       refine At.inb (At.zac ?_)
       obtain ⟨hc13,H⟩:=zaa H
       refine W.region env [] [] rfl rfl rfl (.cons hc13 .nil) .nil (At.kp [0,1,5,6] [700] ?_)
       refine At.zaG (At.kp [0,1,5,6] [700] ?_)
       exact At.conv (.cons .qb (.cons .q (.cons .qi (.cons .qi .nil)))) (.cons .q .nil) (hK5 ((s5.1+1),(s5.2.1+1),(s5.2.2.set (s5.1).toNat (s5.2.2.getD (s5.2.1).toNat default))) H)
     · have H:=zad H hb10
       refine W.skip (At.inb (At.zac ?_))
       obtain ⟨hc14,H⟩:=zaa H
       refine W.region env [] [] rfl rfl rfl (.cons hc14 .nil) .nil (At.kp [0,1,5,6] [700] ?_)
       refine At.zaG (At.kp [0,1,5,6] [700] ?_)
       exact At.conv (.cons .qb (.cons .q (.cons .qi (.cons .qi .nil)))) (.cons .q .nil) (hK5 (s5.1,(s5.2.1+1),s5.2.2) H)
   · have H:=zad H hb6
     refine W.exit (At.xthen (At.xthen (At.xhere (At.zac (W.seq ?_)))))
     obtain ⟨hc15,H⟩:=zaa H
     refine W.region env [] [] rfl rfl rfl (.cons (⟨by first|rfl|(simp;done)|omega|(simp;omega),hc15⟩) (.cons (⟨by first|rfl|(simp;done)|omega|(simp;omega),(by have:=hc15;omega),(by have:=hc15;omega)⟩) .nil)) .nil (At.kp [0,5] [700] ?_)
     refine At.zbG (.cons (y:=bufL 37 6 zai (zbi s5.2.2 ((s5.1).toNat) (s5.2.2.length - (s5.1).toNat) (fun _=>(⟨0,0,0,false,0,0⟩:Look)))) (BSim.seg (Seg.cleared (a:=(s5.1).toNat) (b:=s5.2.2.length) (Seg.refl zai _) (⟨0,0,0,false,0,0⟩:Look) rfl (by have:=hc15;omega))) .nil) ?_
     refine At.zac ?_
     obtain ⟨hc16,H⟩:=zaa H
     refine W.sr env [] [] [4] [700] rfl rfl rfl (.cons (⟨by first|rfl|(simp [zfE];done)|(simp [zfE];omega),hc16⟩) .nil) .nil ?_
     refine W.ret ?_
     cases H
     refine At.shrink 4 700 850 (K:=[]) (ts:=[]) rfl rfl (by first|rfl|(simp;done)|omega|(simp;omega)) (by have:=hc16;omega) rfl rfl rfl rfl ?_
     refine At.zbG (.cons (y:=bufL 37 6 zai ((zbi s5.2.2 ((s5.1).toNat) (s5.2.2.length - (s5.1).toNat) (fun _=>(⟨0,0,0,false,0,0⟩:Look))).take ((s5.1).toNat))) (BSim.seg (Seg.first (Seg.refl zai _) (by have:=hc16;omega))) .nil) ?_
     exact At.retK env.ty [850] 50 rfl rfl rfl rfl (.cons (.refl _) .nil) (.of_eq (by refine zhT ?_;first|(simp [zbi];done)|omega|(simp [zbi];omega)|rfl)) hval hdom rfl
theorem zhN (p0:Look) (c0:Int) (c1:Wear) {r:Bool} (H:zcj p0 c0 c1=some r):Ctr Tryz.prog 157 [.agg [.int .i64 (p0.Source),.int .i64 (p0.Lamp),.int .i64 (p0.Night),.bool (p0.Bad),.int .i64 (p0.Known),.int .i64 (p0.Until)],.rp [.int .i64 (c0)],.rp (zaj c1)] (.bool (r)):=by
 unfold zcj at H
 refine Ctr.zak (N:=22) Tryz.func157 (by kernel_rfl) (c:=_) rfl Tryz.ntmps157 rfl (fun w0 h0 hval=>?_)
 refine W.rg env [1,2,3] [3] ?_
 refine W.seq ?_
 obtain ⟨y1,hy2,H⟩:=zab H
 refine W.region env [] [⟨.bool ((zau p0.Known p0.Until c0)),[],0,[]⟩,⟨.int .i64 (y1),[],0,[]⟩] rfl rfl rfl (.cons id (.cons id (.cons id (.cons id (.cons id (.cons id (.cons id (.cons (fun h=>by rw [h];rfl) .nil)))))))) (.free (zdc p0.Known p0.Until c0) (.on (fun hW=>zdb c1 p0.Lamp p0.Night c0 (zaf hy2 hW)) .nil)) (At.kp [4] [] ?_)
 refine At.zac (W.ret ?_)
 cases H
 exact At.ret env.ty rfl rfl nofun (.refl _) hval
theorem zfS (fuel:Nat) (p0:Wear) (p1:Int) {r:(List Look)} (H:zcN fuel p0 p1=some r):Ctr Tryz.prog 108 [.agg (zaj p0),.int .i64 (p1)] (roL 6 zai r):=by
 unfold zcN at H
 refine Ctr.zak (N:=10) Tryz.func108 (by kernel_rfl) (c:=_) rfl Tryz.ntmps108 rfl (fun w0 h0 hval=>?_)
 refine W.rg env [2,3] [2,3] ?_
 refine W.seq (At.zmz 2 (K:=[3]) (ts:=[2,3]) rfl rfl rfl rfl rfl (fun _ h=>h) ?_)
 refine At.zmz 3 (K:=[]) (ts:=[2,3]) rfl rfl rfl rfl rfl (fun _ h=>h) ?_
 obtain ⟨y1,hy2,H⟩:=zab H
 obtain ⟨y3,hy4,H⟩:=zab H
 refine W.region env [] [⟨.buf 900 y1.length,[(900,bufL 37 6 zai y1)],8000,[]⟩,⟨.buf 900 y3.length,[(8900,.dead),(900,bufL 37 6 zai y3)],10000,[]⟩] rfl rfl (by kernel_rfl) .nil (.free ((Ctr.ofO (zdm p0.Looks hy2))) (.free (CtrO.sim (CtrO.at (zfb fuel y1 (fun x0=>zcj x0 p1 p0) 157 [] ([.rp [.int .i64 (p1)],.rp (zaj p0)]) (fun x0 r h=>zhN x0 p1 p0 h) hy4) rfl 8900) (.cons .qc (.cons (Sim.fnClo rfl) .nil)) (.cons (.refl _) .nil)) .nil)) (At.kp [4] [10900] ?_)
 refine At.zac (W.ret ?_)
 cases H
 exact At.ret env.ty rfl rfl (fun q hq=>by cases hq;exact (by first|rfl|(simp;done)|omega|(simp;omega))) (.refl _) hval
theorem zgm (p0:(List Look)) (p1:Int) (p2:Int) {r:(List Look)} (H:zcY p0 p1 p2=some r):CtrO Tryz.prog 158 [.buf 700 (p0).length,.int .i64 (p1),.int .i64 (p2)] [(700,bufL 37 6 zai p0)] (.buf 900 r.length) [(900,bufL 37 6 zai r)]:=by
 unfold zcY at H
 refine CtrO.zak (N:=33) Tryz.func158 (by kernel_rfl) (c:=_) rfl Tryz.ntmps158 rfl (fun w0 h0 ρb hval hdom=>?_)
 refine W.rg env [0,1,2] [700] ?_
 obtain ⟨hc1,H⟩:=zaa H
 refine W.sr env [] [] [0,1,2] [700] rfl rfl rfl (.cons (by first|rfl|(simp;done)|omega|(simp;omega)) (.cons (⟨by first|rfl|(simp;done)|omega|(simp;omega),hc1⟩) .nil)) .nil ?_
 refine W.seq (W.rg env [0,1,2,16] [700] ?_)
 refine W.cond rfl (fun hb2=>?_) (fun hb2=>?_)
 · have H:=zaf H hb2
   refine W.rg env [6] [700] ?_
   refine W.ret (At.rthen ?_)
   cases H
   exact At.retK env.ty [700] 200 rfl rfl rfl rfl (.cons (.refl _) .nil) (.of_eq (by refine zhT ?_;first|(simp [zbi];done)|omega|(simp [zbi];omega)|rfl)) hval hdom rfl
 · have H:=zad H hb2
   refine W.skip (At.zac (W.sr env [] [] [0,1,2,7] [700] rfl rfl rfl (.cons (by first|rfl|(simp;done)|omega|(simp;omega)) .nil) .nil ?_))
   refine W.seq ?_
   obtain ⟨hc3,H⟩:=zaa H
   obtain ⟨hc4,H⟩:=zaa H
   obtain ⟨hc5,H⟩:=zaa H
   refine W.region env [] [] rfl rfl (by first|rfl|kernel_rfl) (.cons (⟨by first|rfl|(simp;done)|omega|(simp;omega),hc3⟩) (.cons (⟨by first|rfl|(simp;done)|omega|(simp;omega),hc4⟩) (.cons (⟨rfl,rfl,by omega,by omega,by omega⟩) .nil))) .nil (At.kp [0,7] [26] ?_)
   refine At.zbG (.cons (y:=zqP 37 6 p0.length zai (p0.take ((p1).toNat)++p0.drop ((p2).toNat))) (BSim.kseg (Seg.moved (f:=zai) (l:=p0) ((p1).toNat) ((p2).toNat) (by omega) (by omega))) .nil) ?_
   refine At.zac (W.seq ?_)
   obtain ⟨hc6,H⟩:=zaa H
   refine W.region env [] [] rfl rfl rfl (.cons (by first|rfl|(simp;done)|omega|(simp;omega)) (.cons (⟨by first|rfl|(simp;done)|omega|(simp;omega),hc6⟩) (.cons (⟨by first|rfl|(simp;done)|omega|(simp;omega),by first|rfl|(simp;done)|omega|(simp;omega),by first|omega|(simp;omega)⟩) .nil))) .nil (At.kp [0] [26] ?_)
   refine At.zbG (.cons (y:=zqP 37 6 p0.length zai (p0.take ((p1).toNat)++p0.drop ((p2).toNat))) (BSim.kseg (Seg.refl zai _)) .nil) ?_
   refine At.zac (W.rg env [6] [26] ?_)
   refine W.ret ?_
   cases H
   exact At.retK env.ty [26] 874 rfl rfl rfl rfl (.cons (.bufk (.refl _)) .nil) (.of_eq (by refine zhT ?_;first|(simp [zbi];done)|omega|(simp [zbi];omega)|rfl)) hval hdom rfl
theorem zhO (p0:(List Look)) (p1:Int) {r:(List Look)} (H:zd1 p0 p1=some r):Ctr Tryz.prog 109 [roL 6 zai p0,.int .i64 (p1)] (roL 6 zai r):=by
 unfold zd1 at H
 refine Ctr.zak (N:=11) Tryz.func109 (by kernel_rfl) (c:=_) rfl Tryz.ntmps109 rfl (fun w0 h0 hval=>?_)
 refine W.rg env [0,1] [] ?_
 refine W.seq ?_
 obtain ⟨y1,hy2,H⟩:=zab H
 obtain ⟨hc3,H⟩:=zaa H
 obtain ⟨y4,hy5,H⟩:=zab H
 refine W.region env [] [⟨.buf 900 y1.length,[(900,bufL 37 6 zai y1)],7000,[]⟩,⟨.buf 900 y4.length,[(7900,.dead),(900,bufL 37 6 zai y4)],11000,[]⟩] rfl rfl (by kernel_rfl) (.cons hc3 .nil) (.free ((Ctr.ofO (zdm p0 hy2))) (.free (CtrO.sim (CtrO.at (zgm y1 p1 (p1+1) hy5) rfl 7900) (.cons .qc (.cons (.refl _) (.cons (.refl _) .nil))) (.cons (.refl _) .nil)) .nil)) (At.kp [4] [11900] ?_)
 refine At.zac (W.ret ?_)
 cases H
 exact At.ret env.ty rfl rfl (fun q hq=>by cases hq;exact (by first|rfl|(simp;done)|omega|(simp;omega))) (.refl _) hval
theorem zg9 (fuel:Nat) (p0:Wear) (p1:Int) {r:((List Int)×Int)} (H:zdH fuel p0 p1=some r):Ctr Tryz.prog 42 [.agg (zaj p0),.int .i64 (p1)] (.tup [roL 1 zae r.1,.int .i64 (r.2)]):=by
 unfold zdH at H
 refine Ctr.zak (N:=58) Tryz.func42 (by kernel_rfl) (c:=_) rfl Tryz.ntmps42 rfl (fun w0 h0 hval=>?_)
 refine W.rg env [1,2] [2] ?_
 refine W.seq (W.seq ?_)
 obtain ⟨y1,hy2,H⟩:=zab H
 refine W.region env [] [⟨.int .i64 (y1),[],0,[]⟩] rfl rfl rfl .nil (.free (Ctr.sim (.cons (.refl _) (.cons (Sim.lit (f:=zae) ([p1]:List Int) rfl rfl (fun _=>rfl)) .nil)) (zc8 p0 ([p1]:List Int) hy2)) .nil) (At.kp [1,2,6] [2] ?_)
 refine At.zac (W.rg env [1,2,6,18] [2] ?_)
 refine W.cond rfl (fun hb3=>?_) (fun hb3=>?_)
 · have H:=zaf H hb3
   refine W.rg env [4,5] [] ?_
   refine W.ret (At.rthen ?_)
   cases H
   exact At.ret env.ty rfl rfl nofun (Sim.tupL (.cons (Sim.nil _ _) (.cons (.refl _) .nil))) hval
 · have H:=zad H hb3
   refine W.skip (At.zac (W.seq ?_))
   obtain ⟨y4,hy5,H⟩:=zab H
   refine W.region env [] [⟨roL 6 zai y4,[],0,[]⟩] rfl rfl rfl .nil (.free (zfS fuel p0 p1 hy5) .nil) (At.kp [1,2,7] [2] ?_)
   refine At.zac (W.seq (W.seq ?_))
   obtain ⟨y6,hy7,H⟩:=zab H
   obtain ⟨y8,hy9,H⟩:=zab H
   refine W.region env [] [⟨.agg (zaC y6),[],0,[]⟩,⟨.bool (y8),[],0,[]⟩] rfl rfl rfl .nil (.free (zct fuel p0 y4 p1 hy7) (.free (zaX y6 hy9) .nil)) (At.kp [1,2,7,27] [2] ?_)
   refine At.zac (W.cond rfl (fun hb10=>?_) (fun hb10=>?_))
   · have H:=zaf H hb10
     refine W.rg env [4,5] [] ?_
     refine W.ret (At.rthen ?_)
     cases H
     exact At.ret env.ty rfl rfl nofun (Sim.tupL (.cons (Sim.nil _ _) (.cons (.refl _) .nil))) hval
   · have H:=zad H hb10
     refine W.skip (At.zac (W.seq ?_))
     obtain ⟨hc11,H⟩:=zaa H
     refine W.sr env [] [] [1,2,7,8] [2] rfl rfl rfl (.cons hc11 .nil) .nil ?_
     refine W.block (At.kp [1,2,7,8] [2] ?_)
     refine W.loopGo H (fun (s12:Int×(List Look))=>[(1,.int .i64 (p1)),(2,.lp 2 0),(7,roL 6 zai s12.2),(8,.int .i64 (s12.1))]) (fun (s12:Int×(List Look))=>[(2,.cells (zaj p0))]) (.cons .qi (.cons .q (.cons .q (.cons .qi .nil)))) (.cons .q .nil) (fun k12 s12 H K0 hK12=>?_)
     refine W.seq (W.rg env [1,2,7,8,32] [2] ?_)
     refine W.cond rfl (fun hb13=>?_) (fun hb13=>?_)
     · have H:=zaf H hb13
       refine W.skip (At.zac (W.seq (W.block (W.seq ?_))))
       obtain ⟨y14,hy15,H⟩:=zab H
       refine W.region env [] [⟨roL 6 zai y14,[],0,[]⟩] rfl rfl rfl .nil (.free (zhO s12.2 s12.1 hy15) .nil) (At.kp [1,2,7,8,9] [2] ?_)
       refine At.zac (W.seq ?_)
       obtain ⟨y16,hy17,H⟩:=zab H
       obtain ⟨y18,hy19,H⟩:=zab H
       refine W.region env [] [⟨.agg (zaC y16),[],0,[]⟩,⟨.bool (y18),[],0,[]⟩] rfl rfl rfl .nil (.free (zct fuel p0 y14 p1 hy17) (.free (zaX y16 hy19) .nil)) (At.kp [1,2,7,8,9,43] [2] ?_)
       refine At.zac (W.cond rfl (fun hb20=>?_) (fun hb20=>?_))
       · have H:=zaf H hb20
         refine W.region env [] [] rfl rfl rfl .nil .nil (At.kp [1,2,7,8] [2] ?_)
         refine At.inb (At.zac ?_)
         obtain ⟨hc21,H⟩:=zaa H
         refine W.region env [] [] rfl rfl rfl (.cons hc21 .nil) .nil (At.kp [1,2,7,8] [2] ?_)
         refine At.zaG (At.kp [1,2,7,8] [2] ?_)
         exact At.conv (.cons .qi (.cons .q (.cons .q (.cons .qi .nil)))) (.cons .q .nil) (hK12 ((s12.1 - 1),y14) H)
       · have H:=zad H hb20
         refine W.skip (At.inb (At.zac ?_))
         obtain ⟨hc22,H⟩:=zaa H
         refine W.region env [] [] rfl rfl rfl (.cons hc22 .nil) .nil (At.kp [1,2,7,8] [2] ?_)
         refine At.zaG (At.kp [1,2,7,8] [2] ?_)
         exact At.conv (.cons .qi (.cons .q (.cons .q (.cons .qi .nil)))) (.cons .q .nil) (hK12 ((s12.1 - 1),s12.2) H)
     · have H:=zad H hb13
       refine W.exit (At.xthen (At.xthen (At.xhere (At.zac (W.rg env [7,10] [] ?_)))))
       refine W.seq (W.rg env [10,45,46,47] [] ?_)
       refine W.block (At.zeY 10 510 3 1 (e:=fun i=>zae (([]:List Int).getD i default)) rfl rfl ?_)
       refine At.kp [10,45,46,47] [510] ?_
       refine W.len (t:=45) rfl (fun (hn23:s12.2.length≤maxLen)=>?_)
       refine W.zav H (fun i23 (s23:(List Int))=>[(10,.buf 510 (s23).length),(45,roL 6 zai s12.2),(46,.int .i64 (((s12.2.length:Nat):Int))),(47,.int .i64 ((i23:Int)))]) (fun i23 (s23:(List Int))=>[(510,bufL 3 1 zae s23)]) (.cons .qb (.cons .q (.cons .qi (.cons .qi .nil)))) (.cons .q .nil) (fun k23 i23 s23 hle23 H1 H2 K0 hK23=>?_)
       refine W.rg env [10,45,46,47,48] [510] ?_
       refine W.seq (W.cond rfl (fun hb24=>?_) (fun hb24=>?_))
       · have hi23:i23<s12.2.length:=by have:=of_decide_eq_true hb24;omega
         have H:=H1 hi23
         refine W.skip (At.zac (W.seq (W.block (W.sr env [] [] [10,12,45,46,47] [12,510] rfl rfl rfl (.cons (⟨by omega,by omega⟩:0≤(i23:Int)∧(i23:Int)<((s12.2.length:Nat):Int)) .nil) .nil ?_))))
         obtain ⟨hc25,H⟩:=zaa H
         refine W.region env [] [] rfl rfl rfl (.cons (⟨by first|rfl|(simp;done)|omega|(simp;omega),by have:=hc25;first|simpa using this|(unfold room at this ⊢;simp at this ⊢;omega)⟩) .nil) .nil (At.kp [10,45,46,47] [510] ?_)
         refine At.zbG (.cons (y:=bufL 3 1 zae (s23++([(s12.2.getD i23 default).Source]:List Int))) (BSim.seg (Seg.push (Seg.refl zae _) (Seg.lit (f:=zae) (sz:=1) ([(s12.2.getD i23 default).Source]:List Int) rfl rfl (fun _=>rfl)))) .nil) ?_
         refine At.inb (At.zac (W.region env [] [] rfl rfl rfl (.cons (by unfold inI;have:=hn23;(try unfold maxLen at this);omega) .nil) .nil (At.kp [10,45,46,47] [510] ?_)))
         refine At.zaG (At.kp [10,45,46,47] [510] ?_)
         exact At.conv (.cons .qb (.cons .q (.cons .qi (.cons .qi .nil)))) (.cons .q .nil) (hK23 hi23 (s23++([(s12.2.getD i23 default).Source]:List Int)) H)
       · have H:=H2 (by have:=of_decide_eq_false hb24;omega)
         refine W.exit (At.xthen (At.xthen (At.xhere (At.zac (W.rg env [4,5] [510] ?_)))))
         refine W.ret ?_
         cases H
         exact At.ret env.ty rfl rfl (fun q hq=>by cases hq;exact (by first|rfl|(simp;done)|omega|(simp;omega))) (.refl _) hval
theorem zdr (fuel:Nat) (p0:(List Int)) (p1:(List Int)) {r:Bool} (H:zbC fuel p0 p1=some r):Ctr Tryz.prog 44 [roL 1 zae p0,roL 1 zae p1] (.bool (r)):=by
 unfold zbC at H
 refine Ctr.zak (N:=31) Tryz.func44 (by kernel_rfl) (c:=_) rfl Tryz.ntmps44 rfl (fun w0 h0 hval=>?_)
 refine W.rg env [0,1] [] ?_
 refine W.rg env [0,1,5] [] ?_
 refine W.seq (W.rg env [0,1,5,6] [] ?_)
 refine W.block (At.kp [0,1,5,6] [] ?_)
 refine W.loopGo H (fun (s1:Bool×Int)=>[(0,roL 1 zae p0),(1,roL 1 zae p1),(5,.bool (s1.1)),(6,.int .i64 (s1.2))]) (fun (s1:Bool×Int)=>[]) (.cons .q (.cons .q (.cons .q (.cons .qi .nil)))) .nil (fun k1 s1 H K0 hK1=>?_)
 refine W.seq (W.sr env [] [] [0,1,5,6,18] [] rfl rfl rfl (.cons id .nil) .nil ?_)
 refine W.cond rfl (fun hb2=>?_) (fun hb2=>?_)
 · have H:=zaf H hb2
   refine W.skip (At.zac (W.seq (W.block ?_)))
   obtain ⟨hc3,H⟩:=zaa H
   obtain ⟨hc4,H⟩:=zaa H
   refine W.region env [] [] rfl rfl (by first|rfl|kernel_rfl) (.cons hc3 (.cons hc4 .nil)) .nil (At.kp [0,1,5,6] [] ?_)
   refine At.inb (At.zac ?_)
   obtain ⟨hc5,H⟩:=zaa H
   refine W.region env [] [] rfl rfl rfl (.cons hc5 .nil) .nil (At.kp [0,1,5,6] [] ?_)
   refine At.zaG (At.kp [0,1,5,6] [] ?_)
   exact At.conv (.cons .q (.cons .q (.cons .q (.cons .qi .nil)))) .nil (hK1 ((decide ((p0.getD (s1.2).toNat default)=(p1.getD (s1.2).toNat default))),(s1.2+1)) H)
 · have H:=zad H hb2
   refine W.exit (At.xthen (At.xthen (At.xhere (At.zac (W.rg env [4] [] ?_)))))
   refine W.ret ?_
   cases H
   exact At.ret env.ty rfl rfl nofun (.refl _) hval
theorem zfY (fuel:Nat) (post:Bool→Option Unit) {r:Unit} (H:zdl fuel post=some r):CtrN Tryz.prog 13 [] (fun (y:Bool)=>.bool (y)) (fun y=>post y=some r):=by
 unfold zdl at H
 refine CtrN.zak (N:=148) Tryz.func13 (by kernel_rfl) (c:=_) rfl Tryz.ntmps13 rfl (fun w0 h0 hval=>?_)
 refine W.rg env [] [] ?_
 refine W.sr env [] [⟨.agg [roL 3 zaK ((zam).Batches),roL 6 zaE ((zam).Mantles),roL 7 zaV ((zam).Burns),roL 6 zai ((zam).Looks)],[],0,[]⟩] [1] [1] rfl rfl rfl .nil (.free (zfR) .nil) ?_
 refine W.seq (W.region env [] [] rfl rfl rfl .nil .nil (At.kp [1,2] [1] ?_))
 refine At.slot (t:=2) (v:=roL 1 zae ([10,11,12]:List Int)) (Sim.lit (f:=zae) ([10,11,12]:List Int) rfl rfl (fun _=>rfl)) ?_
 refine At.zac (W.seq ?_)
 obtain ⟨y1,hy2,H⟩:=zab H
 refine W.region env [] [⟨.tup [.agg [.int .i64 (y1.1.Lo),.int .i64 (y1.1.Hi)],.int .i64 (y1.2)],[],0,[]⟩] rfl rfl rfl .nil (.free (zlV fuel (zam) 10 2 5 hy2) .nil) (At.kp [1,2,3,4] [1,3] ?_)
 refine At.zac (W.seq ?_)
 obtain ⟨y3,hy4,H⟩:=zab H
 refine W.region env [] [⟨.tup [.agg [.int .i64 (y3.1.Lo),.int .i64 (y3.1.Hi)],.int .i64 (y3.2)],[],0,[]⟩] rfl rfl rfl .nil (.free (zhQ fuel (zam) 1 5 hy4) .nil) (At.kp [1,2,3,4,5,6] [1,3,5] ?_)
 refine At.zac (W.seq ?_)
 obtain ⟨y5,hy6,H⟩:=zab H
 refine W.region env [] [⟨.tup [.int .i64 (y5.1),.int .i64 (y5.2)],[],0,[]⟩] rfl rfl rfl .nil (.free (zg8 fuel (zam) 10 2 4 hy6) .nil) (At.kp [1,2,3,4,5,6,7,8] [1,3,5] ?_)
 refine At.zac (W.seq ?_)
 obtain ⟨y7,hy8,H⟩:=zab H
 refine W.region env [] [⟨.tup [.int .i64 (y7.1),.int .i64 (y7.2)],[],0,[]⟩] rfl rfl rfl .nil (.free (zg8 fuel (zam) 10 1 5 hy8) .nil) (At.kp [1,2,3,4,5,6,7,8,9,10] [1,3,5] ?_)
 refine At.zac (W.seq ?_)
 obtain ⟨y9,hy10,H⟩:=zab H
 refine W.region env [] [⟨.tup [.agg [.int .i64 (y9.1.Lo),.int .i64 (y9.1.Hi)],.int .i64 (y9.2)],[],0,[]⟩] rfl rfl rfl .nil (.free (ziA fuel (zam) ([10,11,12]:List Int) 2 4 hy10) .nil) (At.kp [1,2,3,4,5,6,7,8,9,10,11,12] [1,3,5,11] ?_)
 refine At.zac (W.seq ?_)
 obtain ⟨y11,hy12,H⟩:=zab H
 refine W.region env [] [⟨.tup [.agg [.int .i64 (y11.1.Lo),.int .i64 (y11.1.Hi)],.int .i64 (y11.2)],[],0,[]⟩] rfl rfl rfl .nil (.free (ziA fuel (zam) ([10,11,12]:List Int) 2 5 hy12) .nil) (At.kp [1,2,3,4,5,6,7,8,9,10,11,12,13,14] [1,3,5,11,13] ?_)
 refine At.zac (W.seq (W.zok env [] 2 [] [] rfl rfl rfl rfl rfl rfl (fun _=>rfl) rfl .nil .nil (fun _=>.nil) (fun _=>.nil) (fun _=>rfl) (zik fuel (zam) ([10,11,12]:List Int) 2 4 0 false _ H) (fun y13 H=>?_)))
 refine At.kp [1,3,4,5,6,7,8,9,10,11,12,13,14,15,16] [1,3,5,11,13] ?_
 refine At.zac (W.seq ?_)
 obtain ⟨y14,hy15,H⟩:=zab H
 refine W.region env [] [⟨.tup [.agg (zaj y14.1),.int .i64 (y14.2)],[],0,[]⟩] rfl rfl rfl .nil (.free (zjJ fuel (zam) (⟨24,10,3,false,0,0⟩:Look) hy15) .nil) (At.kp [3,4,5,6,7,8,9,10,11,12,13,14,15,16,17,18] [3,5,11,13,17] ?_)
 refine At.zac (W.seq ?_)
 obtain ⟨y16,hy17,H⟩:=zab H
 refine W.region env [] [⟨.tup [roL 1 zae y16.1,.int .i64 (y16.2)],[],0,[]⟩] rfl rfl rfl .nil (.free (zg9 fuel y14.1 5 hy17) .nil) (At.kp [3,4,5,6,7,8,9,10,11,12,13,14,15,16,18,19,20] [3,5,11,13] ?_)
 refine At.zac (W.sr env [] [] [3,5,7,9,11,13,15,19,21] [3,5,11,13] rfl rfl rfl (.cons id (.cons id (.cons id (.cons id (.cons id (.cons id (.cons id (.cons id (.cons id (.cons id (.cons id (.cons id (.cons id (.cons id (.cons id (.cons id .nil)))))))))))))))) .nil ?_)
 refine W.sr env [] [] [7,9,15,19,21,22] [] rfl rfl rfl (.cons id (.cons id (.cons id (.cons id (.cons id (.cons id (.cons id (.cons id (.cons id .nil))))))))) .nil ?_
 refine W.seq ?_
 obtain ⟨y18,hy19,H⟩:=zab H
 obtain ⟨y20,hy21,H⟩:=zab H
 refine W.region env [] [⟨.bool (y18),[],0,[]⟩,⟨.bool (y20),[],0,[]⟩] rfl rfl rfl (.cons id (.cons id (.cons id (.cons id (.cons id (.cons id (.cons id (.cons id (.cons id (.cons id (.cons id .nil))))))))))) (.on (fun hW=>Ctr.sim (.cons (.refl _) (.cons (Sim.lit (f:=zae) ([10]:List Int) rfl rfl (fun _=>rfl)) .nil)) (zdr fuel y13.1 ([10]:List Int) (zaf hy19 hW))) (.on (fun hW=>Ctr.sim (.cons (.refl _) (.cons (Sim.lit (f:=zae) ([22,24]:List Int) rfl rfl (fun _=>rfl)) .nil)) (zdr fuel y16.1 ([22,24]:List Int) (zaf hy21 hW))) .nil)) (At.kp [0] [] ?_)
 exact At.zac (W.ret (At.retN env.ty ((((((((((((((decide (y1.2=0)) && (decide (y3.2=0))) && (decide (y5.2=0))) && (decide (y7.2=0))) && (decide (y9.2=0))) && (decide (y11.2=0))) && (decide (y13.2=0))) && (decide (y14.2=0))) && (decide (y16.2=0))) && (((((decide (y1.1.Lo=1300)) && (decide (y1.1.Hi=1600))) && ((decide (y3.1.Lo=1000)) && (decide (y3.1.Hi=1599)))) && ((decide (y9.1.Lo=0)) && (decide (y9.1.Hi=2)))) && ((decide (y11.1.Lo=1)) && (decide (y11.1.Hi=2))))) && (decide (y5.1=2))) && (decide (y7.1=0))) && y18) && y20) H rfl rfl nofun (.refl _) hval))
theorem zg5 (fuel:Nat) {r:Bool} (H:zdQ fuel=some r):Ctr Tryz.prog 13 [] (.bool r):=by
 obtain ⟨u,H2,hr⟩:=znM H
 subst hr
 exact CtrN.one (zfY fuel _ H2) zor
theorem za8 (p0:Int) (p1:Int) (p2:Int):Ctr Tryz.prog 83 [.int .i64 (p0),.int .i64 (p1),.int .i64 (p2)] (.bool ((zan p0 p1 p2))):=by
 obtain ⟨r,H⟩:∃ r,zan p0 p1 p2=r:=⟨_,rfl⟩
 rw [H]
 unfold zan at H
 refine Ctr.zak (N:=15) Tryz.func83 (by kernel_rfl) (c:=_) rfl Tryz.ntmps83 rfl (fun w0 h0 hval=>?_)
 refine W.rg env [0,1,2] [] ?_
 refine W.sr env [] [] [6] [] rfl rfl rfl (.cons id (.cons id (.cons id .nil))) .nil ?_
 refine W.ret ?_
 cases H
 exact At.ret env.ty rfl rfl nofun (.refl _) hval
theorem zeW (p0:Batch):Ctr Tryz.prog 20 [.agg [.int .i64 (p0.Id),.int .i64 (p0.Life.Lo),.int .i64 (p0.Life.Hi)]] (.int .i64 ((zaA p0))):=by
 obtain ⟨r,H⟩:∃ r,zaA p0=r:=⟨_,rfl⟩
 rw [H]
 unfold zaA at H
 refine Ctr.zak (N:=23) Tryz.func20 (by kernel_rfl) (c:=_) rfl Tryz.ntmps20 rfl (fun w0 h0 hval=>?_)
 refine W.rg env [1] [1] ?_
 refine W.seq (W.sr env [] [⟨.bool ((zan p0.Id 1 99)),[],0,[]⟩,⟨.bool ((zan p0.Life.Lo 0 p0.Life.Hi)),[],0,[]⟩] [22] [] rfl rfl rfl (.cons id (.cons id (.cons id (.cons id (.cons id (.cons id (.cons id (.cons (fun h=>by rw [h];rfl) (.cons id (.cons id (.cons id (.cons (fun h=>by rw [h];rfl) .nil)))))))))))) (.free (za8 p0.Id 1 99) (.on (fun hW=>za8 p0.Life.Lo 0 p0.Life.Hi) .nil)) ?_)
 refine W.cond rfl (fun hb1=>?_) (fun hb1=>?_)
 · have H:=zaf H hb1
   refine W.rg env [2] [] ?_
   refine W.ret (At.rthen ?_)
   cases H
   exact At.ret env.ty rfl rfl nofun (.refl _) hval
 · have H:=zad H hb1
   refine W.skip (At.zac (W.rg env [2] [] ?_))
   refine W.ret ?_
   cases H
   exact At.ret env.ty rfl rfl nofun (.refl _) hval
theorem zb6 (p0:Int):Ctr Tryz.prog 143 [.int .i64 (p0)] (.bool ((zax p0))):=by
 obtain ⟨r,H⟩:∃ r,zax p0=r:=⟨_,rfl⟩
 rw [H]
 unfold zax at H
 refine Ctr.zak (N:=5) Tryz.func143 (by kernel_rfl) (c:=_) rfl Tryz.ntmps143 rfl (fun w0 h0 hval=>?_)
 refine W.rg env [0] [] ?_
 refine W.sr env [] [⟨.bool ((zan p0 0 100000)),[],0,[]⟩] [2] [] rfl rfl rfl .nil (.free (za8 p0 0 100000) .nil) ?_
 refine W.ret ?_
 cases H
 exact At.ret env.ty rfl rfl nofun (.refl _) hval
theorem zcV (p0:(Arr5 Int)) {r:Bool} (H:zbh p0=some r):Ctr Tryz.prog 87 [.agg [.int .i64 (p0.x0),.int .i64 (p0.x1),.int .i64 (p0.x2),.int .i64 (p0.x3),.int .i64 (p0.x4)]] (.bool (r)):=by
 unfold zbh at H
 refine Ctr.zak (N:=34) Tryz.func87 (by kernel_rfl) (c:=_) rfl Tryz.ntmps87 rfl (fun w0 h0 hval=>?_)
 refine W.rg env [1] [1] ?_
 obtain ⟨hc1,H⟩:=zaa H
 refine W.sr env [] [⟨.bool ((zan p0.x0 1 99999)),[],0,[]⟩,⟨.bool ((zan p0.x1 1 999)),[],0,[]⟩,⟨.bool ((zax p0.x2)),[],0,[]⟩,⟨.bool ((zax p0.x3)),[],0,[]⟩,⟨.bool ((zan p0.x4 (p0.x3+1) 100000)),[],0,[]⟩] [2] [] rfl rfl rfl (.cons (by decide) (.cons (fun _=>by decide) (.cons id (.cons id (.cons id (.cons (fun _=>by decide) (.cons id (.cons id (.cons id (.cons (fun _=>by decide) (.cons id (.cons id (.cons id (.cons (fun _=>by decide) (.cons id (.cons id (.cons id (.cons (fun _=>by decide) (.cons id (.cons (fun _=>by decide) (.cons id (.cons hc1 (.cons id (.cons id (.cons id (.cons id (.cons (fun hW h=>by revert hW h;first|(simp +contextual;done)|grind) (.cons id .nil)))))))))))))))))))))))))))) (.free (za8 p0.x0 1 99999) (.on (fun hW=>za8 p0.x1 1 999) (.on (fun hW=>zb6 p0.x2) (.on (fun hW=>zb6 p0.x3) (.on (fun hW=>za8 p0.x4 (p0.x3+1) 100000) .nil))))) ?_
 refine W.ret ?_
 cases H
 exact At.ret env.ty rfl rfl nofun (.refl _) hval
theorem zeR (p0:Mantle) {r:Int} (H:zbj p0=some r):Ctr Tryz.prog 22 [.agg [.int .i64 (p0.Source),.int .i64 (p0.Lamp),.int .i64 (p0.Batch),.int .i64 (p0.Night),.int .i64 (p0.Known),.int .i64 (p0.Until)]] (.int .i64 (r)):=by
 unfold zbj at H
 refine Ctr.zak (N:=22) Tryz.func22 (by kernel_rfl) (c:=_) rfl Tryz.ntmps22 rfl (fun w0 h0 hval=>?_)
 refine W.rg env [1] [1] ?_
 refine W.seq (W.seq ?_)
 obtain ⟨y1,hy2,H⟩:=zab H
 refine W.region env [] [⟨.bool (y1),[],0,[]⟩,⟨.bool ((zan p0.Batch 1 99)),[],0,[]⟩] rfl rfl rfl (.cons id (.cons id (.cons id (.cons (fun h=>by rw [h];rfl) .nil)))) (.free (zcV (⟨p0.Source,p0.Lamp,p0.Night,p0.Known,p0.Until⟩:(Arr5 Int)) hy2) (.on (fun hW=>za8 p0.Batch 1 99) .nil)) (At.kp [21] [] ?_)
 refine At.zac (W.cond rfl (fun hb3=>?_) (fun hb3=>?_))
 · have H:=zaf H hb3
   refine W.rg env [2] [] ?_
   refine W.ret (At.rthen ?_)
   cases H
   exact At.ret env.ty rfl rfl nofun (.refl _) hval
 · have H:=zad H hb3
   refine W.skip (At.zac (W.rg env [2] [] ?_))
   refine W.ret ?_
   cases H
   exact At.ret env.ty rfl rfl nofun (.refl _) hval
theorem zfs (fuel:Nat) (p0:Wear) (p1:Int) {r:Bool} (H:zbL fuel p0 p1=some r):Ctr Tryz.prog 80 [.agg (zaj p0),.int .i64 (p1)] (.bool (r)):=by
 unfold zbL at H
 refine Ctr.zak (N:=21) Tryz.func80 (by kernel_rfl) (c:=_) rfl Tryz.ntmps80 rfl (fun w0 h0 hval=>?_)
 refine W.rg env [1,2] [2] ?_
 refine W.seq (W.rg env [1,2,5] [2] ?_)
 refine W.block (At.kp [1,2,5] [2] ?_)
 refine W.loopGo H (fun (s1:Int)=>[(1,.int .i64 (p1)),(2,.lp 2 0),(5,.int .i64 (s1))]) (fun (s1:Int)=>[(2,.cells (zaj p0))]) (.cons .qi (.cons .q (.cons .qi .nil))) (.cons .q .nil) (fun k1 s1 H K0 hK1=>?_)
 refine W.seq (W.rg env [1,2,5,10] [2] ?_)
 refine W.cond rfl (fun hb2=>?_) (fun hb2=>?_)
 · have H:=zaf H hb2
   refine W.skip (At.zac (W.seq (W.block ?_)))
   obtain ⟨hc3,H⟩:=zaa H
   refine W.sr env [] [] [1,2,5,20] [2] rfl rfl rfl (.cons hc3 .nil) .nil ?_
   refine W.cond rfl (fun hb4=>?_) (fun hb4=>?_)
   · have H:=zaf H hb4
     refine W.rg env [4] [] ?_
     refine W.ret (At.rinb ?_)
     refine At.rthen ?_
     refine At.rthen ?_
     refine At.rinb ?_
     refine At.rthen ?_
     cases H
     exact At.ret env.ty rfl rfl nofun (.refl _) hval
   · have H:=zad H hb4
     refine W.skip (At.inb (At.zac ?_))
     obtain ⟨hc5,H⟩:=zaa H
     refine W.region env [] [] rfl rfl rfl (.cons hc5 .nil) .nil (At.kp [1,2,5] [2] ?_)
     refine At.zaG (At.kp [1,2,5] [2] ?_)
     exact At.conv (.cons .qi (.cons .q (.cons .qi .nil))) (.cons .q .nil) (hK1 (s1+1) H)
 · have H:=zad H hb2
   refine W.exit (At.xthen (At.xthen (At.xhere (At.zac (W.rg env [4] [] ?_)))))
   refine W.ret ?_
   cases H
   exact At.ret env.ty rfl rfl nofun (.refl _) hval
theorem zff (p0:Burn) {r:Int} (H:zbE p0=some r):Ctr Tryz.prog 24 [.agg [.int .i64 (p0.Source),.int .i64 (p0.Lamp),.int .i64 (p0.Night),.int .i64 (p0.Minutes.Lo),.int .i64 (p0.Minutes.Hi),.int .i64 (p0.Known),.int .i64 (p0.Until)]] (.int .i64 (r)):=by
 unfold zbE at H
 refine Ctr.zak (N:=32) Tryz.func24 (by kernel_rfl) (c:=_) rfl Tryz.ntmps24 rfl (fun w0 h0 hval=>?_)
 refine W.rg env [1] [1] ?_
 refine W.seq (W.seq ?_)
 obtain ⟨y1,hy2,H⟩:=zab H
 refine W.region env [] [⟨.bool (y1),[],0,[]⟩,⟨.bool ((zan p0.Minutes.Lo 0 p0.Minutes.Hi)),[],0,[]⟩] rfl rfl rfl (.cons id (.cons id (.cons id (.cons id (.cons id (.cons id (.cons id (.cons (fun h=>by rw [h];rfl) (.cons id (.cons id (.cons id (.cons (fun h=>by rw [h];rfl) .nil)))))))))))) (.free (zcV (⟨p0.Source,p0.Lamp,p0.Night,p0.Known,p0.Until⟩:(Arr5 Int)) hy2) (.on (fun hW=>za8 p0.Minutes.Lo 0 p0.Minutes.Hi) .nil)) (At.kp [31] [] ?_)
 refine At.zac (W.cond rfl (fun hb3=>?_) (fun hb3=>?_))
 · have H:=zaf H hb3
   refine W.rg env [2] [] ?_
   refine W.ret (At.rthen ?_)
   cases H
   exact At.ret env.ty rfl rfl nofun (.refl _) hval
 · have H:=zad H hb3
   refine W.skip (At.zac (W.rg env [2] [] ?_))
   refine W.ret ?_
   cases H
   exact At.ret env.ty rfl rfl nofun (.refl _) hval
theorem zfe (p0:Look) {r:Int} (H:zbD p0=some r):Ctr Tryz.prog 26 [.agg [.int .i64 (p0.Source),.int .i64 (p0.Lamp),.int .i64 (p0.Night),.bool (p0.Bad),.int .i64 (p0.Known),.int .i64 (p0.Until)]] (.int .i64 (r)):=by
 unfold zbD at H
 refine Ctr.zak (N:=16) Tryz.func26 (by kernel_rfl) (c:=_) rfl Tryz.ntmps26 rfl (fun w0 h0 hval=>?_)
 refine W.rg env [1] [1] ?_
 refine W.seq (W.seq ?_)
 obtain ⟨y1,hy2,H⟩:=zab H
 refine W.region env [] [⟨.bool (y1),[],0,[]⟩] rfl rfl rfl .nil (.free (zcV (⟨p0.Source,p0.Lamp,p0.Night,p0.Known,p0.Until⟩:(Arr5 Int)) hy2) .nil) (At.kp [15] [] ?_)
 refine At.zac (W.cond rfl (fun hb3=>?_) (fun hb3=>?_))
 · have H:=zaf H hb3
   refine W.rg env [2] [] ?_
   refine W.ret (At.rthen ?_)
   cases H
   exact At.ret env.ty rfl rfl nofun (.refl _) hval
 · have H:=zad H hb3
   refine W.skip (At.zac (W.rg env [2] [] ?_))
   refine W.ret ?_
   cases H
   exact At.ret env.ty rfl rfl nofun (.refl _) hval
theorem zgB (fuel:Nat) (p0:Wear) {r:Int} (H:zbp fuel p0=some r):Ctr Tryz.prog 18 [.agg (zaj p0)] (.int .i64 (r)):=by
 unfold zbp at H
 refine Ctr.zak (N:=176) Tryz.func18 (by kernel_rfl) (c:=_) rfl Tryz.ntmps18 rfl (fun w0 h0 hval=>?_)
 refine W.rg env [1] [1] ?_
 refine W.seq (W.sr env [] [] [1,28] [1] rfl rfl rfl (.cons id (.cons id (.cons id (.cons (fun h=>by rw [h];rfl) (.cons id (.cons id (.cons id (.cons (fun h=>by rw [h];rfl) (.cons id (.cons id (.cons id (.cons (fun h=>by rw [h];rfl) .nil)))))))))))) .nil ?_)
 refine W.cond rfl (fun hb1=>?_) (fun hb1=>?_)
 · have H:=zaf H hb1
   refine W.rg env [2] [] ?_
   refine W.ret (At.rthen ?_)
   cases H
   exact At.ret env.ty rfl rfl nofun (.refl _) hval
 · have H:=zad H hb1
   refine W.skip (At.zac (W.seq (W.rg env [1,3] [1] ?_)))
   refine W.block (At.kp [1,3] [1] ?_)
   refine W.loopGo H (fun (s2:Int)=>[(1,.lp 1 0),(3,.int .i64 (s2))]) (fun (s2:Int)=>[(1,.cells (zaj p0))]) (.cons .q (.cons .qi .nil)) (.cons .q .nil) (fun k2 s2 H K0 hK2=>?_)
   refine W.seq (W.rg env [1,3,33] [1] ?_)
   refine W.cond rfl (fun hb3=>?_) (fun hb3=>?_)
   · have H:=zaf H hb3
     refine W.skip (At.zac (W.seq (W.block ?_)))
     obtain ⟨hc4,H⟩:=zaa H
     obtain ⟨hc5,H⟩:=zaa H
     obtain ⟨hc6,H⟩:=zaa H
     obtain ⟨hc7,H⟩:=zaa H
     refine W.sr env [] [⟨.int .i64 ((zaA (p0.Batches.getD (s2).toNat default))),[],0,[]⟩] [1,3,62] [1] rfl rfl (by kernel_rfl) (.cons hc4 (.cons id (.cons id (.cons id (.cons hc5 (.cons id (.cons hc6 (.cons id (.cons id (.cons id (.cons id (.cons id (.cons hc7 (.cons id (.cons id (.cons id (.cons id (.cons id (.cons id (.cons id (.cons (fun hW h=>by revert hW h;first|(simp +contextual;done)|grind) (.cons (fun h=>by rw [h];rfl) .nil)))))))))))))))))))))) (.free (zeW (p0.Batches.getD (s2).toNat default)) .nil) ?_
     refine W.cond rfl (fun hb8=>?_) (fun hb8=>?_)
     · have H:=zaf H hb8
       refine W.rg env [2] [] ?_
       refine W.ret (At.rinb ?_)
       refine At.rthen ?_
       refine At.rthen ?_
       refine At.rinb ?_
       refine At.rthen ?_
       cases H
       exact At.ret env.ty rfl rfl nofun (.refl _) hval
     · have H:=zad H hb8
       refine W.skip (At.inb (At.zac ?_))
       obtain ⟨hc9,H⟩:=zaa H
       refine W.region env [] [] rfl rfl rfl (.cons hc9 .nil) .nil (At.kp [1,3] [1] ?_)
       refine At.zaG (At.kp [1,3] [1] ?_)
       exact At.conv (.cons .q (.cons .qi .nil)) (.cons .q .nil) (hK2 (s2+1) H)
   · have H:=zad H hb3
     refine W.exit (At.xthen (At.xthen (At.xhere (At.zac (W.seq (W.rg env [1,4] [1] ?_))))))
     refine W.block (At.kp [1,4] [1] ?_)
     refine W.loopGo H (fun (s10:Int)=>[(1,.lp 1 0),(4,.int .i64 (s10))]) (fun (s10:Int)=>[(1,.cells (zaj p0))]) (.cons .q (.cons .qi .nil)) (.cons .q .nil) (fun k10 s10 H K0 hK10=>?_)
     refine W.seq (W.rg env [1,4,67] [1] ?_)
     refine W.cond rfl (fun hb11=>?_) (fun hb11=>?_)
     · have H:=zaf H hb11
       refine W.skip (At.zac (W.seq (W.block (W.seq ?_))))
       obtain ⟨hc12,H⟩:=zaa H
       obtain ⟨y13,hy14,H⟩:=zab H
       obtain ⟨hc15,H⟩:=zaa H
       obtain ⟨y16,hy17,H⟩:=zab H
       obtain ⟨hc18,H⟩:=zaa H
       obtain ⟨hc19,H⟩:=zaa H
       obtain ⟨hc20,H⟩:=zaa H
       refine W.region env [] [⟨.int .i64 (y13),[],0,[]⟩,⟨.bool (y16),[],0,[]⟩] rfl rfl (by kernel_rfl) (.cons hc12 (.cons id (.cons hc15 (.cons id (.cons id (.cons id (.cons id (.cons id (.cons id (.cons id (.cons (fun h=>by rw [h];rfl) (.cons id (.cons id (.cons id (.cons hc18 (.cons id (.cons hc19 (.cons id (.cons id (.cons id (.cons id (.cons id (.cons hc20 (.cons id (.cons id (.cons id (.cons id (.cons id (.cons id (.cons id (.cons (fun hW h=>by revert hW h;first|(simp +contextual;done)|grind) (.cons (fun h=>by rw [h];rfl) .nil)))))))))))))))))))))))))))))))) (.free (zeR (p0.Mantles.getD (s10).toNat default) hy14) (.on (fun hW=>zfs fuel p0 ((p0.Mantles.getD (s10).toNat default).Batch) (zaf hy17 hW)) .nil)) (At.kp [1,4,107] [1] ?_)
       refine At.zac (W.cond rfl (fun hb21=>?_) (fun hb21=>?_))
       · have H:=zaf H hb21
         refine W.rg env [2] [] ?_
         refine W.ret (At.rinb ?_)
         refine At.rthen ?_
         refine At.rthen ?_
         refine At.rinb ?_
         refine At.rthen ?_
         cases H
         exact At.ret env.ty rfl rfl nofun (.refl _) hval
       · have H:=zad H hb21
         refine W.skip (At.inb (At.zac ?_))
         obtain ⟨hc22,H⟩:=zaa H
         refine W.region env [] [] rfl rfl rfl (.cons hc22 .nil) .nil (At.kp [1,4] [1] ?_)
         refine At.zaG (At.kp [1,4] [1] ?_)
         exact At.conv (.cons .q (.cons .qi .nil)) (.cons .q .nil) (hK10 (s10+1) H)
     · have H:=zad H hb11
       refine W.exit (At.xthen (At.xthen (At.xhere (At.zac (W.seq (W.rg env [1,5] [1] ?_))))))
       refine W.block (At.kp [1,5] [1] ?_)
       refine W.loopGo H (fun (s23:Int)=>[(1,.lp 1 0),(5,.int .i64 (s23))]) (fun (s23:Int)=>[(1,.cells (zaj p0))]) (.cons .q (.cons .qi .nil)) (.cons .q .nil) (fun k23 s23 H K0 hK23=>?_)
       refine W.seq (W.rg env [1,5,112] [1] ?_)
       refine W.cond rfl (fun hb24=>?_) (fun hb24=>?_)
       · have H:=zaf H hb24
         refine W.skip (At.zac (W.seq (W.block (W.seq ?_))))
         obtain ⟨hc25,H⟩:=zaa H
         obtain ⟨y26,hy27,H⟩:=zab H
         obtain ⟨hc28,H⟩:=zaa H
         obtain ⟨hc29,H⟩:=zaa H
         obtain ⟨hc30,H⟩:=zaa H
         refine W.region env [] [⟨.int .i64 (y26),[],0,[]⟩] rfl rfl (by kernel_rfl) (.cons hc25 (.cons id (.cons id (.cons id (.cons hc28 (.cons id (.cons hc29 (.cons id (.cons id (.cons id (.cons id (.cons id (.cons hc30 (.cons id (.cons id (.cons id (.cons id (.cons id (.cons id (.cons id (.cons (fun hW h=>by revert hW h;first|(simp +contextual;done)|grind) (.cons (fun h=>by rw [h];rfl) .nil)))))))))))))))))))))) (.free (zff (p0.Burns.getD (s23).toNat default) hy27) .nil) (At.kp [1,5,141] [1] ?_)
         refine At.zac (W.cond rfl (fun hb31=>?_) (fun hb31=>?_))
         · have H:=zaf H hb31
           refine W.rg env [2] [] ?_
           refine W.ret (At.rinb ?_)
           refine At.rthen ?_
           refine At.rthen ?_
           refine At.rinb ?_
           refine At.rthen ?_
           cases H
           exact At.ret env.ty rfl rfl nofun (.refl _) hval
         · have H:=zad H hb31
           refine W.skip (At.inb (At.zac ?_))
           obtain ⟨hc32,H⟩:=zaa H
           refine W.region env [] [] rfl rfl rfl (.cons hc32 .nil) .nil (At.kp [1,5] [1] ?_)
           refine At.zaG (At.kp [1,5] [1] ?_)
           exact At.conv (.cons .q (.cons .qi .nil)) (.cons .q .nil) (hK23 (s23+1) H)
       · have H:=zad H hb24
         refine W.exit (At.xthen (At.xthen (At.xhere (At.zac (W.seq (W.rg env [1,6] [1] ?_))))))
         refine W.block (At.kp [1,6] [1] ?_)
         refine W.loopGo H (fun (s33:Int)=>[(1,.lp 1 0),(6,.int .i64 (s33))]) (fun (s33:Int)=>[(1,.cells (zaj p0))]) (.cons .q (.cons .qi .nil)) (.cons .q .nil) (fun k33 s33 H K0 hK33=>?_)
         refine W.seq (W.rg env [1,6,146] [1] ?_)
         refine W.cond rfl (fun hb34=>?_) (fun hb34=>?_)
         · have H:=zaf H hb34
           refine W.skip (At.zac (W.seq (W.block (W.seq ?_))))
           obtain ⟨hc35,H⟩:=zaa H
           obtain ⟨y36,hy37,H⟩:=zab H
           obtain ⟨hc38,H⟩:=zaa H
           obtain ⟨hc39,H⟩:=zaa H
           obtain ⟨hc40,H⟩:=zaa H
           refine W.region env [] [⟨.int .i64 (y36),[],0,[]⟩] rfl rfl (by kernel_rfl) (.cons hc35 (.cons id (.cons id (.cons id (.cons hc38 (.cons id (.cons hc39 (.cons id (.cons id (.cons id (.cons id (.cons id (.cons hc40 (.cons id (.cons id (.cons id (.cons id (.cons id (.cons id (.cons id (.cons (fun hW h=>by revert hW h;first|(simp +contextual;done)|grind) (.cons (fun h=>by rw [h];rfl) .nil)))))))))))))))))))))) (.free (zfe (p0.Looks.getD (s33).toNat default) hy37) .nil) (At.kp [1,6,175] [1] ?_)
           refine At.zac (W.cond rfl (fun hb41=>?_) (fun hb41=>?_))
           · have H:=zaf H hb41
             refine W.rg env [2] [] ?_
             refine W.ret (At.rinb ?_)
             refine At.rthen ?_
             refine At.rthen ?_
             refine At.rinb ?_
             refine At.rthen ?_
             cases H
             exact At.ret env.ty rfl rfl nofun (.refl _) hval
           · have H:=zad H hb41
             refine W.skip (At.inb (At.zac ?_))
             obtain ⟨hc42,H⟩:=zaa H
             refine W.region env [] [] rfl rfl rfl (.cons hc42 .nil) .nil (At.kp [1,6] [1] ?_)
             refine At.zaG (At.kp [1,6] [1] ?_)
             exact At.conv (.cons .q (.cons .qi .nil)) (.cons .q .nil) (hK33 (s33+1) H)
         · have H:=zad H hb34
           refine W.exit (At.xthen (At.xthen (At.xhere (At.zac (W.rg env [2] [] ?_)))))
           refine W.ret ?_
           cases H
           exact At.ret env.ty rfl rfl nofun (.refl _) hval
theorem zcu (fuel:Nat) (p0:Wear) (p1:(Arr2 Int)) {r:Int} (H:zaQ fuel p0 p1=some r):Ctr Tryz.prog 105 [.agg (zaj p0),.agg [.int .i64 (p1.x0),.int .i64 (p1.x1)]] (.int .i64 (r)):=by
 unfold zaQ at H
 refine Ctr.zak (N:=18) Tryz.func105 (by kernel_rfl) (c:=_) rfl Tryz.ntmps105 rfl (fun w0 h0 hval=>?_)
 refine W.rg env [2,3] [2,3] ?_
 refine W.seq (W.seq ?_)
 obtain ⟨y1,hy2,H⟩:=zab H
 refine W.region env [] [⟨.int .i64 (y1),[],0,[]⟩] rfl rfl rfl .nil (.free (zgB fuel p0 hy2) .nil) (At.kp [3,7] [3] ?_)
 refine At.zac (W.cond rfl (fun hb3=>?_) (fun hb3=>?_))
 · have H:=zaf H hb3
   refine W.rg env [4] [] ?_
   refine W.ret (At.rthen ?_)
   cases H
   exact At.ret env.ty rfl rfl nofun (.refl _) hval
 · have H:=zad H hb3
   refine W.skip (At.zac (W.seq (W.sr env [] [⟨.bool ((zax p1.x0)),[],0,[]⟩,⟨.bool ((zax p1.x1)),[],0,[]⟩] [17] [] rfl rfl rfl (.cons (by decide) (.cons (fun _=>by decide) (.cons id (.cons id (.cons id (.cons (fun h=>by rw [h];rfl) .nil)))))) (.free (zb6 p1.x0) (.on (fun hW=>zb6 p1.x1) .nil)) ?_)))
   refine W.cond rfl (fun hb4=>?_) (fun hb4=>?_)
   · have H:=zaf H hb4
     refine W.rg env [4] [] ?_
     refine W.ret (At.rthen ?_)
     cases H
     exact At.ret env.ty rfl rfl nofun (.refl _) hval
   · have H:=zad H hb4
     refine W.skip (At.zac (W.rg env [4] [] ?_))
     refine W.ret ?_
     cases H
     exact At.ret env.ty rfl rfl nofun (.refl _) hval
theorem zfP (fuel:Nat) (p0:Wear) (p1:Int) {r:(Batch×Bool)} (H:zbU fuel p0 p1=some r):Ctr Tryz.prog 106 [.agg (zaj p0),.int .i64 (p1)] (.tup [.agg [.int .i64 (r.1.Id),.int .i64 (r.1.Life.Lo),.int .i64 (r.1.Life.Hi)],.bool (r.2)]):=by
 unfold zbU at H
 refine Ctr.zak (N:=28) Tryz.func106 (by kernel_rfl) (c:=_) rfl Tryz.ntmps106 rfl (fun w0 h0 hval=>?_)
 refine W.rg env [1,2,4] [2,4] ?_
 refine W.seq (W.rg env [1,2,4,6] [2,4] ?_)
 refine W.block (At.kp [1,2,4,6] [2,4] ?_)
 refine W.loopGo H (fun (s1:Int)=>[(1,.int .i64 (p1)),(2,.lp 2 0),(4,.lp 4 0),(6,.int .i64 (s1))]) (fun (s1:Int)=>[(2,.cells (zaj p0)),(4,.cells [.int .i64 (0),.int .i64 (0),.int .i64 (0)])]) (.cons .qi (.cons .q (.cons .q (.cons .qi .nil)))) (.cons .q (.cons .q .nil)) (fun k1 s1 H K0 hK1=>?_)
 refine W.seq (W.rg env [1,2,4,6,11] [2,4] ?_)
 refine W.cond rfl (fun hb2=>?_) (fun hb2=>?_)
 · have H:=zaf H hb2
   refine W.skip (At.zac (W.seq (W.block ?_)))
   obtain ⟨hc3,H⟩:=zaa H
   refine W.sr env [] [] [1,2,4,6,21] [2,4] rfl rfl rfl (.cons hc3 .nil) .nil ?_
   refine W.cond rfl (fun hb4=>?_) (fun hb4=>?_)
   · have H:=zaf H hb4
     obtain ⟨hc5,H⟩:=zaa H
     refine W.sr env [] [] [4,5] [4] rfl rfl rfl (.cons hc5 .nil) .nil ?_
     refine W.ret (At.rinb ?_)
     refine At.rthen ?_
     refine At.rthen ?_
     refine At.rinb ?_
     refine At.rthen ?_
     cases H
     exact At.ret env.ty rfl rfl nofun (.refl _) hval
   · have H:=zad H hb4
     refine W.skip (At.inb (At.zac ?_))
     obtain ⟨hc6,H⟩:=zaa H
     refine W.region env [] [] rfl rfl rfl (.cons hc6 .nil) .nil (At.kp [1,2,4,6] [2,4] ?_)
     refine At.zaG (At.kp [1,2,4,6] [2,4] ?_)
     exact At.conv (.cons .qi (.cons .q (.cons .q (.cons .qi .nil)))) (.cons .q (.cons .q .nil)) (hK1 (s1+1) H)
 · have H:=zad H hb2
   refine W.exit (At.xthen (At.xthen (At.xhere (At.zac (W.rg env [4,5] [4] ?_)))))
   refine W.ret ?_
   cases H
   exact At.ret env.ty rfl rfl nofun (.refl _) hval
theorem zbN (p0:Int) (p1:Int) (p2:Int):Ctr Tryz.prog 153 [.int .i64 (p0),.int .i64 (p1),.int .i64 (p2)] (.bool ((zay p0 p1 p2))):=by
 obtain ⟨r,H⟩:∃ r,zay p0 p1 p2=r:=⟨_,rfl⟩
 rw [H]
 unfold zay at H
 refine Ctr.zak (N:=19) Tryz.func153 (by kernel_rfl) (c:=_) rfl Tryz.ntmps153 rfl (fun w0 h0 hval=>?_)
 refine W.rg env [0,1,2] [] ?_
 refine W.sr env [] [] [6] [] rfl rfl rfl (.cons id (.cons id (.cons id (.cons id (.cons id (.cons (fun hW h=>by revert hW h;first|(simp +contextual;done)|grind) (.cons id .nil))))))) .nil ?_
 refine W.ret ?_
 cases H
 exact At.ret env.ty rfl rfl nofun (.refl _) hval
theorem zdS (fuel:Nat) (p0:Wear) (p1:Int) (p2:Int) (p3:Int) {r:(Mantle×Bool)} (H:zbZ fuel p0 p1 p2 p3=some r):Ctr Tryz.prog 94 [.agg (zaj p0),.int .i64 (p1),.int .i64 (p2),.int .i64 (p3)] (.tup [.agg [.int .i64 (r.1.Source),.int .i64 (r.1.Lamp),.int .i64 (r.1.Batch),.int .i64 (r.1.Night),.int .i64 (r.1.Known),.int .i64 (r.1.Until)],.bool (r.2)]):=by
 unfold zbZ at H
 refine Ctr.zak (N:=58) Tryz.func94 (by kernel_rfl) (c:=_) rfl Tryz.ntmps94 rfl (fun w0 h0 hval=>?_)
 refine W.rg env [1,2,3,4,8] [4,8] ?_
 refine W.rg env [1,2,3,4,8,10] [4,8,10] ?_
 refine W.rg env [1,2,3,4,8,10,11] [4,8,10] ?_
 refine W.seq (W.rg env [1,2,3,4,8,10,11,12] [4,8,10] ?_)
 refine W.block (At.kp [1,2,3,4,8,10,11,12] [4,8,10] ?_)
 refine W.loopGo H (fun (s1:Bool×Int×Mantle)=>[(1,.int .i64 (p1)),(2,.int .i64 (p2)),(3,.int .i64 (p3)),(4,.lp 4 0),(8,.lp 8 0),(10,.lp 10 0),(11,.bool (s1.1)),(12,.int .i64 (s1.2.1))]) (fun (s1:Bool×Int×Mantle)=>[(4,.cells (zaj p0)),(8,.cells [.int .i64 (0),.int .i64 (0),.int .i64 (0),.int .i64 (0),.int .i64 (0),.int .i64 (0)]),(10,.cells [.int .i64 (s1.2.2.Source),.int .i64 (s1.2.2.Lamp),.int .i64 (s1.2.2.Batch),.int .i64 (s1.2.2.Night),.int .i64 (s1.2.2.Known),.int .i64 (s1.2.2.Until)])]) (.cons .qi (.cons .qi (.cons .qi (.cons .q (.cons .q (.cons .q (.cons .q (.cons .qi .nil)))))))) (.cons .q (.cons .q (.cons .q .nil))) (fun k1 s1 H K0 hK1=>?_)
 refine W.seq (W.rg env [1,2,3,4,8,10,11,12,18] [4,8,10] ?_)
 refine W.cond rfl (fun hb2=>?_) (fun hb2=>?_)
 · have H:=zaf H hb2
   refine W.skip (At.zac (W.seq (W.block ?_)))
   obtain ⟨hc3,H⟩:=zaa H
   refine W.sr env [] [] [1,2,3,4,8,10,11,12,13] [4,8,10,13] rfl rfl rfl (.cons hc3 .nil) .nil ?_
   refine W.sr env [] [⟨.bool ((zay ((p0.Mantles.getD (s1.2.1).toNat default).Known) ((p0.Mantles.getD (s1.2.1).toNat default).Until) p3)),[],0,[]⟩] [1,2,3,4,8,10,11,12,13,54] [4,8,10,13] rfl rfl rfl (.cons id (.cons id (.cons id (.cons id (.cons id (.cons id (.cons id (.cons id (.cons id (.cons id (.cons id (.cons id (.cons id (.cons id (.cons id (.cons id (.cons id (.cons (fun hW h=>by revert hW h;first|(simp +contextual;done)|grind) (.cons id .nil))))))))))))))))))) (.on (fun hW=>zbN ((p0.Mantles.getD (s1.2.1).toNat default).Known) ((p0.Mantles.getD (s1.2.1).toNat default).Until) p3) .nil) ?_
   refine W.cond rfl (fun hb4=>?_) (fun hb4=>?_)
   · have H:=zaf H hb4
     refine W.rg env [1,2,3,4,8,10,12] [4,8,10] ?_
     refine W.region env [] [] rfl rfl rfl .nil .nil (At.kp [1,2,3,4,8,10,11,12] [4,8,10] ?_)
     refine At.inb (At.zac ?_)
     obtain ⟨hc5,H⟩:=zaa H
     refine W.region env [] [] rfl rfl rfl (.cons hc5 .nil) .nil (At.kp [1,2,3,4,8,10,11,12] [4,8,10] ?_)
     refine At.zaG (At.kp [1,2,3,4,8,10,11,12] [4,8,10] ?_)
     exact At.conv (.cons .qi (.cons .qi (.cons .qi (.cons .q (.cons .q (.cons .q (.cons .q (.cons .qi .nil)))))))) (.cons .q (.cons .q (.cons .q .nil))) (hK1 (true,(s1.2.1+1),(p0.Mantles.getD (s1.2.1).toNat default)) H)
   · have H:=zad H hb4
     refine W.skip (At.inb (At.zac ?_))
     obtain ⟨hc6,H⟩:=zaa H
     refine W.region env [] [] rfl rfl rfl (.cons hc6 .nil) .nil (At.kp [1,2,3,4,8,10,11,12] [4,8,10] ?_)
     refine At.zaG (At.kp [1,2,3,4,8,10,11,12] [4,8,10] ?_)
     exact At.conv (.cons .qi (.cons .qi (.cons .qi (.cons .q (.cons .q (.cons .q (.cons .q (.cons .qi .nil)))))))) (.cons .q (.cons .q (.cons .q .nil))) (hK1 (s1.1,(s1.2.1+1),s1.2.2) H)
 · have H:=zad H hb2
   refine W.exit (At.xthen (At.xthen (At.xhere (At.zac (W.rg env [8,9] [8] ?_)))))
   refine W.ret ?_
   cases H
   exact At.ret env.ty rfl rfl nofun (.refl _) hval
theorem zdd (fuel:Nat) (p0:Wear) (p1:Int) {r:(List Look)} (H:zbo fuel p0 p1=some r):Ctr Tryz.prog 110 [.agg (zaj p0),.int .i64 (p1)] (roL 6 zai r):=by
 unfold zbo at H
 refine Ctr.zak (N:=46) Tryz.func110 (by kernel_rfl) (c:=_) rfl Tryz.ntmps110 rfl (fun w0 h0 hval=>?_)
 refine W.rg env [1,2] [2] ?_
 refine W.rg env [1,2,5] [2] ?_
 refine W.seq (W.rg env [1,2,5,6] [2] ?_)
 refine W.block (At.zeY 5 505 37 6 (e:=fun i=>zai (([]:List Look).getD i default)) rfl rfl ?_)
 refine At.kp [1,2,5,6] [2,505] ?_
 refine W.loopGo H (fun (s1:Int×(List Look))=>[(1,.int .i64 (p1)),(2,.lp 2 0),(5,.buf 505 (s1.2).length),(6,.int .i64 (s1.1))]) (fun (s1:Int×(List Look))=>[(2,.cells (zaj p0)),(505,bufL 37 6 zai s1.2)]) (.cons .qi (.cons .q (.cons .qb (.cons .qi .nil)))) (.cons .q (.cons .q .nil)) (fun k1 s1 H K0 hK1=>?_)
 refine W.seq (W.rg env [1,2,5,6,14] [2,505] ?_)
 refine W.cond rfl (fun hb2=>?_) (fun hb2=>?_)
 · have H:=zaf H hb2
   refine W.skip (At.zac (W.seq (W.block ?_)))
   obtain ⟨hc3,H⟩:=zaa H
   refine W.sr env [] [] [1,2,5,6,7] [2,7,505] rfl rfl rfl (.cons hc3 .nil) .nil ?_
   refine W.seq ?_
   obtain ⟨y4,hy5,H⟩:=zab H
   refine W.region env [] [⟨.tup [.agg [.int .i64 (y4.1.Source),.int .i64 (y4.1.Lamp),.int .i64 (y4.1.Batch),.int .i64 (y4.1.Night),.int .i64 (y4.1.Known),.int .i64 (y4.1.Until)],.bool (y4.2)],[],0,[]⟩] rfl rfl rfl .nil (.free (zdS fuel p0 ((p0.Looks.getD (s1.1).toNat default).Lamp) ((p0.Looks.getD (s1.1).toNat default).Night) p1 hy5) .nil) (At.kp [1,2,5,6,7,9] [2,7,505] ?_)
   refine At.zac (W.sr env [] [⟨.bool ((zay ((p0.Looks.getD (s1.1).toNat default).Known) ((p0.Looks.getD (s1.1).toNat default).Until) p1)),[],0,[]⟩] [1,2,5,6,7,40] [2,7,505] rfl rfl rfl (.cons id (.cons id (.cons id (.cons id (.cons id (.cons id .nil)))))) (.on (fun hW=>zbN ((p0.Looks.getD (s1.1).toNat default).Known) ((p0.Looks.getD (s1.1).toNat default).Until) p1) .nil) ?_)
   refine W.cond rfl (fun hb6=>?_) (fun hb6=>?_)
   · have H:=zaf H hb6
     obtain ⟨hc7,H⟩:=zaa H
     refine W.region env [] [] rfl rfl rfl (.cons (⟨by first|rfl|(simp;done)|omega|(simp;omega),by have:=hc7;first|simpa using this|(unfold room at this ⊢;simp at this ⊢;omega)⟩) .nil) .nil (At.kp [1,2,5,6] [2,505] ?_)
     refine At.zbG (.cons (.refl _) (.cons (y:=bufL 37 6 zai (s1.2++([(p0.Looks.getD (s1.1).toNat default)]:List Look))) (BSim.seg (Seg.push (Seg.refl zai _) (Seg.lit (f:=zai) (sz:=6) ([(p0.Looks.getD (s1.1).toNat default)]:List Look) rfl rfl (fun _=>rfl)))) .nil)) ?_
     refine At.inb (At.zac ?_)
     obtain ⟨hc8,H⟩:=zaa H
     refine W.region env [] [] rfl rfl rfl (.cons hc8 .nil) .nil (At.kp [1,2,5,6] [2,505] ?_)
     refine At.zaG (At.kp [1,2,5,6] [2,505] ?_)
     exact At.conv (.cons .qi (.cons .q (.cons .qb (.cons .qi .nil)))) (.cons .q (.cons .q .nil)) (hK1 ((s1.1+1),(s1.2++([(p0.Looks.getD (s1.1).toNat default)]:List Look))) H)
   · have H:=zad H hb6
     refine W.skip (At.inb (At.zac ?_))
     obtain ⟨hc9,H⟩:=zaa H
     refine W.region env [] [] rfl rfl rfl (.cons hc9 .nil) .nil (At.kp [1,2,5,6] [2,505] ?_)
     refine At.zaG (At.kp [1,2,5,6] [2,505] ?_)
     exact At.conv (.cons .qi (.cons .q (.cons .qb (.cons .qi .nil)))) (.cons .q (.cons .q .nil)) (hK1 ((s1.1+1),s1.2) H)
 · have H:=zad H hb2
   refine W.exit (At.xthen (At.xthen (At.xhere (At.zac (W.rg env [4] [505] ?_)))))
   refine W.ret ?_
   cases H
   exact At.ret env.ty rfl rfl (fun q hq=>by cases hq;exact (by first|rfl|(simp;done)|omega|(simp;omega))) (.refl _) hval
theorem zdq (fuel:Nat) (p0:Wear) (p1:Int) {r:gasolierref06_Told} (H:zbB fuel p0 p1=some r):Ctr Tryz.prog 102 [.agg (zaj p0),.int .i64 (p1)] (.agg [roL 6 zai r.Looks,.int .i64 (r.Known)]):=by
 unfold zbB at H
 refine Ctr.zak (N:=10) Tryz.func102 (by kernel_rfl) (c:=_) rfl Tryz.ntmps102 rfl (fun w0 h0 hval=>?_)
 refine W.rg env [1,2,4] [2,4] ?_
 refine W.seq ?_
 obtain ⟨y1,hy2,H⟩:=zab H
 refine W.region env [] [⟨roL 6 zai y1,[],0,[]⟩] rfl rfl rfl .nil (.free (zdd fuel p0 p1 hy2) .nil) (At.kp [4] [4] ?_)
 refine At.zac (W.ret ?_)
 cases H
 exact At.ret env.ty rfl rfl nofun (.refl _) hval
theorem zg3 (fuel:Nat) (p0:Wear) (p1:Mantle) (p2:gasolierref06_Told) {r:gasolierref06_Seen} (H:zcq fuel p0 p1 p2=some r):Ctr Tryz.prog 155 [.agg (zaj p0),.agg [.int .i64 (p1.Source),.int .i64 (p1.Lamp),.int .i64 (p1.Batch),.int .i64 (p1.Night),.int .i64 (p1.Known),.int .i64 (p1.Until)],.agg [roL 6 zai p2.Looks,.int .i64 (p2.Known)]] (.agg [.int .i64 (r.Good),.int .i64 (r.Bad)]):=by
 unfold zcq at H
 refine Ctr.zak (N:=76) Tryz.func155 (by kernel_rfl) (c:=_) rfl Tryz.ntmps155 rfl (fun w0 h0 hval=>?_)
 refine W.rg env [3,4,5,6] [3,4,5,6] ?_
 refine W.rg env [3,4,5,6,7] [3,4,5,6,7] ?_
 refine W.seq (W.rg env [3,4,5,6,7,8] [3,4,5,6,7] ?_)
 refine W.block (At.kp [3,4,5,6,7,8] [3,4,5,6,7] ?_)
 refine W.loopGo H (fun (s1:Int×gasolierref06_Seen)=>[(3,.lp 3 0),(4,.lp 4 0),(5,.lp 5 0),(6,.lp 6 0),(7,.lp 7 0),(8,.int .i64 (s1.1))]) (fun (s1:Int×gasolierref06_Seen)=>[(3,.cells (zaj p0)),(4,.cells [.int .i64 (p1.Source),.int .i64 (p1.Lamp),.int .i64 (p1.Batch),.int .i64 (p1.Night),.int .i64 (p1.Known),.int .i64 (p1.Until)]),(5,.cells [roL 6 zai p2.Looks,.int .i64 (p2.Known)]),(6,.cells [.int .i64 (0),.int .i64 (0)]),(7,.cells [.int .i64 (s1.2.Good),.int .i64 (s1.2.Bad)])]) (.cons .q (.cons .q (.cons .q (.cons .q (.cons .q (.cons .qi .nil)))))) (.cons .q (.cons .q (.cons .q (.cons .q (.cons .q .nil))))) (fun k1 s1 H K0 hK1=>?_)
 refine W.seq (W.rg env [3,4,5,6,7,8,17] [3,4,5,6,7] ?_)
 refine W.cond rfl (fun hb2=>?_) (fun hb2=>?_)
 · have H:=zaf H hb2
   refine W.skip (At.zac (W.seq (W.ziB H (fun (s3:gasolierref06_Seen)=>[(3,.lp 3 0),(4,.lp 4 0),(5,.lp 5 0),(6,.lp 6 0),(7,.lp 7 0),(8,.int .i64 (s1.1))]) (fun (s3:gasolierref06_Seen)=>[(3,.cells (zaj p0)),(4,.cells [.int .i64 (p1.Source),.int .i64 (p1.Lamp),.int .i64 (p1.Batch),.int .i64 (p1.Night),.int .i64 (p1.Known),.int .i64 (p1.Until)]),(5,.cells [roL 6 zai p2.Looks,.int .i64 (p2.Known)]),(6,.cells [.int .i64 (0),.int .i64 (0)]),(7,.cells [.int .i64 (s3.Good),.int .i64 (s3.Bad)])]) (fun s3 H=>?_) (fun k3 H hK3=>?_))))
   · obtain ⟨hc4,H⟩:=zaa H
     refine W.region env [] [] rfl rfl rfl (.cons hc4 .nil) .nil (At.kp [3,4,5,6,7,8] [3,4,5,6,7] ?_)
     refine At.zaG (At.kp [3,4,5,6,7,8] [3,4,5,6,7] ?_)
     exact At.conv (.cons .q (.cons .q (.cons .q (.cons .q (.cons .q (.cons .qi .nil)))))) (.cons .q (.cons .q (.cons .q (.cons .q (.cons .q .nil))))) (hK1 ((s1.1+1),s3) H)
   · refine W.block ?_
     obtain ⟨hc5,H⟩:=zaa H
     refine W.sr env [] [] [3,4,5,6,7,8,9] [3,4,5,6,7,9] rfl rfl rfl (.cons hc5 .nil) .nil ?_
     refine W.seq ?_
     obtain ⟨y6,hy7,H⟩:=zab H
     refine W.region env [] [⟨.tup [.agg [.int .i64 (y6.1.Source),.int .i64 (y6.1.Lamp),.int .i64 (y6.1.Batch),.int .i64 (y6.1.Night),.int .i64 (y6.1.Known),.int .i64 (y6.1.Until)],.bool (y6.2)],[],0,[]⟩] rfl rfl rfl .nil (.free (zdS fuel p0 ((p2.Looks.getD (s1.1).toNat default).Lamp) ((p2.Looks.getD (s1.1).toNat default).Night) p2.Known hy7) .nil) (At.kp [3,4,5,6,7,8,9,10,11] [3,4,5,6,7,9,10] ?_)
     refine At.zac (W.seq (W.sr env [] [] [3,4,5,6,7,8,9,44] [3,4,5,6,7,9] rfl rfl rfl (.cons id (.cons id (.cons id (.cons id (.cons (fun h=>by rw [h];rfl) .nil))))) .nil ?_))
     refine W.cond rfl (fun hb8=>?_) (fun hb8=>?_)
     · have H:=zaf H hb8
       refine W.exit (At.xthen (At.xhere (At.zaG (At.kp [3,4,5,6,7,8] [3,4,5,6,7] ?_))))
       exact At.conv (.cons .q (.cons .q (.cons .q (.cons .q (.cons .q (.cons .qi .nil)))))) (.cons .q (.cons .q (.cons .q (.cons .q (.cons .q .nil))))) (hK3 s1.2 H)
     · have H:=zad H hb8
       refine W.skip (At.zac (W.seq (W.sr env [] [] [3,4,5,6,7,8,9,54] [3,4,5,6,7,9] rfl rfl rfl (.cons id (.cons id (.cons id (.cons id (.cons id .nil))))) .nil ?_)))
       refine W.ziB H (fun (s9:Int)=>[(3,.lp 3 0),(4,.lp 4 0),(5,.lp 5 0),(6,.lp 6 0),(7,.lp 7 0),(8,.int .i64 (s1.1)),(9,.lp 9 0)]) (fun (s9:Int)=>[(3,.cells (zaj p0)),(4,.cells [.int .i64 (p1.Source),.int .i64 (p1.Lamp),.int .i64 (p1.Batch),.int .i64 (p1.Night),.int .i64 (p1.Known),.int .i64 (p1.Until)]),(5,.cells [roL 6 zai p2.Looks,.int .i64 (p2.Known)]),(6,.cells [.int .i64 (0),.int .i64 (0)]),(7,.cells [.int .i64 (s9),.int .i64 (s1.2.Bad)]),(9,.cells [.int .i64 ((p2.Looks.getD (s1.1).toNat default).Source),.int .i64 ((p2.Looks.getD (s1.1).toNat default).Lamp),.int .i64 ((p2.Looks.getD (s1.1).toNat default).Night),.bool ((p2.Looks.getD (s1.1).toNat default).Bad),.int .i64 ((p2.Looks.getD (s1.1).toNat default).Known),.int .i64 ((p2.Looks.getD (s1.1).toNat default).Until)])]) (fun s9 H=>?_) (fun k9 H hK9=>?_)
       · refine W.sr env [] [] [3,4,5,6,7,8,9,71] [3,4,5,6,7,9] rfl rfl rfl (.cons id (.cons id (.cons id (.cons id (.cons id (.cons id (.cons id (.cons id (.cons (fun hW h=>by revert hW h;first|(simp +contextual;done)|grind) (.cons id .nil)))))))))) .nil ?_
         refine W.cond rfl (fun hb10=>?_) (fun hb10=>?_)
         · have H:=zaf H hb10
           refine W.region env [] [] rfl rfl rfl .nil .nil (At.kp [3,4,5,6,7,8] [3,4,5,6,7] ?_)
           refine At.inb (At.zaG (At.kp [3,4,5,6,7,8] [3,4,5,6,7] ?_))
           exact At.conv (.cons .q (.cons .q (.cons .q (.cons .q (.cons .q (.cons .qi .nil)))))) (.cons .q (.cons .q (.cons .q (.cons .q (.cons .q .nil))))) (hK3 (⟨s9,(p2.Looks.getD (s1.1).toNat default).Night⟩:gasolierref06_Seen) H)
         · have H:=zad H hb10
           refine W.skip (At.inb (At.zaG (At.kp [3,4,5,6,7,8] [3,4,5,6,7] ?_)))
           exact At.conv (.cons .q (.cons .q (.cons .q (.cons .q (.cons .q (.cons .qi .nil)))))) (.cons .q (.cons .q (.cons .q (.cons .q (.cons .q .nil))))) (hK3 (⟨s9,s1.2.Bad⟩:gasolierref06_Seen) H)
       · refine W.cond rfl (fun hb11=>?_) (fun hb11=>?_)
         · have H:=zaf H hb11
           refine W.region env [] [] rfl rfl rfl .nil .nil (At.kp [3,4,5,6,7,8,9] [3,4,5,6,7,9] ?_)
           refine At.zaG (At.kp [3,4,5,6,7,8,9] [3,4,5,6,7,9] ?_)
           exact At.conv (.cons .q (.cons .q (.cons .q (.cons .q (.cons .q (.cons .qi (.cons .q .nil))))))) (.cons .q (.cons .q (.cons .q (.cons .q (.cons .q (.cons .q .nil)))))) (hK9 (p2.Looks.getD (s1.1).toNat default).Night H)
         · have H:=zad H hb11
           refine W.skip (At.zaG (At.kp [3,4,5,6,7,8,9] [3,4,5,6,7,9] ?_))
           exact At.conv (.cons .q (.cons .q (.cons .q (.cons .q (.cons .q (.cons .qi (.cons .q .nil))))))) (.cons .q (.cons .q (.cons .q (.cons .q (.cons .q (.cons .q .nil)))))) (hK9 s1.2.Good H)
 · have H:=zad H hb2
   refine W.exit (At.xthen (At.xthen (At.xhere (At.zac (W.rg env [6] [6] ?_)))))
   refine W.ret ?_
   cases H
   exact At.ret env.ty rfl rfl nofun (.refl _) hval
theorem zfQ (fuel:Nat) (p0:Wear) (p1:Int) {r:(List Bool)} (H:zbV fuel p0 p1=some r):Ctr Tryz.prog 144 [.agg (zaj p0),.int .i64 (p1)] (roL 1 zeC r):=by
 unfold zbV at H
 refine Ctr.zak (N:=86) Tryz.func144 (by kernel_rfl) (c:=_) rfl Tryz.ntmps144 rfl (fun w0 h0 hval=>?_)
 refine W.rg env [1,2] [2] ?_
 refine W.rg env [1,2,5] [2] ?_
 refine W.seq (W.rg env [1,2,5,6] [2] ?_)
 refine W.block (At.zeY 5 505 4 1 (e:=fun i=>zeC (([]:List Bool).getD i default)) rfl rfl ?_)
 refine At.kp [1,2,5,6] [2,505] ?_
 refine W.loopGo H (fun (s1:Int×(List Bool))=>[(1,.int .i64 (p1)),(2,.lp 2 0),(5,.buf 505 (s1.2).length),(6,.int .i64 (s1.1))]) (fun (s1:Int×(List Bool))=>[(2,.cells (zaj p0)),(505,bufL 4 1 zeC s1.2)]) (.cons .qi (.cons .q (.cons .qb (.cons .qi .nil)))) (.cons .q (.cons .q .nil)) (fun k1 s1 H K0 hK1=>?_)
 refine W.seq (W.rg env [1,2,5,6,16] [2,505] ?_)
 refine W.cond rfl (fun hb2=>?_) (fun hb2=>?_)
 · have H:=zaf H hb2
   refine W.skip (At.zac (W.seq (W.block ?_)))
   obtain ⟨hc3,H⟩:=zaa H
   refine W.sr env [] [] [1,2,5,6,7] [2,7,505] rfl rfl rfl (.cons hc3 .nil) .nil ?_
   refine W.seq ?_
   obtain ⟨y4,hy5,H⟩:=zab H
   refine W.region env [] [⟨.tup [.agg [.int .i64 (y4.1.Source),.int .i64 (y4.1.Lamp),.int .i64 (y4.1.Batch),.int .i64 (y4.1.Night),.int .i64 (y4.1.Known),.int .i64 (y4.1.Until)],.bool (y4.2)],[],0,[]⟩] rfl rfl rfl .nil (.free (zdS fuel p0 ((p0.Burns.getD (s1.1).toNat default).Lamp) ((p0.Burns.getD (s1.1).toNat default).Night) p1 hy5) .nil) (At.kp [1,2,5,6,7,9] [2,7,505] ?_)
   refine At.zac (W.sr env [] [⟨.bool ((zay ((p0.Burns.getD (s1.1).toNat default).Known) ((p0.Burns.getD (s1.1).toNat default).Until) p1)),[],0,[]⟩] [1,2,5,6,7,9] [2,7,505] rfl rfl rfl (.cons id (.cons id (.cons id (.cons id (.cons id (.cons id .nil)))))) (.on (fun hW=>zbN ((p0.Burns.getD (s1.1).toNat default).Known) ((p0.Burns.getD (s1.1).toNat default).Until) p1) .nil) ?_)
   refine W.seq ?_
   obtain ⟨hc6,H⟩:=zaa H
   refine W.sr env [] [] [1,2,5,6,7,9,10] [2,7,505] rfl rfl rfl (.cons hc6 .nil) .nil ?_
   refine W.block (At.kp [1,2,5,6,7,9,10] [2,7,505] ?_)
   refine W.loopGo H (fun (s7:Int×Bool)=>[(1,.int .i64 (p1)),(2,.lp 2 0),(5,.buf 505 (s1.2).length),(6,.int .i64 (s1.1)),(7,.lp 7 0),(9,.bool (s7.2)),(10,.int .i64 (s7.1))]) (fun (s7:Int×Bool)=>[(2,.cells (zaj p0)),(7,.cells [.int .i64 ((p0.Burns.getD (s1.1).toNat default).Source),.int .i64 ((p0.Burns.getD (s1.1).toNat default).Lamp),.int .i64 ((p0.Burns.getD (s1.1).toNat default).Night),.int .i64 ((p0.Burns.getD (s1.1).toNat default).Minutes.Lo),.int .i64 ((p0.Burns.getD (s1.1).toNat default).Minutes.Hi),.int .i64 ((p0.Burns.getD (s1.1).toNat default).Known),.int .i64 ((p0.Burns.getD (s1.1).toNat default).Until)]),(505,bufL 4 1 zeC s1.2)]) (.cons .qi (.cons .q (.cons .qb (.cons .qi (.cons .q (.cons .q (.cons .qi .nil))))))) (.cons .q (.cons .q (.cons .q .nil))) (fun k7 s7 H K0 hK7=>?_)
   refine W.seq (W.rg env [1,2,5,6,7,9,10,49] [2,7,505] ?_)
   refine W.cond rfl (fun hb8=>?_) (fun hb8=>?_)
   · have H:=zaf H hb8
     refine W.skip (At.zac (W.seq (W.block ?_)))
     obtain ⟨hc9,H⟩:=zaa H
     refine W.sr env [] [] [1,2,5,6,7,9,10,11] [2,7,11,505] rfl rfl rfl (.cons hc9 .nil) .nil ?_
     refine W.region env [] [⟨.bool ((zay ((p0.Burns.getD (s7.1).toNat default).Known) ((p0.Burns.getD (s7.1).toNat default).Until) p1)),[],0,[]⟩] rfl rfl rfl (.cons id (.cons id (.cons id (.cons id (.cons id (.cons id (.cons id (.cons id (.cons id (.cons id (.cons (fun hW h=>by revert hW h;first|(simp +contextual;done)|grind) (.cons id (.cons id (.cons id (.cons id (.cons id (.cons id (.cons id (.cons id (.cons (fun hW h=>by revert hW h;first|(simp +contextual;done)|grind) (.cons id .nil))))))))))))))))))))) (.on (fun hW=>zbN ((p0.Burns.getD (s7.1).toNat default).Known) ((p0.Burns.getD (s7.1).toNat default).Until) p1) .nil) (At.kp [1,2,5,6,7,9,10] [2,7,505] ?_)
     refine At.inb (At.zac ?_)
     obtain ⟨hc10,H⟩:=zaa H
     refine W.region env [] [] rfl rfl rfl (.cons hc10 .nil) .nil (At.kp [1,2,5,6,7,9,10] [2,7,505] ?_)
     refine At.zaG (At.kp [1,2,5,6,7,9,10] [2,7,505] ?_)
     exact At.conv (.cons .qi (.cons .q (.cons .qb (.cons .qi (.cons .q (.cons .q (.cons .qi .nil))))))) (.cons .q (.cons .q (.cons .q .nil))) (hK7 ((s7.1+1),(s7.2 && (((!decide ((p0.Burns.getD (s7.1).toNat default).Lamp=(p0.Burns.getD (s1.1).toNat default).Lamp)) || (!decide ((p0.Burns.getD (s7.1).toNat default).Night=(p0.Burns.getD (s1.1).toNat default).Night))) || (!(zay ((p0.Burns.getD (s7.1).toNat default).Known) ((p0.Burns.getD (s7.1).toNat default).Until) p1))))) H)
   · have H:=zad H hb8
     refine W.exit (At.xthen (At.xthen (At.xhere (At.zac ?_))))
     obtain ⟨hc11,H⟩:=zaa H
     refine W.region env [] [] rfl rfl rfl (.cons (⟨by first|rfl|(simp;done)|omega|(simp;omega),by have:=hc11;first|simpa using this|(unfold room at this ⊢;simp at this ⊢;omega)⟩) .nil) .nil (At.kp [1,2,5,6] [2,505] ?_)
     refine At.zbG (.cons (.refl _) (.cons (y:=bufL 4 1 zeC (s1.2++([s7.2]:List Bool))) (BSim.seg (Seg.push (Seg.refl zeC _) (Seg.lit (f:=zeC) (sz:=1) ([s7.2]:List Bool) rfl rfl (fun _=>rfl)))) .nil)) ?_
     refine At.inb (At.zac ?_)
     obtain ⟨hc12,H⟩:=zaa H
     refine W.region env [] [] rfl rfl rfl (.cons hc12 .nil) .nil (At.kp [1,2,5,6] [2,505] ?_)
     refine At.zaG (At.kp [1,2,5,6] [2,505] ?_)
     exact At.conv (.cons .qi (.cons .q (.cons .qb (.cons .qi .nil)))) (.cons .q (.cons .q .nil)) (hK1 ((s1.1+1),(s1.2++([s7.2]:List Bool))) H)
 · have H:=zad H hb2
   refine W.exit (At.xthen (At.xthen (At.xhere (At.zac (W.rg env [4] [505] ?_)))))
   refine W.ret ?_
   cases H
   exact At.ret env.ty rfl rfl (fun q hq=>by cases hq;exact (by first|rfl|(simp;done)|omega|(simp;omega))) (.refl _) hval
theorem zeQ (fuel:Nat) (p0:Wear) (p1:Mantle) (p2:(Arr2 Int)) {r:Range} (H:zbd fuel p0 p1 p2=some r):Ctr Tryz.prog 101 [.agg (zaj p0),.agg [.int .i64 (p1.Source),.int .i64 (p1.Lamp),.int .i64 (p1.Batch),.int .i64 (p1.Night),.int .i64 (p1.Known),.int .i64 (p1.Until)],.agg [.int .i64 (p2.x0),.int .i64 (p2.x1)]] (.agg [.int .i64 (r.Lo),.int .i64 (r.Hi)]):=by
 unfold zbd at H
 refine Ctr.zak (N:=61) Tryz.func101 (by kernel_rfl) (c:=_) rfl Tryz.ntmps101 rfl (fun w0 h0 hval=>?_)
 refine W.rg env [3,4,5,6] [3,4,5,6] ?_
 refine W.seq ?_
 obtain ⟨y1,hy2,H⟩:=zab H
 refine W.region env [] [⟨roL 1 zeC y1,[],0,[]⟩] rfl rfl rfl (.cons (by decide) .nil) (.free (zfQ fuel p0 p2.x1 hy2) .nil) (At.kp [3,4,5,6,7] [3,4,5,6] ?_)
 refine At.zac (W.rg env [3,4,5,6,7,8] [3,4,5,6,8] ?_)
 refine W.seq (W.rg env [3,4,5,6,7,8,9] [3,4,5,6,8] ?_)
 refine W.block (At.kp [3,4,5,6,7,8,9] [3,4,5,6,8] ?_)
 refine W.loopGo H (fun (s3:Int×Range)=>[(3,.lp 3 0),(4,.lp 4 0),(5,.lp 5 0),(6,.lp 6 0),(7,roL 1 zeC y1),(8,.lp 8 0),(9,.int .i64 (s3.1))]) (fun (s3:Int×Range)=>[(3,.cells (zaj p0)),(4,.cells [.int .i64 (p1.Source),.int .i64 (p1.Lamp),.int .i64 (p1.Batch),.int .i64 (p1.Night),.int .i64 (p1.Known),.int .i64 (p1.Until)]),(5,.cells [.int .i64 (p2.x0),.int .i64 (p2.x1)]),(6,.cells [.int .i64 (0),.int .i64 (0)]),(8,.cells [.int .i64 (s3.2.Lo),.int .i64 (s3.2.Hi)])]) (.cons .q (.cons .q (.cons .q (.cons .q (.cons .q (.cons .q (.cons .qi .nil))))))) (.cons .q (.cons .q (.cons .q (.cons .q (.cons .q .nil))))) (fun k3 s3 H K0 hK3=>?_)
 refine W.seq (W.rg env [3,4,5,6,7,8,9,19] [3,4,5,6,8] ?_)
 refine W.cond rfl (fun hb4=>?_) (fun hb4=>?_)
 · have H:=zaf H hb4
   refine W.skip (At.zac (W.seq (W.block ?_)))
   obtain ⟨hc5,H⟩:=zaa H
   refine W.sr env [] [] [3,4,5,6,7,8,9,10] [3,4,5,6,8,10] rfl rfl rfl (.cons hc5 .nil) .nil ?_
   obtain ⟨hc6,H⟩:=zaa H
   refine W.sr env [] [⟨.bool ((zan ((p0.Burns.getD (s3.1).toNat default).Night) p1.Night p2.x0)),[],0,[]⟩] [3,4,5,6,7,8,9,10,46] [3,4,5,6,8,10] rfl rfl rfl (.cons hc6 (.cons id (.cons id (.cons id (.cons id (.cons id (.cons id (.cons id (.cons (fun _=>by decide) (.cons id (.cons id (.cons id (.cons id (.cons id .nil)))))))))))))) (.on (fun hW=>za8 ((p0.Burns.getD (s3.1).toNat default).Night) p1.Night p2.x0) .nil) ?_
   refine W.cond rfl (fun hb7=>?_) (fun hb7=>?_)
   · have H:=zaf H hb7
     obtain ⟨hc8,H⟩:=zaa H
     obtain ⟨hc9,H⟩:=zaa H
     refine W.region env [] [] rfl rfl rfl (.cons hc8 (.cons hc9 .nil)) .nil (At.kp [3,4,5,6,7,8,9] [3,4,5,6,8] ?_)
     refine At.inb (At.zac ?_)
     obtain ⟨hc10,H⟩:=zaa H
     refine W.region env [] [] rfl rfl rfl (.cons hc10 .nil) .nil (At.kp [3,4,5,6,7,8,9] [3,4,5,6,8] ?_)
     refine At.zaG (At.kp [3,4,5,6,7,8,9] [3,4,5,6,8] ?_)
     exact At.conv (.cons .q (.cons .q (.cons .q (.cons .q (.cons .q (.cons .q (.cons .qi .nil))))))) (.cons .q (.cons .q (.cons .q (.cons .q (.cons .q .nil))))) (hK3 ((s3.1+1),(⟨(s3.2.Lo+(p0.Burns.getD (s3.1).toNat default).Minutes.Lo),(s3.2.Hi+(p0.Burns.getD (s3.1).toNat default).Minutes.Hi)⟩:Range)) H)
   · have H:=zad H hb7
     refine W.skip (At.inb (At.zac ?_))
     obtain ⟨hc11,H⟩:=zaa H
     refine W.region env [] [] rfl rfl rfl (.cons hc11 .nil) .nil (At.kp [3,4,5,6,7,8,9] [3,4,5,6,8] ?_)
     refine At.zaG (At.kp [3,4,5,6,7,8,9] [3,4,5,6,8] ?_)
     exact At.conv (.cons .q (.cons .q (.cons .q (.cons .q (.cons .q (.cons .q (.cons .qi .nil))))))) (.cons .q (.cons .q (.cons .q (.cons .q (.cons .q .nil))))) (hK3 ((s3.1+1),s3.2) H)
 · have H:=zad H hb4
   refine W.exit (At.xthen (At.xthen (At.xhere (At.zac (W.rg env [6] [6] ?_)))))
   refine W.ret ?_
   cases H
   exact At.ret env.ty rfl rfl nofun (.refl _) hval
theorem zgy (fuel:Nat) (p0:Wear) (p1:Mantle) (p2:gasolierref06_Told) {r:Range} (H:zcb fuel p0 p1 p2=some r):Ctr Tryz.prog 156 [.agg (zaj p0),.agg [.int .i64 (p1.Source),.int .i64 (p1.Lamp),.int .i64 (p1.Batch),.int .i64 (p1.Night),.int .i64 (p1.Known),.int .i64 (p1.Until)],.agg [roL 6 zai p2.Looks,.int .i64 (p2.Known)]] (.agg [.int .i64 (r.Lo),.int .i64 (r.Hi)]):=by
 unfold zcb at H
 refine Ctr.zak (N:=59) Tryz.func156 (by kernel_rfl) (c:=_) rfl Tryz.ntmps156 rfl (fun w0 h0 hval=>?_)
 refine W.rg env [3,4,5,6] [3,4,5,6] ?_
 refine W.seq ?_
 obtain ⟨y1,hy2,H⟩:=zab H
 refine W.region env [] [⟨.agg [.int .i64 (y1.Good),.int .i64 (y1.Bad)],[],0,[]⟩] rfl rfl rfl .nil (.free (zg3 fuel p0 p1 p2 hy2) .nil) (At.kp [3,4,5,6,7] [3,4,5,6,7] ?_)
 refine At.zac (W.rg env [3,4,5,6,7,8] [3,4,5,6,7,8] ?_)
 refine W.rg env [3,4,5,6,7,8,9] [3,4,5,6,7,8,9] ?_
 refine W.seq (W.rg env [3,4,5,6,7,8,9,18] [3,4,5,6,7,8,9] ?_)
 refine W.ziB H (fun (s3:Int×Range)=>[(3,.lp 3 0),(4,.lp 4 0),(5,.lp 5 0),(6,.lp 6 0),(7,.lp 7 0),(8,.lp 8 0),(9,.lp 9 0)]) (fun (s3:Int×Range)=>[(3,.cells (zaj p0)),(4,.cells [.int .i64 (p1.Source),.int .i64 (p1.Lamp),.int .i64 (p1.Batch),.int .i64 (p1.Night),.int .i64 (p1.Known),.int .i64 (p1.Until)]),(5,.cells [roL 6 zai p2.Looks,.int .i64 (p2.Known)]),(6,.cells [.int .i64 (0),.int .i64 (0)]),(7,.cells [.int .i64 (y1.Good),.int .i64 (y1.Bad)]),(8,.cells [.int .i64 (s3.1),.int .i64 (1000000)]),(9,.cells [.int .i64 (s3.2.Lo),.int .i64 (s3.2.Hi)])]) (fun s3 H=>?_) (fun k3 H hK3=>?_)
 · refine W.seq (W.rg env [3,4,5,6,7,8,9,32] [3,4,5,6,7,8,9] ?_)
   refine W.ziB H (fun (s4:Int)=>[(6,.lp 6 0),(8,.lp 8 0)]) (fun (s4:Int)=>[(6,.cells [.int .i64 (0),.int .i64 (0)]),(8,.cells [.int .i64 (s3.1),.int .i64 (s4)])]) (fun s4 H=>?_) (fun k4 H hK4=>?_)
   · refine W.rg env [6] [6] ?_
     refine W.ret ?_
     cases H
     exact At.ret env.ty rfl rfl nofun (.refl _) hval
   · refine W.cond rfl (fun hb5=>?_) (fun hb5=>?_)
     · have H:=zaf H hb5
       refine W.seq ?_
       obtain ⟨y6,hy7,H⟩:=zab H
       refine W.region env [] [⟨.agg [.int .i64 (y6.Lo),.int .i64 (y6.Hi)],[],0,[]⟩] rfl rfl rfl .nil (.free (zeQ fuel p0 p1 (⟨y1.Bad,p2.Known⟩:(Arr2 Int)) hy7) .nil) (At.kp [6,7,8,9,10] [6,7,8,9,10] ?_)
       refine At.zac ?_
       obtain ⟨hc8,H⟩:=zaa H
       refine W.sr env [] [] [6,7,8,9,10] [6,7,8,9,10] rfl rfl rfl (.cons hc8 .nil) .nil ?_
       refine W.sr env [] [] [6,8,56] [6,8] rfl rfl rfl (.cons id (.cons id (.cons id (.cons id (.cons (fun h=>by rw [h];rfl) .nil))))) .nil ?_
       refine W.cond rfl (fun hb9=>?_) (fun hb9=>?_)
       · have H:=zaf H hb9
         refine W.rg env [6] [6] ?_
         refine W.ret (At.rthen ?_)
         cases H
         exact At.ret env.ty rfl rfl nofun (.refl _) hval
       · have H:=zad H hb9
         refine W.skip (At.zaG (At.kp [6,8] [6,8] ?_))
         exact At.conv (.cons .q (.cons .q .nil)) (.cons .q (.cons .q .nil)) (hK4 (y6.Hi - 1) H)
     · have H:=zad H hb5
       refine W.skip (At.zaG (At.kp [6,8] [6,8] ?_))
       exact At.conv (.cons .q (.cons .q .nil)) (.cons .q (.cons .q .nil)) (hK4 1000000 H)
 · refine W.cond rfl (fun hb10=>?_) (fun hb10=>?_)
   · have H:=zaf H hb10
     refine W.seq ?_
     obtain ⟨y11,hy12,H⟩:=zab H
     refine W.region env [] [⟨.agg [.int .i64 (y11.Lo),.int .i64 (y11.Hi)],[],0,[]⟩] rfl rfl rfl .nil (.free (zeQ fuel p0 p1 (⟨y1.Good,p2.Known⟩:(Arr2 Int)) hy12) .nil) (At.kp [3,4,5,6,7,8,9] [3,4,5,6,7,8,9] ?_)
     refine At.zac (W.region env [] [] rfl rfl rfl .nil .nil (At.kp [3,4,5,6,7,8,9] [3,4,5,6,7,8,9] ?_))
     refine At.zaG (At.kp [3,4,5,6,7,8,9] [3,4,5,6,7,8,9] ?_)
     exact At.conv (.cons .q (.cons .q (.cons .q (.cons .q (.cons .q (.cons .q (.cons .q .nil))))))) (.cons .q (.cons .q (.cons .q (.cons .q (.cons .q (.cons .q (.cons .q .nil))))))) (hK3 (y11.Lo,y11) H)
   · have H:=zad H hb10
     refine W.skip (At.zaG (At.kp [3,4,5,6,7,8,9] [3,4,5,6,7,8,9] ?_))
     exact At.conv (.cons .q (.cons .q (.cons .q (.cons .q (.cons .q (.cons .q (.cons .q .nil))))))) (.cons .q (.cons .q (.cons .q (.cons .q (.cons .q (.cons .q (.cons .q .nil))))))) (hK3 (0,(⟨0,0⟩:Range)) H)
theorem zey (fuel:Nat) (p0:Wear) (p1:Batch) (p2:gasolierref06_Told) {r:Range} (H:zbY fuel p0 p1 p2=some r):Ctr Tryz.prog 107 [.agg (zaj p0),.agg [.int .i64 (p1.Id),.int .i64 (p1.Life.Lo),.int .i64 (p1.Life.Hi)],.agg [roL 6 zai p2.Looks,.int .i64 (p2.Known)]] (.agg [.int .i64 (r.Lo),.int .i64 (r.Hi)]):=by
 unfold zbY at H
 refine Ctr.zak (N:=61) Tryz.func107 (by kernel_rfl) (c:=_) rfl Tryz.ntmps107 rfl (fun w0 h0 hval=>?_)
 refine W.rg env [3,4,5,6] [3,4,5,6] ?_
 refine W.rg env [3,4,5,6,7] [3,4,5,6,7] ?_
 refine W.seq (W.rg env [3,4,5,6,7,8] [3,4,5,6,7] ?_)
 refine W.block (At.kp [3,4,5,6,7,8] [3,4,5,6,7] ?_)
 refine W.loopGo H (fun (s1:Int×Range)=>[(3,.lp 3 0),(4,.lp 4 0),(5,.lp 5 0),(6,.lp 6 0),(7,.lp 7 0),(8,.int .i64 (s1.1))]) (fun (s1:Int×Range)=>[(3,.cells (zaj p0)),(4,.cells [.int .i64 (p1.Id),.int .i64 (p1.Life.Lo),.int .i64 (p1.Life.Hi)]),(5,.cells [roL 6 zai p2.Looks,.int .i64 (p2.Known)]),(6,.cells [.int .i64 (0),.int .i64 (0)]),(7,.cells [.int .i64 (s1.2.Lo),.int .i64 (s1.2.Hi)])]) (.cons .q (.cons .q (.cons .q (.cons .q (.cons .q (.cons .qi .nil)))))) (.cons .q (.cons .q (.cons .q (.cons .q (.cons .q .nil))))) (fun k1 s1 H K0 hK1=>?_)
 refine W.seq (W.rg env [3,4,5,6,7,8,17] [3,4,5,6,7] ?_)
 refine W.cond rfl (fun hb2=>?_) (fun hb2=>?_)
 · have H:=zaf H hb2
   refine W.skip (At.zac (W.seq (W.block ?_)))
   obtain ⟨hc3,H⟩:=zaa H
   refine W.sr env [] [] [3,4,5,6,7,8,9] [3,4,5,6,7,9] rfl rfl rfl (.cons hc3 .nil) .nil ?_
   refine W.sr env [] [⟨.bool ((zay ((p0.Mantles.getD (s1.1).toNat default).Known) ((p0.Mantles.getD (s1.1).toNat default).Until) p2.Known)),[],0,[]⟩] [3,4,5,6,7,8,9,38] [3,4,5,6,7,9] rfl rfl rfl (.cons id (.cons id (.cons id (.cons id (.cons id (.cons id (.cons id .nil))))))) (.on (fun hW=>zbN ((p0.Mantles.getD (s1.1).toNat default).Known) ((p0.Mantles.getD (s1.1).toNat default).Until) p2.Known) .nil) ?_
   refine W.cond rfl (fun hb4=>?_) (fun hb4=>?_)
   · have H:=zaf H hb4
     refine W.seq ?_
     obtain ⟨y5,hy6,H⟩:=zab H
     refine W.region env [] [⟨.agg [.int .i64 (y5.Lo),.int .i64 (y5.Hi)],[],0,[]⟩] rfl rfl rfl .nil (.free (zgy fuel p0 (p0.Mantles.getD (s1.1).toNat default) p2 hy6) .nil) (At.kp [3,4,5,6,7,8,10] [3,4,5,6,7,10] ?_)
     refine At.zac (W.rg env [3,4,5,6,7,8,10] [3,4,5,6,7,10] ?_)
     refine W.rg env [3,4,5,6,7,8,10,58] [3,4,5,6,7,10] ?_
     refine W.cond rfl (fun hb7=>?_) (fun hb7=>?_)
     · have H:=zaf H hb7
       refine W.rg env [6] [6] ?_
       refine W.ret (At.rinb ?_)
       refine At.rthen ?_
       refine At.rthen ?_
       refine At.rinb ?_
       refine At.rthen ?_
       cases H
       exact At.ret env.ty rfl rfl nofun (.refl _) hval
     · have H:=zad H hb7
       refine W.skip (At.inb (At.zac ?_))
       obtain ⟨hc8,H⟩:=zaa H
       refine W.region env [] [] rfl rfl rfl (.cons hc8 .nil) .nil (At.kp [3,4,5,6,7,8] [3,4,5,6,7] ?_)
       refine At.zaG (At.kp [3,4,5,6,7,8] [3,4,5,6,7] ?_)
       exact At.conv (.cons .q (.cons .q (.cons .q (.cons .q (.cons .q (.cons .qi .nil)))))) (.cons .q (.cons .q (.cons .q (.cons .q (.cons .q .nil))))) (hK1 ((s1.1+1),(⟨(max s1.2.Lo y5.Lo),(min s1.2.Hi y5.Hi)⟩:Range)) H)
   · have H:=zad H hb4
     refine W.skip (At.inb (At.zac ?_))
     obtain ⟨hc9,H⟩:=zaa H
     refine W.region env [] [] rfl rfl rfl (.cons hc9 .nil) .nil (At.kp [3,4,5,6,7,8] [3,4,5,6,7] ?_)
     refine At.zaG (At.kp [3,4,5,6,7,8] [3,4,5,6,7] ?_)
     exact At.conv (.cons .q (.cons .q (.cons .q (.cons .q (.cons .q (.cons .qi .nil)))))) (.cons .q (.cons .q (.cons .q (.cons .q (.cons .q .nil))))) (hK1 ((s1.1+1),s1.2) H)
 · have H:=zad H hb2
   refine W.exit (At.xthen (At.xthen (At.xhere (At.zac (W.rg env [6] [6] ?_)))))
   refine W.ret ?_
   cases H
   exact At.ret env.ty rfl rfl nofun (.refl _) hval
theorem zbs (fuel:Nat) (p0:Wear) (p1:gasolierref06_Told) {r:Bool} (H:za1 fuel p0 p1=some r):Ctr Tryz.prog 103 [.agg (zaj p0),.agg [roL 6 zai p1.Looks,.int .i64 (p1.Known)]] (.bool (r)):=by
 unfold za1 at H
 refine Ctr.zak (N:=27) Tryz.func103 (by kernel_rfl) (c:=_) rfl Tryz.ntmps103 rfl (fun w0 h0 hval=>?_)
 refine W.rg env [2,3] [2,3] ?_
 refine W.seq (W.rg env [2,3,5] [2,3] ?_)
 refine W.block (At.kp [2,3,5] [2,3] ?_)
 refine W.loopGo H (fun (s1:Int)=>[(2,.lp 2 0),(3,.lp 3 0),(5,.int .i64 (s1))]) (fun (s1:Int)=>[(2,.cells (zaj p0)),(3,.cells [roL 6 zai p1.Looks,.int .i64 (p1.Known)])]) (.cons .q (.cons .q (.cons .qi .nil))) (.cons .q (.cons .q .nil)) (fun k1 s1 H K0 hK1=>?_)
 refine W.seq (W.rg env [2,3,5,11] [2,3] ?_)
 refine W.cond rfl (fun hb2=>?_) (fun hb2=>?_)
 · have H:=zaf H hb2
   refine W.skip (At.zac (W.seq (W.block (W.seq ?_))))
   obtain ⟨hc3,H⟩:=zaa H
   obtain ⟨y4,hy5,H⟩:=zab H
   refine W.region env [] [⟨.agg [.int .i64 (y4.Lo),.int .i64 (y4.Hi)],[],0,[]⟩] rfl rfl (by kernel_rfl) (.cons hc3 .nil) (.free (zey fuel p0 (p0.Batches.getD (s1).toNat default) p1 hy5) .nil) (At.kp [2,3,5,6] [2,3,6] ?_)
   refine At.zac (W.rg env [2,3,5,26] [2,3] ?_)
   refine W.cond rfl (fun hb6=>?_) (fun hb6=>?_)
   · have H:=zaf H hb6
     refine W.rg env [4] [] ?_
     refine W.ret (At.rinb ?_)
     refine At.rthen ?_
     refine At.rthen ?_
     refine At.rinb ?_
     refine At.rthen ?_
     cases H
     exact At.ret env.ty rfl rfl nofun (.refl _) hval
   · have H:=zad H hb6
     refine W.skip (At.inb (At.zac ?_))
     obtain ⟨hc7,H⟩:=zaa H
     refine W.region env [] [] rfl rfl rfl (.cons hc7 .nil) .nil (At.kp [2,3,5] [2,3] ?_)
     refine At.zaG (At.kp [2,3,5] [2,3] ?_)
     exact At.conv (.cons .q (.cons .q (.cons .qi .nil))) (.cons .q (.cons .q .nil)) (hK1 (s1+1) H)
 · have H:=zad H hb2
   refine W.exit (At.xthen (At.xthen (At.xhere (At.zac (W.rg env [4] [] ?_)))))
   refine W.ret ?_
   cases H
   exact At.ret env.ty rfl rfl nofun (.refl _) hval
theorem zg4 (fuel:Nat) (p0:Wear) (p1:Int) (p2:Int) {r:(Range×Int)} (H:zcr fuel p0 p1 p2=some r):Ctr Tryz.prog 40 [.agg (zaj p0),.int .i64 (p1),.int .i64 (p2)] (.tup [.agg [.int .i64 (r.1.Lo),.int .i64 (r.1.Hi)],.int .i64 (r.2)]):=by
 unfold zcr at H
 refine Ctr.zak (N:=42) Tryz.func40 (by kernel_rfl) (c:=_) rfl Tryz.ntmps40 rfl (fun w0 h0 hval=>?_)
 refine W.rg env [1,2,3,6] [3,6] ?_
 refine W.seq ?_
 obtain ⟨y1,hy2,H⟩:=zab H
 refine W.region env [] [⟨.int .i64 (y1),[],0,[]⟩] rfl rfl rfl .nil (.free (zcu fuel p0 (⟨p2,p2⟩:(Arr2 Int)) hy2) .nil) (At.kp [1,2,3,6,8] [3,6] ?_)
 refine At.zac (W.seq (W.rg env [1,2,3,6,8,17] [3,6] ?_))
 refine W.cond rfl (fun hb3=>?_) (fun hb3=>?_)
 · have H:=zaf H hb3
   refine W.rg env [6,7] [6] ?_
   refine W.ret (At.rthen ?_)
   cases H
   exact At.ret env.ty rfl rfl nofun (.refl _) hval
 · have H:=zad H hb3
   refine W.skip (At.zac (W.seq ?_))
   obtain ⟨y4,hy5,H⟩:=zab H
   refine W.region env [] [⟨.tup [.agg [.int .i64 (y4.1.Id),.int .i64 (y4.1.Life.Lo),.int .i64 (y4.1.Life.Hi)],.bool (y4.2)],[],0,[]⟩] rfl rfl rfl .nil (.free (zfP fuel p0 p1 hy5) .nil) (At.kp [2,3,6,9,10] [3,6,9] ?_)
   refine At.zac (W.seq (W.rg env [2,3,6,9,27] [3,6,9] ?_))
   refine W.cond rfl (fun hb6=>?_) (fun hb6=>?_)
   · have H:=zaf H hb6
     refine W.rg env [6,7] [6] ?_
     refine W.ret (At.rthen ?_)
     cases H
     exact At.ret env.ty rfl rfl nofun (.refl _) hval
   · have H:=zad H hb6
     refine W.skip (At.zac (W.seq (W.seq ?_)))
     obtain ⟨y7,hy8,H⟩:=zab H
     obtain ⟨y9,hy10,H⟩:=zab H
     refine W.region env [] [⟨.agg [roL 6 zai y7.Looks,.int .i64 (y7.Known)],[],0,[]⟩,⟨.bool (y9),[],0,[]⟩] rfl rfl (by kernel_rfl) .nil (.free (zdq fuel p0 p2 hy8) (.free (zbs fuel p0 y7 hy10) .nil)) (At.kp [2,3,6,9,34] [3,6,9] ?_)
     refine At.zac (W.cond rfl (fun hb11=>?_) (fun hb11=>?_))
     · have H:=zaf H hb11
       refine W.rg env [6,7] [6] ?_
       refine W.ret (At.rthen ?_)
       cases H
       exact At.ret env.ty rfl rfl nofun (.refl _) hval
     · have H:=zad H hb11
       refine W.skip (At.zac (W.seq ?_))
       obtain ⟨y12,hy13,H⟩:=zab H
       obtain ⟨y14,hy15,H⟩:=zab H
       refine W.region env [] [⟨.agg [roL 6 zai y12.Looks,.int .i64 (y12.Known)],[],0,[]⟩,⟨.agg [.int .i64 (y14.Lo),.int .i64 (y14.Hi)],[],0,[]⟩] rfl rfl (by kernel_rfl) .nil (.free (zdq fuel p0 p2 hy13) (.free (zey fuel p0 y4.1 y12 hy15) .nil)) (At.kp [6,7] [6] ?_)
       refine At.zac (W.ret ?_)
       cases H
       exact At.ret env.ty rfl rfl nofun (.refl _) hval
theorem zj0 (fuel:Nat) (p0:Wear) (p1:Int) {r:(Bool×Int)} (H:zel fuel p0 p1=some r):Ctr Tryz.prog 30 [.agg (zaj p0),.int .i64 (p1)] (.tup [.bool (r.1),.int .i64 (r.2)]):=by
 unfold zel at H
 refine Ctr.zak (N:=20) Tryz.func30 (by kernel_rfl) (c:=_) rfl Tryz.ntmps30 rfl (fun w0 h0 hval=>?_)
 refine W.rg env [1,2] [2] ?_
 refine W.seq (W.seq ?_)
 obtain ⟨y1,hy2,H⟩:=zab H
 refine W.region env [] [⟨.int .i64 (y1),[],0,[]⟩] rfl rfl rfl .nil (.free (Ctr.sim (.cons (.refl _) (.cons (Sim.lit (f:=zae) ([p1]:List Int) rfl rfl (fun _=>rfl)) .nil)) (zc8 p0 ([p1]:List Int) hy2)) .nil) (At.kp [1,2,6] [2] ?_)
 refine At.zac (W.rg env [1,2,6,12] [2] ?_)
 refine W.cond rfl (fun hb3=>?_) (fun hb3=>?_)
 · have H:=zaf H hb3
   refine W.rg env [4,5] [] ?_
   refine W.ret (At.rthen ?_)
   cases H
   exact At.ret env.ty rfl rfl nofun (.refl _) hval
 · have H:=zad H hb3
   refine W.skip (At.zac (W.seq ?_))
   obtain ⟨y4,hy5,H⟩:=zab H
   obtain ⟨y6,hy7,H⟩:=zab H
   refine W.region env [] [⟨.agg (zaC y4),[],0,[]⟩,⟨.bool (y6),[],0,[]⟩] rfl rfl rfl .nil (.free (zct fuel p0 p0.Looks p1 hy5) (.free (zaX y4 hy7) .nil)) (At.kp [4,5] [] ?_)
   refine At.zac (W.ret ?_)
   cases H
   exact At.ret env.ty rfl rfl nofun (.refl _) hval
theorem zgz (fuel:Nat) (p0:Wear) (p1:Int) {r:(Bool×Int)} (H:zcc fuel p0 p1=some r):Ctr Tryz.prog 41 [.agg (zaj p0),.int .i64 (p1)] (.tup [.bool (r.1),.int .i64 (r.2)]):=by
 unfold zcc at H
 refine Ctr.zak (N:=20) Tryz.func41 (by kernel_rfl) (c:=_) rfl Tryz.ntmps41 rfl (fun w0 h0 hval=>?_)
 refine W.rg env [1,2] [2] ?_
 refine W.seq ?_
 obtain ⟨y1,hy2,H⟩:=zab H
 refine W.region env [] [⟨.int .i64 (y1),[],0,[]⟩] rfl rfl rfl .nil (.free (zcu fuel p0 (⟨p1,p1⟩:(Arr2 Int)) hy2) .nil) (At.kp [1,2,6] [2] ?_)
 refine At.zac (W.seq (W.rg env [1,2,6,13] [2] ?_))
 refine W.cond rfl (fun hb3=>?_) (fun hb3=>?_)
 · have H:=zaf H hb3
   refine W.rg env [4,5] [] ?_
   refine W.ret (At.rthen ?_)
   cases H
   exact At.ret env.ty rfl rfl nofun (.refl _) hval
 · have H:=zad H hb3
   refine W.skip (At.zac (W.seq ?_))
   obtain ⟨y4,hy5,H⟩:=zab H
   obtain ⟨y6,hy7,H⟩:=zab H
   refine W.region env [] [⟨.agg [roL 6 zai y4.Looks,.int .i64 (y4.Known)],[],0,[]⟩,⟨.bool (y6),[],0,[]⟩] rfl rfl (by kernel_rfl) .nil (.free (zdq fuel p0 p1 hy5) (.free (zbs fuel p0 y4 hy7) .nil)) (At.kp [4,5] [] ?_)
   refine At.zac (W.ret ?_)
   cases H
   exact At.ret env.ty rfl rfl nofun (.refl _) hval
theorem zep (p0:(List Look)) (p1:Int) {r:(List Look)} (H:zbQ p0 p1=some r):Ctr Tryz.prog 111 [roL 6 zai p0,.int .i64 (p1)] (roL 6 zai r):=by
 unfold zbQ at H
 refine Ctr.zak (N:=15) Tryz.func111 (by kernel_rfl) (c:=_) rfl Tryz.ntmps111 rfl (fun w0 h0 hval=>?_)
 refine W.rg env [0,1] [] ?_
 refine W.seq ?_
 obtain ⟨hc1,H⟩:=zaa H
 obtain ⟨hc2,H⟩:=zaa H
 obtain ⟨hc3,H⟩:=zaa H
 obtain ⟨hc4,H⟩:=zaa H
 obtain ⟨hc5,H⟩:=zaa H
 refine W.region env [5] [] rfl rfl (by first|rfl|kernel_rfl) (.cons hc1 (.cons (⟨by first|rfl|(simp;done)|omega|(simp;omega),by have:=hc2;first|simpa using this|(unfold room at this ⊢;simp at this ⊢;omega)⟩) (.cons hc3 (.cons hc4 (.cons (⟨by first|rfl|(simp;done)|omega|(simp;omega),by have:=hc5;first|simpa using this|(unfold room at this ⊢;simp at this ⊢;omega)⟩) .nil))))) .nil (At.kp [4] [5] ?_)
 refine At.zbG (.cons (y:=bufL 37 6 zai ((([]:List Look)++(p0.take (p1).toNat))++(p0.drop ((p1+1)).toNat))) (BSim.seg (Seg.push (Seg.push (Seg.lit (f:=zai) (sz:=6) ([]:List Look) rfl rfl (fun _=>rfl)) (Seg.take zai p0 ((p1).toNat) (by omega))) (Seg.drop zai p0 (((p1+1)).toNat)))) .nil) ?_
 refine At.zac (W.ret ?_)
 cases H
 exact At.ret env.ty rfl rfl (fun q hq=>by cases hq;exact (by first|rfl|(simp;done)|omega|(simp;omega))) (.refl _) hval
theorem zgA (fuel:Nat) (p0:Wear) (p1:Int) {r:((List Int)×Int)} (H:zcd fuel p0 p1=some r):Ctr Tryz.prog 43 [.agg (zaj p0),.int .i64 (p1)] (.tup [roL 1 zae r.1,.int .i64 (r.2)]):=by
 unfold zcd at H
 refine Ctr.zak (N:=60) Tryz.func43 (by kernel_rfl) (c:=_) rfl Tryz.ntmps43 rfl (fun w0 h0 hval=>?_)
 refine W.rg env [1,2] [2] ?_
 refine W.seq ?_
 obtain ⟨y1,hy2,H⟩:=zab H
 refine W.region env [] [⟨.int .i64 (y1),[],0,[]⟩] rfl rfl rfl .nil (.free (zcu fuel p0 (⟨p1,p1⟩:(Arr2 Int)) hy2) .nil) (At.kp [1,2,6] [2] ?_)
 refine At.zac (W.seq (W.rg env [1,2,6,18] [2] ?_))
 refine W.cond rfl (fun hb3=>?_) (fun hb3=>?_)
 · have H:=zaf H hb3
   refine W.rg env [4,5] [] ?_
   refine W.ret (At.rthen ?_)
   cases H
   exact At.ret env.ty rfl rfl nofun (Sim.tupL (.cons (Sim.nil _ _) (.cons (.refl _) .nil))) hval
 · have H:=zad H hb3
   refine W.skip (At.zac (W.seq ?_))
   obtain ⟨y4,hy5,H⟩:=zab H
   refine W.region env [] [⟨roL 6 zai y4,[],0,[]⟩] rfl rfl rfl .nil (.free (zdd fuel p0 p1 hy5) .nil) (At.kp [1,2,7] [2] ?_)
   refine At.zac (W.seq (W.seq ?_))
   obtain ⟨y6,hy7,H⟩:=zab H
   refine W.region env [] [⟨.bool (y6),[],0,[]⟩] rfl rfl rfl .nil (.free (zbs fuel p0 (⟨y4,p1⟩:gasolierref06_Told) hy7) .nil) (At.kp [1,2,7,27] [2] ?_)
   refine At.zac (W.cond rfl (fun hb8=>?_) (fun hb8=>?_))
   · have H:=zaf H hb8
     refine W.rg env [4,5] [] ?_
     refine W.ret (At.rthen ?_)
     cases H
     exact At.ret env.ty rfl rfl nofun (Sim.tupL (.cons (Sim.nil _ _) (.cons (.refl _) .nil))) hval
   · have H:=zad H hb8
     refine W.skip (At.zac (W.seq ?_))
     obtain ⟨hc9,H⟩:=zaa H
     refine W.sr env [] [] [1,2,7,8] [2] rfl rfl rfl (.cons hc9 .nil) .nil ?_
     refine W.block (At.kp [1,2,7,8] [2] ?_)
     refine W.loopGo H (fun (s10:Int×(List Look))=>[(1,.int .i64 (p1)),(2,.lp 2 0),(7,roL 6 zai s10.2),(8,.int .i64 (s10.1))]) (fun (s10:Int×(List Look))=>[(2,.cells (zaj p0))]) (.cons .qi (.cons .q (.cons .q (.cons .qi .nil)))) (.cons .q .nil) (fun k10 s10 H K0 hK10=>?_)
     refine W.seq (W.rg env [1,2,7,8,32] [2] ?_)
     refine W.cond rfl (fun hb11=>?_) (fun hb11=>?_)
     · have H:=zaf H hb11
       refine W.skip (At.zac (W.seq (W.block (W.seq ?_))))
       obtain ⟨y12,hy13,H⟩:=zab H
       refine W.region env [] [⟨roL 6 zai y12,[],0,[]⟩] rfl rfl rfl .nil (.free (zep s10.2 s10.1 hy13) .nil) (At.kp [1,2,7,8,9] [2] ?_)
       refine At.zac (W.seq ?_)
       obtain ⟨y14,hy15,H⟩:=zab H
       refine W.region env [] [⟨.bool (y14),[],0,[]⟩] rfl rfl rfl .nil (.free (zbs fuel p0 (⟨y12,p1⟩:gasolierref06_Told) hy15) .nil) (At.kp [1,2,7,8,9,43] [2] ?_)
       refine At.zac (W.cond rfl (fun hb16=>?_) (fun hb16=>?_))
       · have H:=zaf H hb16
         refine W.region env [] [] rfl rfl rfl .nil .nil (At.kp [1,2,7,8] [2] ?_)
         refine At.inb (At.zac ?_)
         obtain ⟨hc17,H⟩:=zaa H
         refine W.region env [] [] rfl rfl rfl (.cons hc17 .nil) .nil (At.kp [1,2,7,8] [2] ?_)
         refine At.zaG (At.kp [1,2,7,8] [2] ?_)
         exact At.conv (.cons .qi (.cons .q (.cons .q (.cons .qi .nil)))) (.cons .q .nil) (hK10 ((s10.1 - 1),y12) H)
       · have H:=zad H hb16
         refine W.skip (At.inb (At.zac ?_))
         obtain ⟨hc18,H⟩:=zaa H
         refine W.region env [] [] rfl rfl rfl (.cons hc18 .nil) .nil (At.kp [1,2,7,8] [2] ?_)
         refine At.zaG (At.kp [1,2,7,8] [2] ?_)
         exact At.conv (.cons .qi (.cons .q (.cons .q (.cons .qi .nil)))) (.cons .q .nil) (hK10 ((s10.1 - 1),s10.2) H)
     · have H:=zad H hb11
       refine W.exit (At.xthen (At.xthen (At.xhere (At.zac (W.rg env [7,10] [] ?_)))))
       refine W.seq (W.rg env [7,10,11] [] ?_)
       refine W.block (At.zeY 10 510 3 1 (e:=fun i=>zae (([]:List Int).getD i default)) rfl rfl ?_)
       refine At.kp [7,10,11] [510] ?_
       refine W.loopGo H (fun (s19:Int×(List Int))=>[(7,roL 6 zai s10.2),(10,.buf 510 (s19.2).length),(11,.int .i64 (s19.1))]) (fun (s19:Int×(List Int))=>[(510,bufL 3 1 zae s19.2)]) (.cons .q (.cons .qb (.cons .qi .nil))) (.cons .q .nil) (fun k19 s19 H K0 hK19=>?_)
       refine W.seq (W.rg env [7,10,11,48] [510] ?_)
       refine W.cond rfl (fun hb20=>?_) (fun hb20=>?_)
       · have H:=zaf H hb20
         refine W.skip (At.zac (W.seq (W.block ?_)))
         obtain ⟨hc21,H⟩:=zaa H
         obtain ⟨hc22,H⟩:=zaa H
         refine W.region env [] [] rfl rfl rfl (.cons hc21 (.cons (⟨by first|rfl|(simp;done)|omega|(simp;omega),by have:=hc22;first|simpa using this|(unfold room at this ⊢;simp at this ⊢;omega)⟩) .nil)) .nil (At.kp [7,10,11] [510] ?_)
         refine At.zbG (.cons (y:=bufL 3 1 zae (s19.2++([(s10.2.getD (s19.1).toNat default).Source]:List Int))) (BSim.seg (Seg.push (Seg.refl zae _) (Seg.lit (f:=zae) (sz:=1) ([(s10.2.getD (s19.1).toNat default).Source]:List Int) rfl rfl (fun _=>rfl)))) .nil) ?_
         refine At.inb (At.zac ?_)
         obtain ⟨hc23,H⟩:=zaa H
         refine W.region env [] [] rfl rfl rfl (.cons hc23 .nil) .nil (At.kp [7,10,11] [510] ?_)
         refine At.zaG (At.kp [7,10,11] [510] ?_)
         exact At.conv (.cons .q (.cons .qb (.cons .qi .nil))) (.cons .q .nil) (hK19 ((s19.1+1),(s19.2++([(s10.2.getD (s19.1).toNat default).Source]:List Int))) H)
       · have H:=zad H hb20
         refine W.exit (At.xthen (At.xthen (At.xhere (At.zac (W.rg env [4,5] [510] ?_)))))
         refine W.ret ?_
         cases H
         exact At.ret env.ty rfl rfl (fun q hq=>by cases hq;exact (by first|rfl|(simp;done)|omega|(simp;omega))) (.refl _) hval
theorem zet (fuel:Nat) (p0:(List Look)) (p1:Int) (p2:Look→Int→Option Int) (p2_g:Nat) (p2_a p2_b:List AV) (p2_h:∀ x0 x1 r,p2 x0 x1=some r→Ctr Tryz.prog p2_g (p2_a++([.agg [.int .i64 (x0.Source),.int .i64 (x0.Lamp),.int .i64 (x0.Night),.bool (x0.Bad),.int .i64 (x0.Known),.int .i64 (x0.Until)],.int .i64 (x1)]++p2_b)) (.int .i64 (r))) {r:(Int×Bool)} (H:zbw fuel p0 p1 p2=some r):Ctr Tryz.prog 112 [roL 6 zai p0,.int .i64 (p1),.clo (.func p2_g) p2_a p2_b] (.tup [.int .i64 (r.1),.bool (r.2)]):=by
 unfold zbw at H
 refine Ctr.zak (N:=49) Tryz.func112 (by kernel_rfl) (c:=_) rfl Tryz.ntmps112 rfl (fun w0 h0 hval=>?_)
 refine W.rg env [0,1,2] [] ?_
 refine W.rg env [0,1,2,8] [] ?_
 refine W.rg env [0,1,2,8,9,10] [] ?_
 refine W.seq (W.block (At.kp [0,1,2,8,9,10] [] ?_))
 refine W.loopGo H (fun (s1:Int×Int)=>[(0,roL 6 zai p0),(1,.int .i64 (p1)),(2,.clo (.func p2_g) p2_a p2_b),(8,.int .i64 (((p0.length:Nat):Int))),(9,.int .i64 (s1.2)),(10,.int .i64 (s1.1))]) (fun (s1:Int×Int)=>[]) (.cons .q (.cons .qi (.cons .q (.cons .qi (.cons .qi (.cons .qi .nil)))))) .nil (fun k1 s1 H K0 hK1=>?_)
 refine W.seq (W.rg env [0,1,2,8,9,10,17] [] ?_)
 refine W.cond rfl (fun hb2=>?_) (fun hb2=>?_)
 · have H:=zaf H hb2
   refine W.skip (At.zac (W.block ?_))
   obtain ⟨hc3,H⟩:=zaa H
   obtain ⟨hc4,H⟩:=zaa H
   obtain ⟨hc5,H⟩:=zaa H
   refine W.sr env [] [] [0,1,2,8,9,10,11] [] rfl rfl rfl (.cons hc3 (.cons hc4 (.cons (by decide) (.cons hc5 .nil)))) .nil ?_
   refine W.seq ?_
   obtain ⟨hc6,H⟩:=zaa H
   obtain ⟨y7,hy8,H⟩:=zab H
   refine W.region env [] [⟨.int .i64 (y7),[],0,[]⟩] rfl rfl rfl (.cons hc6 .nil) (.free (p2_h (p0.getD ((Int.fdiv (s1.2+s1.1) (2 ^ (1:Int).toNat))).toNat default) p1 _ hy8) .nil) (At.kp [0,1,2,8,9,10,11,31] [] ?_)
   refine At.zac (W.cond rfl (fun hb9=>?_) (fun hb9=>?_))
   · have H:=zaf H hb9
     obtain ⟨hc10,H⟩:=zaa H
     refine W.region env [] [] rfl rfl rfl (.cons hc10 .nil) .nil (At.kp [0,1,2,8,9,10] [] ?_)
     refine At.inb (At.zaG (At.kp [0,1,2,8,9,10] [] ?_))
     exact At.conv (.cons .q (.cons .qi (.cons .q (.cons .qi (.cons .qi (.cons .qi .nil)))))) .nil (hK1 (s1.1,((Int.fdiv (s1.2+s1.1) (2 ^ (1:Int).toNat))+1)) H)
   · have H:=zad H hb9
     refine W.region env [] [] rfl rfl rfl .nil .nil (At.kp [0,1,2,8,9,10] [] ?_)
     refine At.inb (At.zaG (At.kp [0,1,2,8,9,10] [] ?_))
     exact At.conv (.cons .q (.cons .qi (.cons .q (.cons .qi (.cons .qi (.cons .qi .nil)))))) .nil (hK1 ((Int.fdiv (s1.2+s1.1) (2 ^ (1:Int).toNat)),s1.2) H)
 · have H:=zad H hb2
   refine W.exit (At.xthen (At.xthen (At.xhere (At.zac (W.seq ?_)))))
   obtain ⟨hc11,H⟩:=zaa H
   obtain ⟨y12,hy13,H⟩:=zab H
   refine W.region env [] [⟨.int .i64 (y12),[],0,[]⟩] rfl rfl rfl (.cons hc11 (.cons id (.cons id (.cons id (.cons id (.cons id (.cons id (.cons id (.cons id .nil))))))))) (.on (fun hW=>p2_h (p0.getD (s1.2).toNat default) p1 _ (zaf hy13 hW)) .nil) (At.kp [6,7] [] ?_)
   refine At.zac (W.ret ?_)
   cases H
   exact At.ret env.ty rfl rfl nofun (.refl _) hval
theorem zgx (p0:Look) (p1:Int):Ctr Tryz.prog 113 [.agg [.int .i64 (p0.Source),.int .i64 (p0.Lamp),.int .i64 (p0.Night),.bool (p0.Bad),.int .i64 (p0.Known),.int .i64 (p0.Until)],.int .i64 (p1)] (.int .i64 ((zba p0 p1))):=by
 obtain ⟨r,H⟩:∃ r,zba p0 p1=r:=⟨_,rfl⟩
 rw [H]
 unfold zba at H
 refine Ctr.zak (N:=9) Tryz.func113 (by kernel_rfl) (c:=_) rfl Tryz.ntmps113 rfl (fun w0 h0 hval=>?_)
 refine W.rg env [1,2] [2] ?_
 refine W.sr env [] [⟨.int .i64 ((za0 p0.Source p1)),[],0,[]⟩] [4] [] rfl rfl rfl .nil (.free (zd6 p0.Source p1) .nil) ?_
 refine W.ret ?_
 cases H
 exact At.ret env.ty rfl rfl nofun (.refl _) hval
theorem zhs (fuel:Nat) (p0:Wear) (p1:Int) (p2:(List Int)) {r:Int} (H:zcD fuel p0 p1 p2=some r):Ctr Tryz.prog 45 [.agg (zaj p0),.int .i64 (p1),roL 1 zae p2] (.int .i64 (r)):=by
 unfold zcD at H
 refine Ctr.zak (N:=80) Tryz.func45 (by kernel_rfl) (c:=_) rfl Tryz.ntmps45 rfl (fun w0 h0 hval=>?_)
 refine W.rg env [1,2,3] [3] ?_
 refine W.seq (W.seq ?_)
 obtain ⟨y1,hy2,H⟩:=zab H
 refine W.region env [] [⟨.int .i64 (y1),[],0,[]⟩] rfl rfl rfl .nil (.free (Ctr.sim (.cons (.refl _) (.cons (Sim.lit (f:=zae) ([p1]:List Int) rfl rfl (fun _=>rfl)) .nil)) (zc8 p0 ([p1]:List Int) hy2)) .nil) (At.kp [1,2,3,7] [3] ?_)
 refine At.zac (W.rg env [1,2,3,7,20] [3] ?_)
 refine W.cond rfl (fun hb3=>?_) (fun hb3=>?_)
 · have H:=zaf H hb3
   refine W.rg env [6] [] ?_
   refine W.ret (At.rthen ?_)
   cases H
   exact At.ret env.ty rfl rfl nofun (.refl _) hval
 · have H:=zad H hb3
   refine W.skip (At.zac (W.seq ?_))
   obtain ⟨y4,hy5,H⟩:=zab H
   refine W.region env [] [⟨roL 6 zai y4,[],0,[]⟩] rfl rfl rfl .nil (.free (zfS fuel p0 p1 hy5) .nil) (At.kp [1,2,3,8] [3] ?_)
   refine At.zac (W.rg env [1,2,3,8,9] [3] ?_)
   refine W.seq (W.rg env [1,2,3,8,9,25,26,27] [3] ?_)
   refine W.block (At.zeY 9 509 37 6 (e:=fun i=>zai (([]:List Look).getD i default)) rfl rfl ?_)
   refine At.kp [1,2,3,8,9,25,26,27] [3,509] ?_
   refine W.len (t:=25) rfl (fun (hn6:p2.length≤maxLen)=>?_)
   refine W.zav H (fun i6 (s6:(List Look))=>[(1,.int .i64 (p1)),(2,roL 1 zae p2),(3,.lp 3 0),(8,roL 6 zai y4),(9,.buf 509 (s6).length),(25,roL 1 zae p2),(26,.int .i64 (((p2.length:Nat):Int))),(27,.int .i64 ((i6:Int)))]) (fun i6 (s6:(List Look))=>[(3,.cells (zaj p0)),(509,bufL 37 6 zai s6)]) (.cons .qi (.cons .q (.cons .q (.cons .q (.cons .qb (.cons .q (.cons .qi (.cons .qi .nil)))))))) (.cons .q (.cons .q .nil)) (fun k6 i6 s6 hle6 H1 H2 K0 hK6=>?_)
   refine W.rg env [1,2,3,8,9,25,26,27,28] [3,509] ?_
   refine W.seq (W.cond rfl (fun hb7=>?_) (fun hb7=>?_))
   · have hi6:i6<p2.length:=by have:=of_decide_eq_true hb7;omega
     have H:=H1 hi6
     refine W.skip (At.zac (W.seq (W.block (W.sr env [] [] [1,2,3,8,9,10,11,25,26,27] [3,509] rfl rfl rfl (.cons (⟨by omega,by omega⟩:0≤(i6:Int)∧(i6:Int)<((p2.length:Nat):Int)) .nil) .nil ?_))))
     refine W.seq ?_
     obtain ⟨y8,hy9,H⟩:=zab H
     refine W.region env [] [⟨.tup [.int .i64 (y8.1),.bool (y8.2)],[],0,[]⟩] rfl rfl rfl .nil (.free (zet fuel y4 (p2.getD i6 default) (fun x0 x1=>some (zba x0 x1)) 113 [] [] (fun x0 x1 r h=>by cases h;exact zgx x0 x1) hy9) .nil) (At.kp [1,2,3,8,9,10,11,12,13,25,26,27] [3,509] ?_)
     refine At.zac (W.seq ?_)
     obtain ⟨hc10,H⟩:=zaa H
     obtain ⟨hc11,H⟩:=zaa H
     refine W.sr env [] [] [1,2,3,8,9,12,25,26,27,52] [3,509] rfl rfl rfl (.cons id (.cons id (.cons hc10 (.cons id (.cons hc11 (.cons id (.cons id (.cons id (.cons id (.cons id (.cons id (.cons (fun hW h=>by revert hW h;first|(simp +contextual;done)|grind) (.cons (fun h=>by rw [h];rfl) .nil))))))))))))) .nil ?_
     refine W.cond rfl (fun hb12=>?_) (fun hb12=>?_)
     · have H:=zaf H hb12
       refine W.rg env [6] [] ?_
       refine W.ret (At.rthen ?_)
       refine At.rinb ?_
       refine At.rthen ?_
       refine At.rthen ?_
       refine At.rinb ?_
       refine At.rthen ?_
       cases H
       exact At.ret env.ty rfl rfl nofun (.refl _) hval
     · have H:=zad H hb12
       refine W.skip (At.zac ?_)
       obtain ⟨hc13,H⟩:=zaa H
       obtain ⟨hc14,H⟩:=zaa H
       refine W.region env [] [] rfl rfl rfl (.cons hc13 (.cons (⟨by first|rfl|(simp;done)|omega|(simp;omega),by have:=hc14;first|simpa using this|(unfold room at this ⊢;simp at this ⊢;omega)⟩) .nil)) .nil (At.kp [1,2,3,8,9,25,26,27] [3,509] ?_)
       refine At.zbG (.cons (.refl _) (.cons (y:=bufL 37 6 zai (s6++([(y4.getD (y8.1).toNat default)]:List Look))) (BSim.seg (Seg.push (Seg.refl zai _) (Seg.lit (f:=zai) (sz:=6) ([(y4.getD (y8.1).toNat default)]:List Look) rfl rfl (fun _=>rfl)))) .nil)) ?_
       refine At.inb (At.zac (W.region env [] [] rfl rfl rfl (.cons (by unfold inI;have:=hn6;(try unfold maxLen at this);omega) .nil) .nil (At.kp [1,2,3,8,9,25,26,27] [3,509] ?_)))
       refine At.zaG (At.kp [1,2,3,8,9,25,26,27] [3,509] ?_)
       exact At.conv (.cons .qi (.cons .q (.cons .q (.cons .q (.cons .qb (.cons .q (.cons .qi (.cons .qi .nil)))))))) (.cons .q (.cons .q .nil)) (hK6 hi6 (s6++([(y4.getD (y8.1).toNat default)]:List Look)) H)
   · have H:=H2 (by have:=of_decide_eq_false hb7;omega)
     refine W.exit (At.xthen (At.xthen (At.xhere (At.zac (W.seq (W.seq (At.zmA 509 (K:=[3]) (ts:=[1,3,9]) rfl rfl rfl rfl (.cons (by first|rfl|(simp;done)|omega|(simp;omega)) .nil) .nil (fun _ h=>h) ?_)))))))
     obtain ⟨y15,hy16,H⟩:=zab H
     obtain ⟨y17,hy18,H⟩:=zab H
     refine W.region env [] [⟨.agg (zaC y15),[],0,[]⟩,⟨.bool (y17),[],0,[]⟩] rfl rfl rfl .nil (.free (zct fuel p0 s6 p1 hy16) (.free (zaX y15 hy18) .nil)) (At.kp [1,3,9,65] [3] ?_)
     refine At.zac (W.cond rfl (fun hb19=>?_) (fun hb19=>?_))
     · have H:=zaf H hb19
       refine W.rg env [6] [] ?_
       refine W.ret (At.rthen ?_)
       cases H
       exact At.ret env.ty rfl rfl nofun (.refl _) hval
     · have H:=zad H hb19
       refine W.skip (At.zac (W.seq (W.rg env [1,3,9,67,68] [3] ?_)))
       refine W.block (At.kp [1,3,9,67,68] [3] ?_)
       refine W.len (t:=9) rfl (fun (hn20:s6.length≤maxLen)=>?_)
       refine W.zav H (fun i20 (s20:Unit)=>[(1,.int .i64 (p1)),(3,.lp 3 0),(9,roL 6 zai s6),(67,.int .i64 (((s6.length:Nat):Int))),(68,.int .i64 ((i20:Int)))]) (fun i20 (s20:Unit)=>[(3,.cells (zaj p0))]) (.cons .qi (.cons .q (.cons .q (.cons .qi (.cons .qi .nil))))) (.cons .q .nil) (fun k20 i20 s20 hle20 H1 H2 K0 hK20=>?_)
       refine W.rg env [1,3,9,67,68,69] [3] ?_
       refine W.seq (W.cond rfl (fun hb21=>?_) (fun hb21=>?_))
       · have hi20:i20<s6.length:=by have:=of_decide_eq_true hb21;omega
         have H:=H1 hi20
         refine W.skip (At.zac (W.seq (W.block (W.rg env [1,3,9,14,67,68] [3] ?_))))
         refine W.seq ?_
         obtain ⟨y22,hy23,H⟩:=zab H
         obtain ⟨y24,hy25,H⟩:=zab H
         obtain ⟨y26,hy27,H⟩:=zab H
         refine W.region env [] [⟨roL 6 zai y22,[],0,[]⟩,⟨.agg (zaC y24),[],0,[]⟩,⟨.bool (y26),[],0,[]⟩] rfl rfl (by kernel_rfl) .nil (.free (zhO s6 (i20:Int) hy23) (.free (zct fuel p0 y22 p1 hy25) (.free (zaX y24 hy27) .nil))) (At.kp [1,3,9,67,68,78] [3] ?_)
         refine At.zac (W.cond rfl (fun hb28=>?_) (fun hb28=>?_))
         · have H:=zaf H hb28
           refine W.rg env [6] [] ?_
           refine W.ret (At.rinb ?_)
           refine At.rthen ?_
           refine At.rthen ?_
           refine At.rinb ?_
           refine At.rthen ?_
           cases H
           exact At.ret env.ty rfl rfl nofun (.refl _) hval
         · have H:=zad H hb28
           refine W.skip (At.inb (At.zac (W.region env [] [] rfl rfl rfl (.cons (by unfold inI;have:=hn20;(try unfold maxLen at this);omega) .nil) .nil (At.kp [1,3,9,67,68] [3] ?_))))
           refine At.zaG (At.kp [1,3,9,67,68] [3] ?_)
           exact At.conv (.cons .qi (.cons .q (.cons .q (.cons .qi (.cons .qi .nil))))) (.cons .q .nil) (hK20 hi20 () H)
       · have H:=H2 (by have:=of_decide_eq_false hb21;omega)
         refine W.exit (At.xthen (At.xthen (At.xhere (At.zac (W.rg env [6] [] ?_)))))
         refine W.ret ?_
         cases H
         exact At.ret env.ty rfl rfl nofun (.refl _) hval
theorem zeV (fuel:Nat) (p0:Wear) (p1:Int) (p2:(List Int)) {r:Int} (H:zbr fuel p0 p1 p2=some r):Ctr Tryz.prog 46 [.agg (zaj p0),.int .i64 (p1),roL 1 zae p2] (.int .i64 (r)):=by
 unfold zbr at H
 refine Ctr.zak (N:=93) Tryz.func46 (by kernel_rfl) (c:=_) rfl Tryz.ntmps46 rfl (fun w0 h0 hval=>?_)
 refine W.rg env [1,2,3] [3] ?_
 refine W.seq ?_
 obtain ⟨y1,hy2,H⟩:=zab H
 refine W.region env [] [⟨.int .i64 (y1),[],0,[]⟩] rfl rfl rfl .nil (.free (zcu fuel p0 (⟨p1,p1⟩:(Arr2 Int)) hy2) .nil) (At.kp [1,2,3,7] [3] ?_)
 refine At.zac (W.seq (W.rg env [1,2,3,7,20] [3] ?_))
 refine W.cond rfl (fun hb3=>?_) (fun hb3=>?_)
 · have H:=zaf H hb3
   refine W.rg env [6] [] ?_
   refine W.ret (At.rthen ?_)
   cases H
   exact At.ret env.ty rfl rfl nofun (.refl _) hval
 · have H:=zad H hb3
   refine W.skip (At.zac (W.seq ?_))
   obtain ⟨y4,hy5,H⟩:=zab H
   refine W.region env [] [⟨roL 6 zai y4,[],0,[]⟩] rfl rfl rfl .nil (.free (zdd fuel p0 p1 hy5) .nil) (At.kp [1,2,3,8] [3] ?_)
   refine At.zac (W.rg env [1,2,3,8,9] [3] ?_)
   refine W.seq (W.rg env [1,2,3,8,9,10] [3] ?_)
   refine W.block (At.zeY 9 509 37 6 (e:=fun i=>zai (([]:List Look).getD i default)) rfl rfl ?_)
   refine At.kp [1,2,3,8,9,10] [3,509] ?_
   refine W.loopGo H (fun (s6:Int×(List Look))=>[(1,.int .i64 (p1)),(2,roL 1 zae p2),(3,.lp 3 0),(8,roL 6 zai y4),(9,.buf 509 (s6.2).length),(10,.int .i64 (s6.1))]) (fun (s6:Int×(List Look))=>[(3,.cells (zaj p0)),(509,bufL 37 6 zai s6.2)]) (.cons .qi (.cons .q (.cons .q (.cons .q (.cons .qb (.cons .qi .nil)))))) (.cons .q (.cons .q .nil)) (fun k6 s6 H K0 hK6=>?_)
   refine W.seq (W.rg env [1,2,3,8,9,10,28] [3,509] ?_)
   refine W.cond rfl (fun hb7=>?_) (fun hb7=>?_)
   · have H:=zaf H hb7
     refine W.skip (At.zac (W.seq (W.block (W.seq ?_))))
     obtain ⟨hc8,H⟩:=zaa H
     obtain ⟨hc9,H⟩:=zaa H
     obtain ⟨hc10,H⟩:=zaa H
     refine W.sr env [] [] [1,2,3,8,9,10,44] [3,509] rfl rfl (by first|rfl|kernel_rfl) (.cons hc8 (.cons id (.cons hc9 (.cons id (.cons id (.cons id (.cons hc10 (.cons id (.cons id (.cons id (.cons id (.cons id (.cons id .nil))))))))))))) .nil ?_
     refine W.cond rfl (fun hb11=>?_) (fun hb11=>?_)
     · have H:=zaf H hb11
       refine W.rg env [6] [] ?_
       refine W.ret (At.rthen ?_)
       refine At.rinb ?_
       refine At.rthen ?_
       refine At.rthen ?_
       refine At.rinb ?_
       refine At.rthen ?_
       cases H
       exact At.ret env.ty rfl rfl nofun (.refl _) hval
     · have H:=zad H hb11
       refine W.skip (At.zac (W.sr env [] [] [1,2,3,8,9,10,11] [3,509] rfl rfl rfl (.cons (by first|rfl|(simp;done)|omega|(simp;omega)) .nil) .nil ?_))
       refine W.seq (W.rg env [1,2,3,8,9,10,11,12] [3,509] ?_)
       refine W.block (At.kp [1,2,3,8,9,10,11,12] [3,509] ?_)
       refine W.loopGo H (fun (s12:Int×(List Look))=>[(1,.int .i64 (p1)),(2,roL 1 zae p2),(3,.lp 3 0),(8,roL 6 zai y4),(9,.buf 509 (s12.2).length),(10,.int .i64 (s6.1)),(11,.int .i64 (((s6.2.length:Nat):Int))),(12,.int .i64 (s12.1))]) (fun (s12:Int×(List Look))=>[(3,.cells (zaj p0)),(509,bufL 37 6 zai s12.2)]) (.cons .qi (.cons .q (.cons .q (.cons .q (.cons .qb (.cons .qi (.cons .qi (.cons .qi .nil)))))))) (.cons .q (.cons .q .nil)) (fun k12 s12 H K0 hK12=>?_)
       refine W.seq (W.rg env [1,2,3,8,9,10,11,12,50] [3,509] ?_)
       refine W.cond rfl (fun hb13=>?_) (fun hb13=>?_)
       · have H:=zaf H hb13
         refine W.skip (At.zac (W.seq (W.block ?_)))
         obtain ⟨hc14,H⟩:=zaa H
         obtain ⟨hc15,H⟩:=zaa H
         refine W.sr env [] [] [1,2,3,8,9,10,11,12,62] [3,509] rfl rfl (by first|rfl|kernel_rfl) (.cons hc14 (.cons hc15 .nil)) .nil ?_
         refine W.cond rfl (fun hb16=>?_) (fun hb16=>?_)
         · have H:=zaf H hb16
           obtain ⟨hc17,H⟩:=zaa H
           obtain ⟨hc18,H⟩:=zaa H
           refine W.region env [] [] rfl rfl rfl (.cons hc17 (.cons (⟨by first|rfl|(simp;done)|omega|(simp;omega),by have:=hc18;first|simpa using this|(unfold room at this ⊢;simp at this ⊢;omega)⟩) .nil)) .nil (At.kp [1,2,3,8,9,10,11,12] [3,509] ?_)
           refine At.zbG (.cons (.refl _) (.cons (y:=bufL 37 6 zai (s12.2++([(y4.getD (s12.1).toNat default)]:List Look))) (BSim.seg (Seg.push (Seg.refl zai _) (Seg.lit (f:=zai) (sz:=6) ([(y4.getD (s12.1).toNat default)]:List Look) rfl rfl (fun _=>rfl)))) .nil)) ?_
           refine At.inb (At.zac ?_)
           obtain ⟨hc19,H⟩:=zaa H
           refine W.region env [] [] rfl rfl rfl (.cons hc19 .nil) .nil (At.kp [1,2,3,8,9,10,11,12] [3,509] ?_)
           refine At.zaG (At.kp [1,2,3,8,9,10,11,12] [3,509] ?_)
           exact At.conv (.cons .qi (.cons .q (.cons .q (.cons .q (.cons .qb (.cons .qi (.cons .qi (.cons .qi .nil)))))))) (.cons .q (.cons .q .nil)) (hK12 ((s12.1+1),(s12.2++([(y4.getD (s12.1).toNat default)]:List Look))) H)
         · have H:=zad H hb16
           refine W.skip (At.inb (At.zac ?_))
           obtain ⟨hc20,H⟩:=zaa H
           refine W.region env [] [] rfl rfl rfl (.cons hc20 .nil) .nil (At.kp [1,2,3,8,9,10,11,12] [3,509] ?_)
           refine At.zaG (At.kp [1,2,3,8,9,10,11,12] [3,509] ?_)
           exact At.conv (.cons .qi (.cons .q (.cons .q (.cons .q (.cons .qb (.cons .qi (.cons .qi (.cons .qi .nil)))))))) (.cons .q (.cons .q .nil)) (hK12 ((s12.1+1),s12.2) H)
       · have H:=zad H hb13
         refine W.exit (At.xthen (At.xthen (At.xhere (At.zac (W.sr env [] [] [1,2,3,8,9,10,73] [3,509] rfl rfl rfl (.cons (by first|rfl|(simp;done)|omega|(simp;omega)) .nil) .nil ?_)))))
         refine W.cond rfl (fun hb21=>?_) (fun hb21=>?_)
         · have H:=zaf H hb21
           refine W.rg env [6] [] ?_
           refine W.ret (At.rinb ?_)
           refine At.rthen ?_
           refine At.rthen ?_
           refine At.rinb ?_
           refine At.rthen ?_
           cases H
           exact At.ret env.ty rfl rfl nofun (.refl _) hval
         · have H:=zad H hb21
           refine W.skip (At.inb (At.zac ?_))
           obtain ⟨hc22,H⟩:=zaa H
           refine W.region env [] [] rfl rfl rfl (.cons hc22 .nil) .nil (At.kp [1,2,3,8,9,10] [3,509] ?_)
           refine At.zaG (At.kp [1,2,3,8,9,10] [3,509] ?_)
           exact At.conv (.cons .qi (.cons .q (.cons .q (.cons .q (.cons .qb (.cons .qi .nil)))))) (.cons .q (.cons .q .nil)) (hK6 ((s6.1+1),s12.2) H)
   · have H:=zad H hb7
     refine W.exit (At.xthen (At.xthen (At.xhere (At.zac (W.seq (W.seq ?_))))))
     obtain ⟨y23,hy24,H⟩:=zab H
     refine W.region env [] [⟨.bool (y23),[],0,[]⟩] rfl rfl rfl (.cons (by first|rfl|(simp;done)|omega|(simp;omega)) .nil) (.free (zbs fuel p0 (⟨s6.2,p1⟩:gasolierref06_Told) hy24) .nil) (At.kp [1,3,9,78] [3,509] ?_)
     refine At.zac (W.cond rfl (fun hb25=>?_) (fun hb25=>?_))
     · have H:=zaf H hb25
       refine W.rg env [6] [] ?_
       refine W.ret (At.rthen ?_)
       cases H
       exact At.ret env.ty rfl rfl nofun (.refl _) hval
     · have H:=zad H hb25
       refine W.skip (At.zac (W.seq (W.rg env [1,3,9,13] [3,509] ?_)))
       refine W.block (At.zmA 509 (K:=[3]) (ts:=[1,3,9,13]) rfl rfl rfl rfl (.cons (by first|rfl|(simp;done)|omega|(simp;omega)) .nil) .nil (fun _ h=>h) ?_)
       refine At.kp [1,3,9,13] [3] ?_
       refine W.loopGo H (fun (s26:Int)=>[(1,.int .i64 (p1)),(3,.lp 3 0),(9,roL 6 zai s6.2),(13,.int .i64 (s26))]) (fun (s26:Int)=>[(3,.cells (zaj p0))]) (.cons .qi (.cons .q (.cons .q (.cons .qi .nil)))) (.cons .q .nil) (fun k26 s26 H K0 hK26=>?_)
       refine W.seq (W.rg env [1,3,9,13,82] [3] ?_)
       refine W.cond rfl (fun hb27=>?_) (fun hb27=>?_)
       · have H:=zaf H hb27
         refine W.skip (At.zac (W.seq (W.block (W.seq ?_))))
         obtain ⟨y28,hy29,H⟩:=zab H
         obtain ⟨y30,hy31,H⟩:=zab H
         refine W.region env [] [⟨roL 6 zai y28,[],0,[]⟩,⟨.bool (y30),[],0,[]⟩] rfl rfl (by kernel_rfl) .nil (.free (zep s6.2 s26 hy29) (.free (zbs fuel p0 (⟨y28,p1⟩:gasolierref06_Told) hy31) .nil)) (At.kp [1,3,9,13,92] [3] ?_)
         refine At.zac (W.cond rfl (fun hb32=>?_) (fun hb32=>?_))
         · have H:=zaf H hb32
           refine W.rg env [6] [] ?_
           refine W.ret (At.rinb ?_)
           refine At.rthen ?_
           refine At.rthen ?_
           refine At.rinb ?_
           refine At.rthen ?_
           cases H
           exact At.ret env.ty rfl rfl nofun (.refl _) hval
         · have H:=zad H hb32
           refine W.skip (At.inb (At.zac ?_))
           obtain ⟨hc33,H⟩:=zaa H
           refine W.region env [] [] rfl rfl rfl (.cons hc33 .nil) .nil (At.kp [1,3,9,13] [3] ?_)
           refine At.zaG (At.kp [1,3,9,13] [3] ?_)
           exact At.conv (.cons .qi (.cons .q (.cons .q (.cons .qi .nil)))) (.cons .q .nil) (hK26 (s26+1) H)
       · have H:=zad H hb27
         refine W.exit (At.xthen (At.xthen (At.xhere (At.zac (W.rg env [6] [] ?_)))))
         refine W.ret ?_
         cases H
         exact At.ret env.ty rfl rfl nofun (.refl _) hval
theorem zeS (fuel:Nat) (p0:Wear) (p1:(Arr2 Int)) (p2:(List Int)) {r:Bool} (H:za7 fuel p0 p1 p2=some r):Ctr Tryz.prog 7 [.agg (zaj p0),.agg [.int .i64 (p1.x0),.int .i64 (p1.x1)],roL 1 zae p2] (.bool (r)):=by
 unfold za7 at H
 refine Ctr.zak (N:=113) Tryz.func7 (by kernel_rfl) (c:=_) rfl Tryz.ntmps7 rfl (fun w0 h0 hval=>?_)
 refine W.rg env [2,3,4] [3,4] ?_
 refine W.seq ?_
 obtain ⟨y1,hy2,H⟩:=zab H
 refine W.region env [] [⟨.bool (y1),[],0,[]⟩] rfl rfl rfl .nil (.free (zg5 20000 hy2) .nil) (At.kp [2,3,4,7] [3,4] ?_)
 refine At.zac (W.seq ?_)
 obtain ⟨y3,hy4,H⟩:=zab H
 refine W.region env [] [⟨.tup [.agg [.int .i64 (y3.1.Lo),.int .i64 (y3.1.Hi)],.int .i64 (y3.2)],[],0,[]⟩] rfl rfl rfl (.cons (by decide) (.cons (by decide) .nil)) (.free (zhQ fuel p0 p1.x0 p1.x1 hy4) .nil) (At.kp [2,3,4,7,8,9] [3,4,8] ?_)
 refine At.zac (W.seq ?_)
 obtain ⟨y5,hy6,H⟩:=zab H
 refine W.region env [] [⟨.tup [.agg [.int .i64 (y5.1.Lo),.int .i64 (y5.1.Hi)],.int .i64 (y5.2)],[],0,[]⟩] rfl rfl rfl (.cons (by decide) (.cons (by decide) .nil)) (.free (zg4 fuel p0 p1.x0 p1.x1 hy6) .nil) (At.kp [2,3,4,7,8,9,10,11] [3,4,8,10] ?_)
 refine At.zac (W.seq ?_)
 obtain ⟨y7,hy8,H⟩:=zab H
 refine W.region env [] [⟨.tup [.bool (y7.1),.int .i64 (y7.2)],[],0,[]⟩] rfl rfl rfl (.cons (by decide) .nil) (.free (zj0 fuel p0 p1.x1 hy8) .nil) (At.kp [2,3,4,7,8,9,10,11,12,13] [3,4,8,10] ?_)
 refine At.zac (W.seq ?_)
 obtain ⟨y9,hy10,H⟩:=zab H
 refine W.region env [] [⟨.tup [.bool (y9.1),.int .i64 (y9.2)],[],0,[]⟩] rfl rfl rfl (.cons (by decide) .nil) (.free (zgz fuel p0 p1.x1 hy10) .nil) (At.kp [2,3,4,7,8,9,10,11,12,13,14,15] [3,4,8,10] ?_)
 refine At.zac (W.seq ?_)
 obtain ⟨y11,hy12,H⟩:=zab H
 refine W.region env [] [⟨.tup [roL 1 zae y11.1,.int .i64 (y11.2)],[],0,[]⟩] rfl rfl rfl (.cons (by decide) .nil) (.free (zg9 fuel p0 p1.x1 hy12) .nil) (At.kp [2,3,4,7,8,9,10,11,12,13,14,15,16,17] [3,4,8,10] ?_)
 refine At.zac (W.seq ?_)
 obtain ⟨y13,hy14,H⟩:=zab H
 refine W.region env [] [⟨.tup [roL 1 zae y13.1,.int .i64 (y13.2)],[],0,[]⟩] rfl rfl rfl (.cons (by decide) .nil) (.free (zgA fuel p0 p1.x1 hy14) .nil) (At.kp [2,3,4,7,8,9,10,11,12,13,14,15,16,17,18,19] [3,4,8,10] ?_)
 refine At.zac (W.seq ?_)
 obtain ⟨y15,hy16,H⟩:=zab H
 refine W.region env [] [⟨.bool (y15),[],0,[]⟩] rfl rfl rfl .nil (.free (zdr fuel y11.1 y13.1 hy16) .nil) (At.kp [2,3,4,7,8,9,10,11,12,13,14,15,17,19,20] [3,4,8,10] ?_)
 refine At.zac (W.seq ?_)
 obtain ⟨y17,hy18,H⟩:=zab H
 obtain ⟨y19,hy20,H⟩:=zab H
 refine W.region env [] [⟨.int .i64 (y17),[],0,[]⟩,⟨.int .i64 (y19),[],0,[]⟩] rfl rfl (by kernel_rfl) (.cons id (.cons id (.cons id (.cons id (.cons id (.cons id (.cons id (.cons id (.cons id (.cons id (.cons id (.cons id (.cons id (.cons id (.cons id (.cons id (.cons (fun _=>by decide) (.cons id (.cons id (.cons id (.cons id (.cons (fun _=>by decide) (.cons id (.cons id (.cons id (.cons id (.cons id (.cons id (.cons id .nil))))))))))))))))))))))))))))) (.on (fun hW=>zhs fuel p0 p1.x1 p2 (zaf hy18 hW)) (.on (fun hW=>zeV fuel p0 p1.x1 p2 (zaf hy20 hW)) .nil)) (At.kp [6] [] ?_)
 refine At.zac (W.ret ?_)
 cases H
 exact At.ret env.ty rfl rfl nofun (.refl _) hval
end Go.Sp
