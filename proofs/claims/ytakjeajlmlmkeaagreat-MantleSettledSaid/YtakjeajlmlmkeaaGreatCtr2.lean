/- Printed by gen.py: contracts, part 2. -/
import Derived.Test.YtakjeajlmlmkeaaGreatCtr1
set_option linter.all false
set_option maxRecDepth 100000
set_option maxHeartbeats 1000000
namespace Go.Sp
open Go Go.Av Go.Proofs
theorem zfa (p0:Range) (p1:Int):Ctr Tryz.prog 122 [.agg [.int .i64 (p0.Lo),.int .i64 (p0.Hi)],.int .i64 (p1)] (.int .i64 ((zaG p0 p1))):=by
 obtain ⟨r,H⟩:∃ r,zaG p0 p1=r:=⟨_,rfl⟩
 rw [H]
 unfold zaG at H
 refine Ctr.ob Tryz.func122 Tryz.ntmps122 (fun w0 h0 hval=>?_)
 refine W.rg env [1,2] [2] ?_
 refine W.seq (W.block (W.rg env [1,2,5] [2] ?_))
 refine W.co H rfl (fun hb1 H=>?_) (fun hb1 H=>?_)
 · refine W.rg env [4] [] ?_
   refine W.ret (At.rinb ?_)
   refine At.rthen ?_
   cases H
   exact At.rz env hval
 · refine W.rg env [10] [] ?_
   refine W.co H rfl (fun hb2 H=>?_) (fun hb2 H=>?_)
   · refine W.rg env [4] [] ?_
     refine W.ret (At.rinb ?_)
     refine At.rthen ?_
     cases H
     exact At.rz env hval
   · refine W.skip (At.inb (At.zad (W.rg env [4] [] ?_)))
     refine W.ret ?_
     cases H
     exact At.rz env hval
theorem zen (p0:mantle_lot) (p1:(List Int)) (p2:Int) (p3:Bool) {r:Bool} (H:zbc p0 p1 p2 p3=some r):Ctr Tryz.prog 127 [.agg (zak p0),roL 1 zab p1,.int .i64 (p2),.bool (p3)] (.bool (r)):=by
 unfold zbc at H
 refine Ctr.ob Tryz.func127 Tryz.ntmps127 (fun w0 h0 hval=>?_)
 refine W.rg env [1,2,3,4] [4] ?_
 refine W.seq ?_
 obtain ⟨y1,hy2,H⟩:=zac H
 refine W.region env [] [⟨.agg (zak y1),[],0,[]⟩] rfl rfl rfl .nil (.free (zdk p0 p1 p3 hy2) .nil) (At.kp [2,3,9] [9] ?_)
 refine At.zad (W.seq (W.seq ?_))
 obtain ⟨y3,hy4,H⟩:=zac H
 refine W.region env [] [⟨.bool (y3),[],0,[]⟩] rfl rfl rfl .nil (.free (zbh y1.closet hy4) .nil) (At.kp [2,3,9,17] [9] ?_)
 refine At.zad (W.co H rfl (fun hb5 H=>?_) (fun hb5 H=>?_))
 · refine W.rg env [8] [] ?_
   refine W.ret (At.rthen ?_)
   cases H
   exact At.rz env hval
 · refine W.skip (At.zad (W.seq (W.rg env [2,9,18] [9] ?_)))
   refine W.co H rfl (fun hb6 H=>?_) (fun hb6 H=>?_)
   · refine W.seq ?_
     obtain ⟨y7,hy8,H⟩:=zac H
     refine W.region env [] [⟨.agg [.int .i64 (y7.Lo),.int .i64 (y7.Hi)],[],0,[]⟩,⟨.int .i64 ((zaG y7 p2)),[],0,[]⟩] rfl rfl rfl .nil (.free (zcm y1 hy8) (.free (zfa y7 p2) .nil)) (At.kp [8] [] ?_)
     refine At.zad (W.ret (At.rthen ?_))
     cases H
     exact At.rz env hval
   · refine W.skip (At.zad (W.seq ?_))
     obtain ⟨y9,hy10,H⟩:=zac H
     refine W.region env [] [⟨.agg [.int .i64 (y9.Lo),.int .i64 (y9.Hi)],[],0,[]⟩,⟨.int .i64 ((zaG y9 p2)),[],0,[]⟩] rfl rfl rfl .nil (.free (zcm y1 hy10) (.free (zfa y9 p2) .nil)) (At.kp [8] [] ?_)
     refine At.zad (W.ret ?_)
     cases H
     exact At.rz env hval
theorem zfV (fuel:Nat) (p0:mantle_lot) (p1:Int) (p2:Bool) (post:((List Int)×Bool)→Option Unit) {r:Unit} (H:zbW fuel p0 p1 p2 post=some r):CtrN Tryz.prog 123 [.agg (zak p0),.int .i64 (p1),.bool (p2)] (fun (y:((List Int)×Bool))=>.tup [roL 1 zab y.1,.bool (y.2)]) (fun y=>post y=some r):=by
 unfold zbW at H
 refine CtrN.zb5 (N:=107) Tryz.func123 (by kernel_rfl) (c:=_) rfl Tryz.ntmps123 rfl (fun w0 h0 hval=>?_)
 refine W.rg env [1,2,3] [3] ?_
 refine W.seq (W.region env [] [] rfl rfl rfl .nil .nil (At.kp [1,2,3,8] [3,22] ?_))
 refine At.zbb (.cons (.refl _) (.cons (y:=mapL (.slice none 0 0) (fun (x:(List Int))=>roL 1 zab x) ((Mp.empty:Mp (List Int)).set 0 [])) (BSim.zoE (f:=(fun (x:(List Int))=>roL 1 zab x)) (zhn.set (zhn.empty (f:=(fun (x:(List Int))=>roL 1 zab x)) (Sim.nil _ _)) [] (Sim.nil _ _))) .nil)) ?_
 refine At.zad (W.seq (W.rg env [1,2,3,8,28,29] [3,22] ?_))
 refine W.block (At.zmG 22 (K:=[3]) (ts:=[1,2,3,8,28,29]) rfl rfl rfl rfl (fun _ h=>h) ?_)
 refine At.kp [1,2,3,8,28,29] [3] ?_
 obtain ⟨hn1,H⟩:=zaa H
 refine W.zaq H (fun i1 (s1:(Mp (List Int)))=>[(1,.int .i64 (p1)),(2,.bool (p2)),(3,.lp 3 0),(8,romL (.slice none 0 0) (fun (x:(List Int))=>roL 1 zab x) s1),(28,.int .i64 (((p0.closet.w.Batches.length:Nat):Int))),(29,.int .i64 ((i1:Int)))]) (fun i1 (s1:(Mp (List Int)))=>[(3,.cells (zak p0))]) (.cons .qi (.cons .q (.cons .q (.cons .q (.cons .qi (.cons .qi .nil)))))) (.cons .q .nil) (fun k1 i1 s1 hle1 H1 H2 K0 hK1=>?_)
 refine W.rg env [1,2,3,8,28,29,30] [3] ?_
 refine W.seq (W.cond rfl (fun hb2=>?_) (fun hb2=>?_))
 · have hi1:i1<p0.closet.w.Batches.length:=ltD hb2
   have H:=H1 hi1
   refine W.skip (At.zad (W.seq (W.block (W.rg env [1,2,3,8,9,28,29] [3] ?_))))
   refine W.seq ?_
   obtain ⟨y3,hy4,H⟩:=zac H
   refine W.region env [] [⟨roL 1 zci y3,[],0,[]⟩] rfl rfl rfl .nil (.free (zhk p0 (i1:Int) p2 hy4) .nil) (At.kp [1,2,3,8,10,28,29] [3] ?_)
   refine At.zad (W.seq (W.region env [] [] rfl rfl rfl .nil .nil (At.kp [1,2,3,8,10,11,28,29] [3,36] ?_)))
   refine At.zbb (.cons (.refl _) (.cons (y:=mapL (.slice none 0 0) (fun (x:(List Int))=>roL 1 zab x) (Mp.empty:Mp (List Int))) (BSim.zoE (f:=(fun (x:(List Int))=>roL 1 zab x)) (zhn.empty (f:=(fun (x:(List Int))=>roL 1 zab x)) (Sim.nil _ _))) .nil)) ?_
   refine At.zad (W.seq (W.rg env [1,2,3,10,11,28,29,38] [3,36,38] ?_))
   refine W.block ?_
   obtain ⟨hok5,H⟩:=zaa H
   refine At.kp [1,2,3,10,11,28,29,38] [38,3,36] ?_
   refine At.zkO 38 rfl (fun left hleft=>?_)
   refine At.kp [1,2,3,10,11,28,29,38] [38,3,36] ?_
   refine W.zdV H (Mp.perm hok5 hleft) hleft.2.1 38 (fun k=>(fun (x:(List Int))=>roL 1 zab x) ((s1.get k).getD default)) (fun (s5:(Mp (List Int)))=>[(1,.int .i64 (p1)),(2,.bool (p2)),(3,.lp 3 0),(10,roL 1 zci y3),(11,.mp 36),(28,.int .i64 (((p0.closet.w.Batches.length:Nat):Int))),(29,.int .i64 ((i1:Int))),(38,.lp 38 0)]) (fun (s5:(Mp (List Int)))=>[(3,.cells (zak p0)),(36,mapL (.slice none 0 0) (fun (x:(List Int))=>roL 1 zab x) s5)]) (.cons .qi (.cons .q (.cons .q (.cons .q (.cons .q (.cons .qi (.cons .qi (.cons .q .nil)))))))) (.cons (.refl _) (.cons .q (.cons .q .nil))) (fun left s5 HJ5 hsub5 K hK5=>?_)
   refine W.seq (W.next rfl rfl rfl rfl rfl rfl rfl rfl rfl rfl rfl (fun hz=>?_) (fun q5 left2 hp5=>?_))
   · subst hz
     have H:k1 s5=some r:=HJ5
     refine At.zad (W.seq (W.cond rfl (fun hb18=>by cases hb18) (fun hb18=>?_)))
     refine W.exit (At.xthen (At.xthen (At.xhere (At.zad (At.zmG 36 (K:=[3]) (ts:=[1,2,3,11,28,29]) rfl rfl rfl rfl (fun _ h=>h) ?_)))))
     refine W.region env [] [] rfl rfl rfl .nil .nil (At.kp [1,2,3,8,28,29] [3] ?_)
     refine At.inb (At.zad (W.region env [] [] rfl rfl rfl (.cons (incD hi1 hn1) .nil) .nil (At.kp [1,2,3,8,28,29] [3] ?_)))
     refine At.zaF (At.kp [1,2,3,8,28,29] [3] ?_)
     exact At.conv (.cons .qi (.cons .q (.cons .q (.cons .q (.cons .qi (.cons .qi .nil)))))) (.cons .q .nil) (hK1 hi1 s5 H)
   · have H:=zmy hp5 HJ5
     refine At.zad (W.seq (W.cond rfl (fun hb6=>?_) (fun hb6=>by cases hb6)))
     refine W.skip (At.zad (W.block (W.rg env [1,2,3,10,11,12,13,28,29,38] [3,36,38] ?_)))
     refine W.rg env [1,2,3,10,11,12,13,28,29,38,44,45,46] [3,36,38] ?_
     refine W.block (At.kp [1,2,3,10,11,12,13,28,29,38,44,45,46] [3,36,38] ?_)
     refine W.len (t:=44) rfl (fun hn7=>?_)
     refine W.zaq H (fun i7 (s7:(Mp (List Int)))=>[(1,.int .i64 (p1)),(2,.bool (p2)),(3,.lp 3 0),(10,roL 1 zci y3),(11,.mp 36),(12,.int .i64 (q5)),(13,roL 1 zab ((s1.get q5).getD default)),(28,.int .i64 (((p0.closet.w.Batches.length:Nat):Int))),(29,.int .i64 ((i1:Int))),(38,.lp 38 0),(44,roL 1 zci y3),(45,.int .i64 (((y3.length:Nat):Int))),(46,.int .i64 ((i7:Int)))]) (fun i7 (s7:(Mp (List Int)))=>[(3,.cells (zak p0)),(36,mapL (.slice none 0 0) (fun (x:(List Int))=>roL 1 zab x) s7),(38,.iter (fun k=>(fun (x:(List Int))=>roL 1 zab x) ((s1.get k).getD default)) (some q5) (fun l=>l=left2))]) (.cons .qi (.cons .q (.cons .q (.cons .q (.cons .q (.cons .qi (.cons .q (.cons .qi (.cons .qi (.cons .q (.cons .q (.cons .qi (.cons .qi .nil))))))))))))) (.cons .q (.cons .q (.cons .q .nil))) (fun k7 i7 s7 hle7 H1 H2 K0 hK7=>?_)
     refine W.rg env [1,2,3,10,11,12,13,28,29,38,44,45,46,47] [3,36,38] ?_
     refine W.seq (W.cond rfl (fun hb8=>?_) (fun hb8=>?_))
     · have hi7:i7<y3.length:=ltD hb8
       have H:=H1 hi7
       refine W.skip (At.zad (W.seq (W.block (W.sr env [] [] [1,2,3,10,11,12,13,15,28,29,38,44,45,46] [3,36,38] rfl rfl rfl (.cons (inD hi7) .nil) .nil ?_))))
       refine W.seq ?_
       obtain ⟨y9,hy10,H⟩:=zac H
       refine W.region env [] [⟨roL 1 zab y9,[],0,[]⟩] rfl rfl rfl .nil (.free (Ctr.sim (.cons (Sim.lit (f:=zci) ([((s1.get q5).getD default),(y3.getD i7 default)]:List (List Int)) rfl rfl (fun _=>rfl)) .nil) (zhi ([((s1.get q5).getD default),(y3.getD i7 default)]:List (List Int)) hy10)) .nil) (At.kp [1,2,3,10,11,12,13,15,16,28,29,38,44,45,46] [3,36,38] ?_)
       refine At.zad ?_
       obtain ⟨hc11,H⟩:=zaa H
       refine W.sr env [] [] [1,2,3,10,11,12,13,15,16,17,18,28,29,38,44,45,46] [3,36,38] rfl rfl rfl (.cons hc11 (.cons rfl .nil)) .nil ?_
       refine W.seq ?_
       obtain ⟨y12,hy13,H⟩:=zac H
       obtain ⟨y14,hy15,H⟩:=zac H
       refine W.region env [] [⟨.int .i64 (y12),[],0,[]⟩,⟨.int .i64 (y14),[],0,[]⟩] rfl rfl (by kernel_rfl) (.cons id (.cons id (.cons id (.cons id (.cons id (.cons id (.cons id (.cons id (.cons (fun h=>by rw [h];rfl) .nil))))))))) (.on (fun hW=>zc5 p0 y9 p2 (zbJ hy13 hW)) (.on (fun hW=>zc5 p0 ((s7.get (q5+(((y3.getD i7 default).length:Nat):Int))).getD default) p2 (zbJ hy15 hW)) .nil)) (At.kp [1,2,3,10,11,12,13,15,16,28,29,38,44,45,46,75] [3,36,38] ?_)
       refine At.zad (W.co H rfl (fun hb16 H=>?_) (fun hb16 H=>?_))
       · obtain ⟨hc17,H⟩:=zaa H
         refine W.r1 env hc17 [1,2,3,10,11,12,13,28,29,38,44,45,46] [3,36,38] ?_
         refine At.zbb (.cons (.refl _) (.cons (y:=mapL (.slice none 0 0) (fun (x:(List Int))=>roL 1 zab x) (s7.set (q5+(((y3.getD i7 default).length:Nat):Int)) y9)) (BSim.mseg (f:=(fun (x:(List Int))=>roL 1 zab x)) (MSeg.set (MSeg.refl (fun (x:(List Int))=>roL 1 zab x) _) y9 rfl)) (.cons (.refl _) .nil))) ?_
         refine At.inb (At.zad (W.region env [] [] rfl rfl rfl (.cons (incD hi7 hn7) .nil) .nil (At.kp [1,2,3,10,11,12,13,28,29,38,44,45,46] [3,36,38] ?_)))
         refine At.zaF (At.kp [1,2,3,10,11,12,13,28,29,38,44,45,46] [3,36,38] ?_)
         exact At.conv (.cons .qi (.cons .q (.cons .q (.cons .q (.cons .q (.cons .qi (.cons .q (.cons .qi (.cons .qi (.cons .q (.cons .q (.cons .qi (.cons .qi .nil))))))))))))) (.cons .q (.cons .q (.cons .q .nil))) (hK7 hi7 (s7.set (q5+(((y3.getD i7 default).length:Nat):Int)) y9) H)
       · refine W.skip (At.inb (At.zad (W.region env [] [] rfl rfl rfl (.cons (incD hi7 hn7) .nil) .nil (At.kp [1,2,3,10,11,12,13,28,29,38,44,45,46] [3,36,38] ?_))))
         refine At.zaF (At.kp [1,2,3,10,11,12,13,28,29,38,44,45,46] [3,36,38] ?_)
         exact At.conv (.cons .qi (.cons .q (.cons .q (.cons .q (.cons .q (.cons .qi (.cons .q (.cons .qi (.cons .qi (.cons .q (.cons .q (.cons .qi (.cons .qi .nil))))))))))))) (.cons .q (.cons .q (.cons .q .nil))) (hK7 hi7 s7 H)
     · have H:=H2 (geD hb8)
       refine W.exit (At.xthen (At.xthen (At.xhere (At.inb (At.zaF (At.kp [1,2,3,10,11,28,29,38] [38,3,36] ?_))))))
       exact At.conv (.cons .qi (.cons .q (.cons .q (.cons .q (.cons .q (.cons .qi (.cons .qi (.cons .q .nil)))))))) (.cons (.refl _) (.cons .q (.cons .q .nil))) (hK5 _ left2 s7 hp5 H)
 · have H:=H2 (geD hb2)
   refine W.exit (At.xthen (At.xthen (At.xhere (At.zad (W.seq (W.rg env [1,2,3,8,19] [3] ?_))))))
   refine W.block (At.kp [1,2,3,8,19] [3] ?_)
   refine W.loopGo H (fun (s19:Int)=>[(1,.int .i64 (p1)),(2,.bool (p2)),(3,.lp 3 0),(8,romL (.slice none 0 0) (fun (x:(List Int))=>roL 1 zab x) s1),(19,.int .i64 (s19))]) (fun (s19:Int)=>[(3,.cells (zak p0))]) (.cons .qi (.cons .q (.cons .q (.cons .q (.cons .qi .nil))))) (.cons .q .nil) (fun k19 s19 H K0 hK19=>?_)
   refine W.seq (W.rg env [1,2,3,8,19,89] [3] ?_)
   refine W.co H rfl (fun hb20 H=>?_) (fun hb20 H=>?_)
   · refine W.skip (At.zad (W.seq (W.block (W.sr env [] [] [1,2,3,8,19,20,21] [3] rfl rfl rfl (.cons rfl .nil) .nil ?_))))
     refine W.seq ?_
     obtain ⟨y21,hy22,H⟩:=zac H
     refine W.region env [] [⟨.bool (y21),[],0,[]⟩] rfl rfl rfl (.cons id (.cons id (.cons id (.cons id (.cons id .nil))))) (.on (fun hW=>zen p0 ((s1.get s19).getD default) p1 p2 (zbJ hy22 hW)) .nil) (At.kp [1,2,3,8,19,20,105] [3] ?_)
     refine At.zad (W.co H rfl (fun hb23 H=>?_) (fun hb23 H=>?_))
     · refine W.rg env [6,7] [] ?_
       refine W.ret (At.rinb ?_)
       refine At.rthen ?_
       refine At.rthen ?_
       refine At.rinb ?_
       refine At.rthen ?_
       exact At.retN env.ty (((s1.get s19).getD default),true) H rfl rfl nofun (.refl _) hval
     · refine W.skip (At.inb (At.zad ?_))
       obtain ⟨hc24,H⟩:=zaa H
       refine W.r1 env hc24 [1,2,3,8,19] [3] ?_
       refine At.zaF (At.kp [1,2,3,8,19] [3] ?_)
       exact At.conv (.cons .qi (.cons .q (.cons .q (.cons .q (.cons .qi .nil))))) (.cons .q .nil) (hK19 (s19+1) H)
   · refine W.exit (At.xthen (At.xthen (At.xhere (At.zad (W.rg env [6,7] [] ?_)))))
     exact W.ret (At.retN env.ty ([],false) H rfl rfl nofun (Sim.tupL (.cons (Sim.nil _ _) (.cons (.refl _) .nil))) hval)
theorem zhM (p0:List Int) {r:List Int} (H:zco p0=some r):CtrO Tryz.prog 120 [.buf 90000 p0.length] [(90000,bufL 3 1 zab p0)] (.tup []) [(90000,bufL 3 1 zab r)]:=
 zpP (Go.Av.enters_of Tryz.func120 (by kernel_rfl) (c:=_) rfl) (Any.slices_Sort_int zlt) (Any.slices_Sort_int_none zlt) 3 p0 H
theorem zfo (fuel:Nat) (p0:Wear) (p1:(List Int)) (p2:Int) (p3:Int) (p4:Int) (p5:Bool) (post:((List Int)×Int)→Option Unit) {r:Unit} (H:zct fuel p0 p1 p2 p3 p4 p5 post=some r):CtrN Tryz.prog 53 [.agg (zal p0),roL 1 zab p1,.int .i64 (p2),.int .i64 (p3),.int .i64 (p4),.bool (p5)] (fun (y:((List Int)×Int))=>.tup [roL 1 zab y.1,.int .i64 (y.2)]) (fun y=>post y=some r):=by
 unfold zct at H
 refine CtrN.zb5 (N:=59) Tryz.func53 (by kernel_rfl) (c:=_) rfl Tryz.ntmps53 rfl (fun w0 h0 hval=>?_)
 refine W.rg env [1,2,3,4,5,6] [6] ?_
 refine W.seq ?_
 obtain ⟨y1,hy2,H⟩:=zac H
 refine W.region env [] [⟨.tup [.agg (zak y1.1),.int .i64 (y1.2)],[],0,[]⟩] rfl rfl rfl .nil (.free (zde fuel p0 p1 p2 p3 p4 hy2) .nil) (At.kp [1,4,5,14,15] [14] ?_)
 refine At.zad (W.seq (W.rg env [1,4,5,14,15,31] [14] ?_))
 refine W.co H rfl (fun hb3 H=>?_) (fun hb3 H=>?_)
 · refine W.rg env [12,13] [] ?_
   refine W.ret (At.rthen ?_)
   exact At.retN env.ty ([],y1.2) H rfl rfl nofun (Sim.tupL (.cons (Sim.nil _ _) (.cons (.refl _) .nil))) hval
 · refine W.skip (At.zad (W.seq (W.zmt env [] 3 [] [] rfl rfl rfl rfl rfl rfl (fun _=>rfl) rfl .nil .nil (fun _=>.nil) (fun _=>.nil) (fun _=>rfl) (zfV fuel y1.1 p4 p5 _ H) (fun y4 H=>?_))))
   refine At.kp [1,16,17] [] ?_
   refine At.zad (W.seq (W.rg env [1,16,41] [] ?_))
   refine W.co H rfl (fun hb5 H=>?_) (fun hb5 H=>?_)
   · refine W.rg env [12,13] [] ?_
     refine W.ret (At.rthen ?_)
     exact At.retN env.ty ([],3) H rfl rfl nofun (Sim.tupL (.cons (Sim.nil _ _) (.cons (.refl _) .nil))) hval
   · refine W.skip (At.zad (W.rg env [1,16,18] [] ?_))
     refine W.seq (W.rg env [1,18,42,43,44] [] ?_)
     refine W.block (At.zfh 18 518 3 1 (e:=fun i=>zab (([]:List Int).getD i default)) rfl rfl ?_)
     refine At.kp [1,18,42,43,44] [518] ?_
     refine W.len (t:=42) rfl (fun hn6=>?_)
     refine W.zaq H (fun i6 (s6:(List Int))=>[(1,roL 1 zab p1),(18,.buf 518 (s6).length),(42,roL 1 zab y4.1),(43,.int .i64 (((y4.1.length:Nat):Int))),(44,.int .i64 ((i6:Int)))]) (fun i6 (s6:(List Int))=>[(518,bufL 3 1 zab s6)]) (.cons .q (.cons .qb (.cons .q (.cons .qi (.cons .qi .nil))))) (.cons .q .nil) (fun k6 i6 s6 hle6 H1 H2 K0 hK6=>?_)
     refine W.rg env [1,18,42,43,44,45] [518] ?_
     refine W.seq (W.cond rfl (fun hb7=>?_) (fun hb7=>?_))
     · have hi6:i6<y4.1.length:=ltD hb7
       have H:=H1 hi6
       refine W.skip (At.zad (W.seq (W.block (W.sr env [] [] [1,18,20,42,43,44] [518] rfl rfl rfl (.cons (inD hi6) .nil) .nil ?_))))
       obtain ⟨hc8,H⟩:=zaa H
       obtain ⟨hc9,H⟩:=zaa H
       refine W.region env [] [] rfl rfl rfl (.cons hc8 (.cons (rmI hc9) .nil)) .nil (At.kp [1,18,42,43,44] [518] ?_)
       refine At.zbb (.cons (y:=bufL 3 1 zab (s6++([(p1.getD ((y4.1.getD i6 default)).toNat default)]:List Int))) (BSim.seg (Seg.push (Seg.refl zab _) (Seg.lit (f:=zab) (sz:=1) ([(p1.getD ((y4.1.getD i6 default)).toNat default)]:List Int) rfl rfl (fun _=>rfl)))) .nil) ?_
       refine At.inb (At.zad (W.region env [] [] rfl rfl rfl (.cons (incD hi6 hn6) .nil) .nil (At.kp [1,18,42,43,44] [518] ?_)))
       refine At.zaF (At.kp [1,18,42,43,44] [518] ?_)
       exact At.conv (.cons .q (.cons .qb (.cons .q (.cons .qi (.cons .qi .nil))))) (.cons .q .nil) (hK6 hi6 (s6++([(p1.getD ((y4.1.getD i6 default)).toNat default)]:List Int)) H)
     · have H:=H2 (geD hb7)
       refine W.exit (At.xthen (At.xthen (At.xhere (At.zad (W.seq ?_)))))
       obtain ⟨y10,hy11,H⟩:=zac H
       obtain ⟨hc12,H⟩:=zaa H
       refine W.region env [] [⟨.tup [],[(518,bufL 3 1 zab y10)],0,[518]⟩] rfl rfl (by kernel_rfl) .nil (.free (CtrO.sim (CtrO.ren (zhM s6 hy11) [(90000,518)]) (.cons .qc .nil) (.cons (.refl _) .nil)) .nil) (At.kp [18] [518] ?_)
       refine At.zad (W.rg env [12,13] [518] ?_)
       exact W.ret (At.retN env.ty (y10,0) H rfl rfl (fun q hq=>by cases hq;exact (by first|rfl|(simp;done)|omega|(simp;omega))) (.refl _) hval)
theorem zem (fuel:Nat) (p0:(List Look)) (p1:Look) (p2:Look→Look→Option Int) (p2_g:Nat) (p2_a p2_b:List AV) (p2_h:∀ x0 x1 r,p2 x0 x1=some r→Ctr Tryz.prog p2_g (p2_a++([.agg [.int .i64 (x0.Source),.int .i64 (x0.Lamp),.int .i64 (x0.Night),.bool (x0.Bad),.int .i64 (x0.Known),.int .i64 (x0.Until)],.agg [.int .i64 (x1.Source),.int .i64 (x1.Lamp),.int .i64 (x1.Night),.bool (x1.Bad),.int .i64 (x1.Known),.int .i64 (x1.Until)]]++p2_b)) (.int .i64 (r))) {r:(Int×Bool)} (H:zbY fuel p0 p1 p2=some r):Ctr Tryz.prog 60 [roL 6 zaj p0,.agg [.int .i64 (p1.Source),.int .i64 (p1.Lamp),.int .i64 (p1.Night),.bool (p1.Bad),.int .i64 (p1.Known),.int .i64 (p1.Until)],.clo (.func p2_g) p2_a p2_b] (.tup [.int .i64 (r.1),.bool (r.2)]):=by
 unfold zbY at H
 refine Ctr.ob Tryz.func60 Tryz.ntmps60 (fun w0 h0 hval=>?_)
 refine W.rg env [0,2,4] [4] ?_
 refine W.rg env [0,2,4,8] [4] ?_
 refine W.rg env [0,2,4,8,9,10] [4] ?_
 refine W.seq (W.block (At.kp [0,2,4,8,9,10] [4] ?_))
 refine W.loopGo H (fun (s1:Int×Int)=>[(0,roL 6 zaj p0),(2,.clo (.func p2_g) p2_a p2_b),(4,.lp 4 0),(8,.int .i64 (((p0.length:Nat):Int))),(9,.int .i64 (s1.2)),(10,.int .i64 (s1.1))]) (fun (s1:Int×Int)=>[(4,.cells [.int .i64 (p1.Source),.int .i64 (p1.Lamp),.int .i64 (p1.Night),.bool (p1.Bad),.int .i64 (p1.Known),.int .i64 (p1.Until)])]) (.cons .q (.cons .q (.cons .q (.cons .qi (.cons .qi (.cons .qi .nil)))))) (.cons .q .nil) (fun k1 s1 H K0 hK1=>?_)
 refine W.seq (W.rg env [0,2,4,8,9,10,17] [4] ?_)
 refine W.co H rfl (fun hb2 H=>?_) (fun hb2 H=>?_)
 · refine W.skip (At.zad (W.block ?_))
   obtain ⟨hc3,H⟩:=zaa H
   obtain ⟨hc4,H⟩:=zaa H
   obtain ⟨hc5,H⟩:=zaa H
   refine W.sr env [] [] [0,2,4,8,9,10,11] [4] rfl rfl rfl (.cons hc3 (.cons hc4 (.cons (by decide) (.cons hc5 .nil)))) .nil ?_
   refine W.seq ?_
   obtain ⟨hc6,H⟩:=zaa H
   obtain ⟨y7,hy8,H⟩:=zac H
   refine W.region env [] [⟨.int .i64 (y7),[],0,[]⟩] rfl rfl (by kernel_rfl) (.cons hc6 .nil) (.free (p2_h (p0.getD ((Int.fdiv (s1.2+s1.1) (2 ^ (1:Int).toNat))).toNat default) p1 _ hy8) .nil) (At.kp [0,2,4,8,9,10,11,31] [4] ?_)
   refine At.zad (W.co H rfl (fun hb9 H=>?_) (fun hb9 H=>?_))
   · obtain ⟨hc10,H⟩:=zaa H
     refine W.r1 env hc10 [0,2,4,8,9,10] [4] ?_
     refine At.inb (At.zaF (At.kp [0,2,4,8,9,10] [4] ?_))
     exact At.conv (.cons .q (.cons .q (.cons .q (.cons .qi (.cons .qi (.cons .qi .nil)))))) (.cons .q .nil) (hK1 (s1.1,((Int.fdiv (s1.2+s1.1) (2 ^ (1:Int).toNat))+1)) H)
   · refine W.region env [] [] rfl rfl rfl .nil .nil (At.kp [0,2,4,8,9,10] [4] ?_)
     refine At.inb (At.zaF (At.kp [0,2,4,8,9,10] [4] ?_))
     exact At.conv (.cons .q (.cons .q (.cons .q (.cons .qi (.cons .qi (.cons .qi .nil)))))) (.cons .q .nil) (hK1 ((Int.fdiv (s1.2+s1.1) (2 ^ (1:Int).toNat)),s1.2) H)
 · refine W.exit (At.xthen (At.xthen (At.xhere (At.zad (W.seq ?_)))))
   obtain ⟨hc11,H⟩:=zaa H
   obtain ⟨y12,hy13,H⟩:=zac H
   refine W.region env [] [⟨.int .i64 (y12),[],0,[]⟩] rfl rfl (by kernel_rfl) (.cons hc11 (.cons id (.cons id (.cons id (.cons id (.cons id (.cons id (.cons id (.cons id .nil))))))))) (.on (fun hW=>p2_h (p0.getD (s1.2).toNat default) p1 _ (zbJ hy13 hW)) .nil) (At.kp [6,7] [] ?_)
   refine At.zad (W.ret ?_)
   cases H
   exact At.rz env hval
theorem zim (p0:Look) (p1:Look):Ctr Tryz.prog 61 [.agg [.int .i64 (p0.Source),.int .i64 (p0.Lamp),.int .i64 (p0.Night),.bool (p0.Bad),.int .i64 (p0.Known),.int .i64 (p0.Until)],.agg [.int .i64 (p1.Source),.int .i64 (p1.Lamp),.int .i64 (p1.Night),.bool (p1.Bad),.int .i64 (p1.Known),.int .i64 (p1.Until)]] (.int .i64 ((zc1 p0 p1))):=by
 obtain ⟨r,H⟩:∃ r,zc1 p0 p1=r:=⟨_,rfl⟩
 rw [H]
 unfold zc1 at H
 refine Ctr.ob Tryz.func61 Tryz.ntmps61 (fun w0 h0 hval=>?_)
 refine W.rg env [2,3] [2,3] ?_
 refine W.sr env [] [⟨.int .i64 ((zbs p0.Source p1.Source)),[],0,[]⟩] [4] [] rfl rfl rfl .nil (.free (zfp p0.Source p1.Source) .nil) ?_
 refine W.ret ?_
 cases H
 exact At.rz env hval
theorem zgT (p0:(List Batch)) {r:(List Batch)} (H:zdM p0=some r):Ctr Tryz.prog 63 [roL 3 zav p0] (roL 3 zav r):=by
 unfold zdM at H
 refine Ctr.ob Tryz.func63 Tryz.ntmps63 (fun w0 h0 hval=>?_)
 refine W.rg env [0] [] ?_
 refine W.seq (W.rg env [0,4] [] ?_)
 refine W.zhL rfl (fun hz=>?_) ?_
 · obtain rfl:p0=[]:=List.length_eq_zero_iff.1 hz
   obtain ⟨hc1,H⟩:=zaa H
   refine W.rg env [2] [] ?_
   refine W.ret (At.rthen ?_)
   cases H
   exact At.ret env.ty rfl rfl nofun (Sim.nil _ _) hval
 · refine W.skip (At.zad (W.seq ?_))
   obtain ⟨hc1,H⟩:=zaa H
   refine W.region env [5] [] rfl rfl rfl (.cons (rmI hc1) .nil) .nil (At.kp [2] [5] ?_)
   refine At.zbb (.cons (y:=bufL 31 3 zav (([]:List Batch)++p0)) (BSim.seg (Seg.push (Seg.lit (f:=zav) (sz:=3) ([]:List Batch) rfl rfl (fun _=>rfl)) (Seg.refl zav p0))) .nil) ?_
   refine At.zad (W.ret ?_)
   cases H
   exact At.ret env.ty rfl rfl (fun q hq=>by cases hq;exact (by first|rfl|(simp;done)|omega|(simp;omega))) (.refl _) hval
theorem zgn (p0:(List Mantle)) {r:(List Mantle)} (H:zdw p0=some r):Ctr Tryz.prog 64 [roL 6 zao p0] (roL 6 zao r):=by
 unfold zdw at H
 refine Ctr.ob Tryz.func64 Tryz.ntmps64 (fun w0 h0 hval=>?_)
 refine W.rg env [0] [] ?_
 refine W.seq (W.rg env [0,4] [] ?_)
 refine W.zhL rfl (fun hz=>?_) ?_
 · obtain rfl:p0=[]:=List.length_eq_zero_iff.1 hz
   obtain ⟨hc1,H⟩:=zaa H
   refine W.rg env [2] [] ?_
   refine W.ret (At.rthen ?_)
   cases H
   exact At.ret env.ty rfl rfl nofun (Sim.nil _ _) hval
 · refine W.skip (At.zad (W.seq ?_))
   obtain ⟨hc1,H⟩:=zaa H
   refine W.region env [5] [] rfl rfl rfl (.cons (rmI hc1) .nil) .nil (At.kp [2] [5] ?_)
   refine At.zbb (.cons (y:=bufL 33 6 zao (([]:List Mantle)++p0)) (BSim.seg (Seg.push (Seg.lit (f:=zao) (sz:=6) ([]:List Mantle) rfl rfl (fun _=>rfl)) (Seg.refl zao p0))) .nil) ?_
   refine At.zad (W.ret ?_)
   cases H
   exact At.ret env.ty rfl rfl (fun q hq=>by cases hq;exact (by first|rfl|(simp;done)|omega|(simp;omega))) (.refl _) hval
theorem zhj (p0:(List Burn)) {r:(List Burn)} (H:zdX p0=some r):Ctr Tryz.prog 65 [roL 7 zaA p0] (roL 7 zaA r):=by
 unfold zdX at H
 refine Ctr.ob Tryz.func65 Tryz.ntmps65 (fun w0 h0 hval=>?_)
 refine W.rg env [0] [] ?_
 refine W.seq (W.rg env [0,4] [] ?_)
 refine W.zhL rfl (fun hz=>?_) ?_
 · obtain rfl:p0=[]:=List.length_eq_zero_iff.1 hz
   obtain ⟨hc1,H⟩:=zaa H
   refine W.rg env [2] [] ?_
   refine W.ret (At.rthen ?_)
   cases H
   exact At.ret env.ty rfl rfl nofun (Sim.nil _ _) hval
 · refine W.skip (At.zad (W.seq ?_))
   obtain ⟨hc1,H⟩:=zaa H
   refine W.region env [5] [] rfl rfl rfl (.cons (rmI hc1) .nil) .nil (At.kp [2] [5] ?_)
   refine At.zbb (.cons (y:=bufL 35 7 zaA (([]:List Burn)++p0)) (BSim.seg (Seg.push (Seg.lit (f:=zaA) (sz:=7) ([]:List Burn) rfl rfl (fun _=>rfl)) (Seg.refl zaA p0))) .nil) ?_
   refine At.zad (W.ret ?_)
   cases H
   exact At.ret env.ty rfl rfl (fun q hq=>by cases hq;exact (by first|rfl|(simp;done)|omega|(simp;omega))) (.refl _) hval
theorem zmS (p0:(List Look)) {r:(List Look)} (H:zbE p0=some r):Ctr Tryz.prog 67 [roL 6 zaj p0] (roL 6 zaj r):=by
 unfold zbE at H
 refine Ctr.ob Tryz.func67 Tryz.ntmps67 (fun w0 h0 hval=>?_)
 refine W.rg env [0] [] ?_
 refine W.seq (W.rg env [0,4] [] ?_)
 refine W.zhL rfl (fun hz=>?_) ?_
 · obtain rfl:p0=[]:=List.length_eq_zero_iff.1 hz
   obtain ⟨hc1,H⟩:=zaa H
   refine W.rg env [2] [] ?_
   refine W.ret (At.rthen ?_)
   cases H
   exact At.ret env.ty rfl rfl nofun (Sim.nil _ _) hval
 · refine W.skip (At.zad (W.seq ?_))
   obtain ⟨hc1,H⟩:=zaa H
   refine W.region env [5] [] rfl rfl rfl (.cons (rmI hc1) .nil) .nil (At.kp [2] [5] ?_)
   refine At.zbb (.cons (y:=bufL 37 6 zaj (([]:List Look)++p0)) (BSim.seg (Seg.push (Seg.lit (f:=zaj) (sz:=6) ([]:List Look) rfl rfl (fun _=>rfl)) (Seg.refl zaj p0))) .nil) ?_
   refine At.zad (W.ret ?_)
   cases H
   exact At.ret env.ty rfl rfl (fun q hq=>by cases hq;exact (by first|rfl|(simp;done)|omega|(simp;omega))) (.refl _) hval
theorem zdj (p0:(List Look)) {r:(List Look)} (H:zbE p0=some r):CtrO Tryz.prog 67 [roL 6 zaj p0] [] (.buf 900 r.length) [(900,bufL 37 6 zaj r)]:=by
 unfold zbE at H
 refine CtrO.zb5 (N:=8) Tryz.func67 (by kernel_rfl) (c:=_) rfl Tryz.ntmps67 rfl (fun w0 h0 ρb hval hdom=>?_)
 refine W.rg env [0] [] ?_
 refine W.seq (W.rg env [0,4] [] ?_)
 refine W.zhL rfl (fun hz=>?_) ?_
 · obtain rfl:p0=[]:=List.length_eq_zero_iff.1 hz
   obtain ⟨hc1,H⟩:=zaa H
   refine W.rg env [2] [] ?_
   refine W.ret (At.rthen ?_)
   cases H
   refine At.zfh 2 800 37 6 (e:=fun i=>zaj (([]:List Look).getD i default)) rfl rfl ?_
   exact At.retK env.ty [800] 100 rfl rfl rfl rfl (.cons (.refl _) .nil) (.of_eq (by refine zhT ?_;first|(simp [zbA];done)|omega|(simp [zbA];omega)|rfl)) hval hdom rfl
 · refine W.skip (At.zad (W.seq ?_))
   obtain ⟨hc1,H⟩:=zaa H
   refine W.region env [5] [] rfl rfl rfl (.cons (rmI hc1) .nil) .nil (At.kp [2] [5] ?_)
   refine At.zbb (.cons (y:=bufL 37 6 zaj (([]:List Look)++p0)) (BSim.seg (Seg.push (Seg.lit (f:=zaj) (sz:=6) ([]:List Look) rfl rfl (fun _=>rfl)) (Seg.refl zaj p0))) .nil) ?_
   refine At.zad (W.ret ?_)
   cases H
   exact At.retK env.ty [5] 895 rfl rfl rfl rfl (.cons (.refl _) .nil) (.of_eq (by refine zhT ?_;first|(simp [zbA];done)|omega|(simp [zbA];omega)|rfl)) hval hdom rfl
theorem zgk (p0:List Look) (p1:Int) (p2:Look) {r:List Look} (H:zdK p0 p1 p2=some r):CtrO Tryz.prog 66 [.buf 700 p0.length,.int .i64 p1,.buf 701 1] [(700,bufL 37 6 zaj p0),(701,bufL 37 6 zaj [p2])] (.buf 900 r.length) [(701,bufL 37 6 zaj [p2]),(700,.dead),(900,bufL 37 6 zaj r)]:=by
 unfold zdK at H
 obtain ⟨h1,H⟩:=zaa H
 obtain ⟨h2,H⟩:=zaa H
 cases H
 exact zn3 (Go.Av.enters_of Tryz.func66 (by kernel_rfl) (c:=_) rfl) zlP zlQ (by kernel_rfl) (by kernel_rfl) (env.ty 37 _ rfl) rfl (by decide) zaj p0 p1 p2 h1 h2
theorem zjG (fuel:Nat) (p0:Wear) (p1:Look) {r:(Wear×Int)} (H:zfD fuel p0 p1=some r):Ctr Tryz.prog 14 [.agg (zal p0),.agg [.int .i64 (p1.Source),.int .i64 (p1.Lamp),.int .i64 (p1.Night),.bool (p1.Bad),.int .i64 (p1.Known),.int .i64 (p1.Until)]] (.tup [.agg (zal r.1),.int .i64 (r.2)]):=by
 unfold zfD at H
 refine Ctr.ob Tryz.func14 Tryz.ntmps14 (fun w0 h0 hval=>?_)
 refine W.rg env [2,3,4] [2,3,4] ?_
 refine W.seq (W.seq ?_)
 obtain ⟨y1,hy2,H⟩:=zac H
 refine W.region env [] [⟨.int .i64 (y1),[],0,[]⟩] rfl rfl rfl .nil (.free (zd9 p0 hy2) .nil) (At.kp [2,3,4,6] [2,3,4] ?_)
 refine At.zad (W.rg env [2,3,4,6,13] [2,3,4] ?_)
 refine W.co H rfl (fun hb3 H=>?_) (fun hb3 H=>?_)
 · refine W.rg env [4,5] [4] ?_
   refine W.ret (At.rthen ?_)
   cases H
   exact At.ret env.ty rfl rfl nofun (Sim.tupL (.cons (Sim.aggL (.cons (Sim.nil _ _) (.cons (Sim.nil _ _) (.cons (Sim.nil _ _) (.cons (Sim.nil _ _) .nil))))) (.cons (.refl _) .nil))) hval
 · refine W.skip (At.zad (W.seq ?_))
   obtain ⟨y4,hy5,H⟩:=zac H
   refine W.region env [] [⟨.tup [.int .i64 (y4.1),.bool (y4.2)],[],0,[]⟩] rfl rfl rfl .nil (.free (zem fuel p0.Looks p1 (fun x0 x1=>some (zc1 x0 x1)) 61 [] [] (fun x0 x1 r h=>by cases h;exact zim x0 x1) hy5) .nil) (At.kp [2,3,4,7,8] [2,3,4] ?_)
   refine At.zad (W.seq (W.block (W.sr env [] [⟨.int .i64 ((za4 p1)),[],0,[]⟩] [2,3,4,7,23] [2,3,4] rfl rfl rfl (.cons (fun h=>by rw [h];rfl) .nil) (.free (zeY p1) .nil) ?_)))
   refine W.co H rfl (fun hb6 H=>?_) (fun hb6 H=>?_)
   · refine W.rg env [4,5] [4] ?_
     refine W.ret (At.rinb ?_)
     refine At.rthen ?_
     cases H
     exact At.ret env.ty rfl rfl nofun (Sim.tupL (.cons (Sim.aggL (.cons (Sim.nil _ _) (.cons (Sim.nil _ _) (.cons (Sim.nil _ _) (.cons (Sim.nil _ _) .nil))))) (.cons (.refl _) .nil))) hval
   · refine W.rg env [2,3,4,7,31] [2,3,4] ?_
     refine W.co H rfl (fun hb7 H=>?_) (fun hb7 H=>?_)
     · refine W.rg env [4,5] [4] ?_
       refine W.ret (At.rinb ?_)
       refine At.rthen ?_
       cases H
       exact At.ret env.ty rfl rfl nofun (Sim.tupL (.cons (Sim.aggL (.cons (Sim.nil _ _) (.cons (Sim.nil _ _) (.cons (Sim.nil _ _) (.cons (Sim.nil _ _) .nil))))) (.cons (.refl _) .nil))) hval
     · refine W.skip (At.inb (At.zad (W.seq ?_)))
       obtain ⟨y8,hy9,H⟩:=zac H
       obtain ⟨y10,hy11,H⟩:=zac H
       obtain ⟨y12,hy13,H⟩:=zac H
       refine W.region env [] [⟨roL 3 zav y8,[],0,[]⟩,⟨roL 6 zao y10,[],0,[]⟩,⟨roL 7 zaA y12,[],0,[]⟩] rfl rfl (by kernel_rfl) .nil (.free (zgT p0.Batches hy9) (.free (zgn p0.Mantles hy11) (.free (zhj p0.Burns hy13) .nil))) (At.kp [2,3,4,7,9] [2,3,4,9] ?_)
       refine At.zad (W.seq ?_)
       obtain ⟨y14,hy15,H⟩:=zac H
       obtain ⟨y16,hy17,H⟩:=zac H
       refine W.region env [52] [⟨.buf 900 y14.length,[(900,bufL 37 6 zaj y14)],50000,[]⟩,⟨.buf 54900 y16.length,[(52,bufL 37 6 zaj ([p1]:List Look)),(50900,.dead),(54900,bufL 37 6 zaj y16)],0,[50900,52]⟩] rfl rfl (by kernel_rfl) .nil (.free ((Ctr.ofO (zdj p0.Looks hy15))) (.free (CtrO.sim (CtrO.ren (zgk y14 y4.1 p1 hy17) [(700,50900),(701,52),(900,54900)]) (.cons .qc (.cons (.refl _) (.cons .qc .nil))) (.cons (.refl _) (.cons (BSim.seg (Seg.lit (f:=zaj) (sz:=6) ([p1]:List Look) rfl rfl (fun _=>rfl))) .nil))) .nil)) (At.kp [4,9] [4,9,54900] ?_)
       refine At.zad (W.rg env [4,5] [4,54900] ?_)
       refine W.ret ?_
       cases H
       exact At.ret env.ty rfl rfl (fun q hq=>by cases hq;exact (by first|rfl|(simp;done)|omega|(simp;omega))) (.refl _) hval
theorem zfK (p0:(List Look)) (p1:Look→Option Bool) (p1_g:Nat) (p1_a p1_b:List AV) (p1_h:∀ x0 r,p1 x0=some r→Ctr Tryz.prog p1_g (p1_a++([.agg [.int .i64 (x0.Source),.int .i64 (x0.Lamp),.int .i64 (x0.Night),.bool (x0.Bad),.int .i64 (x0.Known),.int .i64 (x0.Until)]]++p1_b)) (.bool (r))) {r:Int} (H:zcX p0 p1=some r):Ctr Tryz.prog 160 [roL 6 zaj p0,.clo (.func p1_g) p1_a p1_b] (.int .i64 (r)):=by
 unfold zcX at H
 refine Ctr.ob Tryz.func160 Tryz.ntmps160 (fun w0 h0 hval=>?_)
 refine W.rg env [0,1] [] ?_
 refine W.seq (W.rg env [0,1,7,8] [] ?_)
 refine W.block (At.kp [0,1,7,8] [] ?_)
 refine W.len (t:=0) rfl (fun hn1=>?_)
 refine W.zaq H (fun i1 (s1:Unit)=>[(0,roL 6 zaj p0),(1,.clo (.func p1_g) p1_a p1_b),(7,.int .i64 (((p0.length:Nat):Int))),(8,.int .i64 ((i1:Int)))]) (fun i1 (s1:Unit)=>[]) (.cons .q (.cons .q (.cons .qi (.cons .qi .nil)))) .nil (fun k1 i1 s1 hle1 H1 H2 K0 hK1=>?_)
 refine W.rg env [0,1,7,8,9] [] ?_
 refine W.seq (W.cond rfl (fun hb2=>?_) (fun hb2=>?_))
 · have hi1:i1<p0.length:=ltD hb2
   have H:=H1 hi1
   refine W.skip (At.zad (W.seq (W.block (W.rg env [0,1,5,7,8] [] ?_))))
   refine W.seq ?_
   obtain ⟨y3,hy4,H⟩:=zac H
   refine W.region env [] [⟨.bool (y3),[],0,[]⟩] rfl rfl rfl (.cons (inD hi1) .nil) (.free (p1_h (p0.getD i1 default) _ hy4) .nil) (At.kp [0,1,5,7,8,16] [] ?_)
   refine At.zad (W.co H rfl (fun hb5 H=>?_) (fun hb5 H=>?_))
   · refine W.rg env [4] [] ?_
     refine W.ret (At.rinb ?_)
     refine At.rthen ?_
     refine At.rthen ?_
     refine At.rinb ?_
     refine At.rthen ?_
     cases H
     exact At.rz env hval
   · refine W.skip (At.inb (At.zad (W.region env [] [] rfl rfl rfl (.cons (incD hi1 hn1) .nil) .nil (At.kp [0,1,7,8] [] ?_))))
     refine At.zaF (At.kp [0,1,7,8] [] ?_)
     exact At.conv (.cons .q (.cons .q (.cons .qi (.cons .qi .nil)))) .nil (hK1 hi1 () H)
 · have H:=H2 (geD hb2)
   refine W.exit (At.xthen (At.xthen (At.xhere (At.zad (W.rg env [4] [] ?_)))))
   refine W.ret ?_
   cases H
   exact At.rz env hval
theorem ze5 (fuel:Nat) (p0:(List Look)) (p1:Look→Option Bool) (p1_g:Nat) (p1_a p1_b:List AV) (p1_h:∀ x0 r,p1 x0=some r→Ctr Tryz.prog p1_g (p1_a++([.agg [.int .i64 (x0.Source),.int .i64 (x0.Lamp),.int .i64 (x0.Night),.bool (x0.Bad),.int .i64 (x0.Known),.int .i64 (x0.Until)]]++p1_b)) (.bool (r))) {r:(List Look)} (H:zcP fuel p0 p1=some r):CtrO Tryz.prog 118 [.buf 700 (p0).length,.clo (.func p1_g) p1_a p1_b] [(700,bufL 37 6 zaj p0)] (.buf 900 r.length) [(900,bufL 37 6 zaj r)]:=by
 unfold zcP at H
 refine CtrO.zb5 (N:=42) Tryz.func118 (by kernel_rfl) (c:=_) rfl Tryz.ntmps118 rfl (fun w0 h0 ρb hval hdom=>?_)
 refine W.rg env [0,1] [700] ?_
 refine W.seq ?_
 obtain ⟨y1,hy2,H⟩:=zac H
 refine W.region env [] [⟨.int .i64 (y1),[],0,[]⟩] rfl rfl rfl (.cons (by first|rfl|(simp;done)|omega|(simp;omega)) .nil) (.free (zfK p0 p1 p1_g p1_a p1_b p1_h hy2) .nil) (At.kp [0,1,5] [700] ?_)
 refine At.zad (W.seq (W.rg env [0,1,5,12] [700] ?_))
 refine W.co H rfl (fun hb3 H=>?_) (fun hb3 H=>?_)
 · refine W.rg env [4] [700] ?_
   refine W.ret (At.rthen ?_)
   cases H
   exact At.retK env.ty [700] 200 rfl rfl rfl rfl (.cons (.refl _) .nil) (.of_eq (by refine zhT ?_;first|(simp [zbA];done)|omega|(simp [zbA];omega)|rfl)) hval hdom rfl
 · refine W.skip (At.zad (W.seq ?_))
   obtain ⟨hc4,H⟩:=zaa H
   refine W.sr env [] [] [0,1,5,6] [700] rfl rfl rfl (.cons hc4 .nil) .nil ?_
   refine W.block (At.kp [0,1,5,6] [700] ?_)
   refine W.loopGo H (fun (s5:Int×Int×(List Look))=>[(0,.buf 700 (s5.2.2).length),(1,.clo (.func p1_g) p1_a p1_b),(5,.int .i64 (s5.1)),(6,.int .i64 (s5.2.1))]) (fun (s5:Int×Int×(List Look))=>[(700,bufL 37 6 zaj s5.2.2)]) (.cons .qb (.cons .q (.cons .qi (.cons .qi .nil)))) (.cons .q .nil) (fun k5 s5 H K0 hK5=>?_)
   refine W.seq (W.sr env [] [] [0,1,5,6,19] [700] rfl rfl rfl (.cons (by first|rfl|(simp;done)|omega|(simp;omega)) .nil) .nil ?_)
   refine W.co H rfl (fun hb6 H=>?_) (fun hb6 H=>?_)
   · refine W.skip (At.zad (W.seq (W.block ?_)))
     obtain ⟨hc7,H⟩:=zaa H
     refine W.sr env [] [] [0,1,5,6,7] [7,700] rfl rfl rfl (.cons (⟨by first|rfl|(simp;done)|omega|(simp;omega),hc7⟩) (.cons (⟨by first|rfl|(simp;done)|omega|(simp;omega),(by have:=hc7;first|omega|(simp only [List.length_set];omega)|(simp only [Int.toNat_natCast] at *;omega)|(simp at this ⊢;omega))⟩) .nil)) .nil ?_
     refine W.seq ?_
     obtain ⟨y8,hy9,H⟩:=zac H
     refine W.region env [] [⟨.bool (y8),[],0,[]⟩] rfl rfl rfl .nil (.free (p1_h (s5.2.2.getD (s5.2.1).toNat default) _ hy9) .nil) (At.kp [0,1,5,6,7,29] [7,700] ?_)
     refine At.zad (W.co H rfl (fun hb10 H=>?_) (fun hb10 H=>?_))
     · refine W.seq ?_
       obtain ⟨hc11,H⟩:=zaa H
       refine W.region env [] [] rfl rfl rfl (.cons (⟨by first|rfl|(simp;done)|omega|(simp;omega),hc11⟩) (.cons (⟨by first|rfl|(simp;done)|omega|(simp;omega),(by have:=hc11;first|omega|(simp only [List.length_set];omega)|(simp only [Int.toNat_natCast] at *;omega)|(simp at this ⊢;omega))⟩) .nil)) .nil (At.kp [0,1,5,6] [700] ?_)
       refine At.zbb (.cons (y:=bufL 37 6 zaj (s5.2.2.set (s5.1).toNat (s5.2.2.getD (s5.2.1).toNat default))) (BSim.seg (Seg.set (Seg.refl zaj _) (s5.2.2.getD (s5.2.1).toNat default) rfl)) .nil) ?_
       refine At.zad ?_
       obtain ⟨hc12,H⟩:=zaa H
       refine W.r1 env hc12 [0,1,5,6] [700] ?_
       refine At.inb (At.zad ?_)
       obtain ⟨hc13,H⟩:=zaa H
       refine W.r1 env hc13 [0,1,5,6] [700] ?_
       refine At.zaF (At.kp [0,1,5,6] [700] ?_)
       exact At.conv (.cons .qb (.cons .q (.cons .qi (.cons .qi .nil)))) (.cons .q .nil) (hK5 ((s5.1+1),(s5.2.1+1),(s5.2.2.set (s5.1).toNat (s5.2.2.getD (s5.2.1).toNat default))) H)
     · refine W.skip (At.inb (At.zad ?_))
       obtain ⟨hc14,H⟩:=zaa H
       refine W.r1 env hc14 [0,1,5,6] [700] ?_
       refine At.zaF (At.kp [0,1,5,6] [700] ?_)
       exact At.conv (.cons .qb (.cons .q (.cons .qi (.cons .qi .nil)))) (.cons .q .nil) (hK5 (s5.1,(s5.2.1+1),s5.2.2) H)
   · refine W.exit (At.xthen (At.xthen (At.xhere (At.zad (W.seq ?_)))))
     obtain ⟨hc15,H⟩:=zaa H
     refine W.region env [] [] rfl rfl rfl (.cons (⟨by first|rfl|(simp;done)|omega|(simp;omega),hc15⟩) (.cons (⟨by first|rfl|(simp;done)|omega|(simp;omega),(by have:=hc15;omega),(by have:=hc15;omega)⟩) .nil)) .nil (At.kp [0,5] [700] ?_)
     refine At.zbb (.cons (y:=bufL 37 6 zaj (zbA s5.2.2 ((s5.1).toNat) (s5.2.2.length - (s5.1).toNat) (fun _=>(⟨0,0,0,false,0,0⟩:Look)))) (BSim.seg (Seg.cleared (a:=(s5.1).toNat) (b:=s5.2.2.length) (Seg.refl zaj _) (⟨0,0,0,false,0,0⟩:Look) rfl (by have:=hc15;omega))) .nil) ?_
     refine At.zad ?_
     obtain ⟨hc16,H⟩:=zaa H
     refine W.sr env [] [] [4] [700] rfl rfl rfl (.cons (⟨by first|rfl|(simp [zhB];done)|(simp [zhB];omega),hc16⟩) .nil) .nil ?_
     refine W.ret ?_
     cases H
     refine At.shrink 4 700 850 (K:=[]) (ts:=[]) rfl rfl (by first|rfl|(simp;done)|omega|(simp;omega)) (by have:=hc16;omega) rfl rfl rfl rfl ?_
     refine At.zbb (.cons (y:=bufL 37 6 zaj ((zbA s5.2.2 ((s5.1).toNat) (s5.2.2.length - (s5.1).toNat) (fun _=>(⟨0,0,0,false,0,0⟩:Look))).take ((s5.1).toNat))) (BSim.seg (Seg.first (Seg.refl zaj _) (by have:=hc16;omega))) .nil) ?_
     exact At.retK env.ty [850] 50 rfl rfl rfl rfl (.cons (.refl _) .nil) (.of_eq (by refine zhT ?_;first|(simp [zbA];done)|omega|(simp [zbA];omega)|rfl)) hval hdom rfl
theorem zhO (p0:Look) (c0:Int) (c1:Wear) {r:Bool} (H:zdt p0 c0 c1=some r):Ctr Tryz.prog 157 [.agg [.int .i64 (p0.Source),.int .i64 (p0.Lamp),.int .i64 (p0.Night),.bool (p0.Bad),.int .i64 (p0.Known),.int .i64 (p0.Until)],.rp [.int .i64 (c0)],.rp (zal c1)] (.bool (r)):=by
 unfold zdt at H
 refine Ctr.ob Tryz.func157 Tryz.ntmps157 (fun w0 h0 hval=>?_)
 refine W.rg env [1,2,3] [3] ?_
 refine W.seq ?_
 obtain ⟨y1,hy2,H⟩:=zac H
 refine W.region env [] [⟨.bool ((zap p0.Known p0.Until c0)),[],0,[]⟩,⟨.int .i64 (y1),[],0,[]⟩] rfl rfl rfl (.cons id (.cons id (.cons id (.cons id (.cons id (.cons id (.cons id (.cons (fun h=>by rw [h];rfl) .nil)))))))) (.free (zc8 p0.Known p0.Until c0) (.on (fun hW=>zc7 c1 p0.Lamp p0.Night c0 (zbJ hy2 hW)) .nil)) (At.kp [4] [] ?_)
 refine At.zad (W.ret ?_)
 cases H
 exact At.rz env hval
theorem ziF (fuel:Nat) (p0:Wear) (p1:Int) {r:(List Look)} (H:ze4 fuel p0 p1=some r):Ctr Tryz.prog 108 [.agg (zal p0),.int .i64 (p1)] (roL 6 zaj r):=by
 unfold ze4 at H
 refine Ctr.ob Tryz.func108 Tryz.ntmps108 (fun w0 h0 hval=>?_)
 refine W.rg env [2,3] [2,3] ?_
 refine W.seq (At.zmH 2 (K:=[3]) (ts:=[2,3]) rfl rfl rfl rfl rfl (fun _ h=>h) ?_)
 refine At.zmH 3 (K:=[]) (ts:=[2,3]) rfl rfl rfl rfl rfl (fun _ h=>h) ?_
 obtain ⟨y1,hy2,H⟩:=zac H
 obtain ⟨y3,hy4,H⟩:=zac H
 refine W.region env [] [⟨.buf 900 y1.length,[(900,bufL 37 6 zaj y1)],8000,[]⟩,⟨.buf 900 y3.length,[(8900,.dead),(900,bufL 37 6 zaj y3)],10000,[]⟩] rfl rfl (by kernel_rfl) .nil (.free ((Ctr.ofO (zdj p0.Looks hy2))) (.free (CtrO.sim (CtrO.at (ze5 fuel y1 (fun x0=>zdt x0 p1 p0) 157 [] ([.rp [.int .i64 (p1)],.rp (zal p0)]) (fun x0 r h=>zhO x0 p1 p0 h) hy4) rfl 8900) (.cons .qc (.cons (Sim.fnClo rfl) .nil)) (.cons (.refl _) .nil)) .nil)) (At.kp [4] [10900] ?_)
 refine At.zad (W.ret ?_)
 cases H
 exact At.ret env.ty rfl rfl (fun q hq=>by cases hq;exact (by first|rfl|(simp;done)|omega|(simp;omega))) (.refl _) hval
theorem zgh (p0:(List Look)) (p1:Int) (p2:Int) {r:(List Look)} (H:zdL p0 p1 p2=some r):CtrO Tryz.prog 158 [.buf 700 (p0).length,.int .i64 (p1),.int .i64 (p2)] [(700,bufL 37 6 zaj p0)] (.buf 900 r.length) [(900,bufL 37 6 zaj r)]:=by
 unfold zdL at H
 refine CtrO.zb5 (N:=33) Tryz.func158 (by kernel_rfl) (c:=_) rfl Tryz.ntmps158 rfl (fun w0 h0 ρb hval hdom=>?_)
 refine W.rg env [0,1,2] [700] ?_
 obtain ⟨hc1,H⟩:=zaa H
 refine W.sr env [] [] [0,1,2] [700] rfl rfl rfl (.cons (by first|rfl|(simp;done)|omega|(simp;omega)) (.cons (⟨by first|rfl|(simp;done)|omega|(simp;omega),hc1⟩) .nil)) .nil ?_
 refine W.seq (W.rg env [0,1,2,16] [700] ?_)
 refine W.co H rfl (fun hb2 H=>?_) (fun hb2 H=>?_)
 · refine W.rg env [6] [700] ?_
   refine W.ret (At.rthen ?_)
   cases H
   exact At.retK env.ty [700] 200 rfl rfl rfl rfl (.cons (.refl _) .nil) (.of_eq (by refine zhT ?_;first|(simp [zbA];done)|omega|(simp [zbA];omega)|rfl)) hval hdom rfl
 · refine W.skip (At.zad (W.sr env [] [] [0,1,2,7] [700] rfl rfl rfl (.cons (by first|rfl|(simp;done)|omega|(simp;omega)) .nil) .nil ?_))
   refine W.seq ?_
   obtain ⟨hc3,H⟩:=zaa H
   obtain ⟨hc4,H⟩:=zaa H
   obtain ⟨hc5,H⟩:=zaa H
   refine W.region env [] [] rfl rfl (by first|rfl|kernel_rfl) (.cons (⟨by first|rfl|(simp;done)|omega|(simp;omega),hc3⟩) (.cons (⟨by first|rfl|(simp;done)|omega|(simp;omega),hc4⟩) (.cons (⟨rfl,rfl,by omega,by omega,by omega⟩) .nil))) .nil (At.kp [0,7] [26] ?_)
   refine At.zbb (.cons (y:=zrh 37 6 p0.length zaj (p0.take ((p1).toNat)++p0.drop ((p2).toNat))) (BSim.kseg (Seg.moved (f:=zaj) (l:=p0) ((p1).toNat) ((p2).toNat) (by omega) (by omega))) .nil) ?_
   refine At.zad (W.seq ?_)
   obtain ⟨hc6,H⟩:=zaa H
   refine W.region env [] [] rfl rfl rfl (.cons (by first|rfl|(simp;done)|omega|(simp;omega)) (.cons (⟨by first|rfl|(simp;done)|omega|(simp;omega),hc6⟩) (.cons (⟨by first|rfl|(simp;done)|omega|(simp;omega),by first|rfl|(simp;done)|omega|(simp;omega),by first|omega|(simp;omega)⟩) .nil))) .nil (At.kp [0] [26] ?_)
   refine At.zbb (.cons (y:=zrh 37 6 p0.length zaj (p0.take ((p1).toNat)++p0.drop ((p2).toNat))) (BSim.kseg (Seg.refl zaj _)) .nil) ?_
   refine At.zad (W.rg env [6] [26] ?_)
   refine W.ret ?_
   cases H
   exact At.retK env.ty [26] 874 rfl rfl rfl rfl (.cons (.bufk (.refl _)) .nil) (.of_eq (by refine zhT ?_;first|(simp [zbA];done)|omega|(simp [zbA];omega)|rfl)) hval hdom rfl
theorem zle (p0:(List Look)) (p1:Int) {r:(List Look)} (H:zhb p0 p1=some r):Ctr Tryz.prog 109 [roL 6 zaj p0,.int .i64 (p1)] (roL 6 zaj r):=by
 unfold zhb at H
 refine Ctr.ob Tryz.func109 Tryz.ntmps109 (fun w0 h0 hval=>?_)
 refine W.rg env [0,1] [] ?_
 refine W.seq ?_
 obtain ⟨y1,hy2,H⟩:=zac H
 obtain ⟨hc3,H⟩:=zaa H
 obtain ⟨y4,hy5,H⟩:=zac H
 refine W.region env [] [⟨.buf 900 y1.length,[(900,bufL 37 6 zaj y1)],7000,[]⟩,⟨.buf 900 y4.length,[(7900,.dead),(900,bufL 37 6 zaj y4)],11000,[]⟩] rfl rfl (by kernel_rfl) (.cons hc3 .nil) (.free ((Ctr.ofO (zdj p0 hy2))) (.free (CtrO.sim (CtrO.at (zgh y1 p1 (p1+1) hy5) rfl 7900) (.cons .qc (.cons (.refl _) (.cons (.refl _) .nil))) (.cons (.refl _) .nil)) .nil)) (At.kp [4] [11900] ?_)
 refine At.zad (W.ret ?_)
 cases H
 exact At.ret env.ty rfl rfl (fun q hq=>by cases hq;exact (by first|rfl|(simp;done)|omega|(simp;omega))) (.refl _) hval
theorem zjT (fuel:Nat) (p0:Wear) (p1:Int) {r:((List Int)×Int)} (H:zf8 fuel p0 p1=some r):Ctr Tryz.prog 42 [.agg (zal p0),.int .i64 (p1)] (.tup [roL 1 zab r.1,.int .i64 (r.2)]):=by
 unfold zf8 at H
 refine Ctr.ob Tryz.func42 Tryz.ntmps42 (fun w0 h0 hval=>?_)
 refine W.rg env [1,2] [2] ?_
 refine W.seq (W.seq ?_)
 obtain ⟨y1,hy2,H⟩:=zac H
 refine W.region env [] [⟨.int .i64 (y1),[],0,[]⟩] rfl rfl rfl .nil (.free (Ctr.sim (.cons (.refl _) (.cons (Sim.lit (f:=zab) ([p1]:List Int) rfl rfl (fun _=>rfl)) .nil)) (zeN p0 ([p1]:List Int) hy2)) .nil) (At.kp [1,2,6] [2] ?_)
 refine At.zad (W.rg env [1,2,6,18] [2] ?_)
 refine W.co H rfl (fun hb3 H=>?_) (fun hb3 H=>?_)
 · refine W.rg env [4,5] [] ?_
   refine W.ret (At.rthen ?_)
   cases H
   exact At.ret env.ty rfl rfl nofun (Sim.tupL (.cons (Sim.nil _ _) (.cons (.refl _) .nil))) hval
 · refine W.skip (At.zad (W.seq ?_))
   obtain ⟨y4,hy5,H⟩:=zac H
   refine W.region env [] [⟨roL 6 zaj y4,[],0,[]⟩] rfl rfl rfl .nil (.free (ziF fuel p0 p1 hy5) .nil) (At.kp [1,2,7] [2] ?_)
   refine At.zad (W.seq (W.seq ?_))
   obtain ⟨y6,hy7,H⟩:=zac H
   obtain ⟨y8,hy9,H⟩:=zac H
   refine W.region env [] [⟨.agg (zaK y6),[],0,[]⟩,⟨.bool (y8),[],0,[]⟩] rfl rfl rfl .nil (.free (zdR fuel p0 y4 p1 hy7) (.free (zbh y6 hy9) .nil)) (At.kp [1,2,7,27] [2] ?_)
   refine At.zad (W.co H rfl (fun hb10 H=>?_) (fun hb10 H=>?_))
   · refine W.rg env [4,5] [] ?_
     refine W.ret (At.rthen ?_)
     cases H
     exact At.ret env.ty rfl rfl nofun (Sim.tupL (.cons (Sim.nil _ _) (.cons (.refl _) .nil))) hval
   · refine W.skip (At.zad (W.seq ?_))
     obtain ⟨hc11,H⟩:=zaa H
     refine W.sr env [] [] [1,2,7,8] [2] rfl rfl rfl (.cons hc11 .nil) .nil ?_
     refine W.block (At.kp [1,2,7,8] [2] ?_)
     refine W.loopGo H (fun (s12:Int×(List Look))=>[(1,.int .i64 (p1)),(2,.lp 2 0),(7,roL 6 zaj s12.2),(8,.int .i64 (s12.1))]) (fun (s12:Int×(List Look))=>[(2,.cells (zal p0))]) (.cons .qi (.cons .q (.cons .q (.cons .qi .nil)))) (.cons .q .nil) (fun k12 s12 H K0 hK12=>?_)
     refine W.seq (W.rg env [1,2,7,8,32] [2] ?_)
     refine W.co H rfl (fun hb13 H=>?_) (fun hb13 H=>?_)
     · refine W.skip (At.zad (W.seq (W.block (W.seq ?_))))
       obtain ⟨y14,hy15,H⟩:=zac H
       refine W.region env [] [⟨roL 6 zaj y14,[],0,[]⟩] rfl rfl rfl .nil (.free (zle s12.2 s12.1 hy15) .nil) (At.kp [1,2,7,8,9] [2] ?_)
       refine At.zad (W.seq ?_)
       obtain ⟨y16,hy17,H⟩:=zac H
       obtain ⟨y18,hy19,H⟩:=zac H
       refine W.region env [] [⟨.agg (zaK y16),[],0,[]⟩,⟨.bool (y18),[],0,[]⟩] rfl rfl rfl .nil (.free (zdR fuel p0 y14 p1 hy17) (.free (zbh y16 hy19) .nil)) (At.kp [1,2,7,8,9,43] [2] ?_)
       refine At.zad (W.co H rfl (fun hb20 H=>?_) (fun hb20 H=>?_))
       · refine W.region env [] [] rfl rfl rfl .nil .nil (At.kp [1,2,7,8] [2] ?_)
         refine At.inb (At.zad ?_)
         obtain ⟨hc21,H⟩:=zaa H
         refine W.r1 env hc21 [1,2,7,8] [2] ?_
         refine At.zaF (At.kp [1,2,7,8] [2] ?_)
         exact At.conv (.cons .qi (.cons .q (.cons .q (.cons .qi .nil)))) (.cons .q .nil) (hK12 ((s12.1 - 1),y14) H)
       · refine W.skip (At.inb (At.zad ?_))
         obtain ⟨hc22,H⟩:=zaa H
         refine W.r1 env hc22 [1,2,7,8] [2] ?_
         refine At.zaF (At.kp [1,2,7,8] [2] ?_)
         exact At.conv (.cons .qi (.cons .q (.cons .q (.cons .qi .nil)))) (.cons .q .nil) (hK12 ((s12.1 - 1),s12.2) H)
     · refine W.exit (At.xthen (At.xthen (At.xhere (At.zad (W.rg env [7,10] [] ?_)))))
       refine W.seq (W.rg env [10,45,46,47] [] ?_)
       refine W.block (At.zfh 10 510 3 1 (e:=fun i=>zab (([]:List Int).getD i default)) rfl rfl ?_)
       refine At.kp [10,45,46,47] [510] ?_
       refine W.len (t:=45) rfl (fun hn23=>?_)
       refine W.zaq H (fun i23 (s23:(List Int))=>[(10,.buf 510 (s23).length),(45,roL 6 zaj s12.2),(46,.int .i64 (((s12.2.length:Nat):Int))),(47,.int .i64 ((i23:Int)))]) (fun i23 (s23:(List Int))=>[(510,bufL 3 1 zab s23)]) (.cons .qb (.cons .q (.cons .qi (.cons .qi .nil)))) (.cons .q .nil) (fun k23 i23 s23 hle23 H1 H2 K0 hK23=>?_)
       refine W.rg env [10,45,46,47,48] [510] ?_
       refine W.seq (W.cond rfl (fun hb24=>?_) (fun hb24=>?_))
       · have hi23:i23<s12.2.length:=ltD hb24
         have H:=H1 hi23
         refine W.skip (At.zad (W.seq (W.block (W.sr env [] [] [10,12,45,46,47] [12,510] rfl rfl rfl (.cons (inD hi23) .nil) .nil ?_))))
         obtain ⟨hc25,H⟩:=zaa H
         refine W.region env [] [] rfl rfl rfl (.cons (rmI hc25) .nil) .nil (At.kp [10,45,46,47] [510] ?_)
         refine At.zbb (.cons (y:=bufL 3 1 zab (s23++([(s12.2.getD i23 default).Source]:List Int))) (BSim.seg (Seg.push (Seg.refl zab _) (Seg.lit (f:=zab) (sz:=1) ([(s12.2.getD i23 default).Source]:List Int) rfl rfl (fun _=>rfl)))) .nil) ?_
         refine At.inb (At.zad (W.region env [] [] rfl rfl rfl (.cons (incD hi23 hn23) .nil) .nil (At.kp [10,45,46,47] [510] ?_)))
         refine At.zaF (At.kp [10,45,46,47] [510] ?_)
         exact At.conv (.cons .qb (.cons .q (.cons .qi (.cons .qi .nil)))) (.cons .q .nil) (hK23 hi23 (s23++([(s12.2.getD i23 default).Source]:List Int)) H)
       · have H:=H2 (geD hb24)
         refine W.exit (At.xthen (At.xthen (At.xhere (At.zad (W.rg env [4,5] [510] ?_)))))
         refine W.ret ?_
         cases H
         exact At.ret env.ty rfl rfl (fun q hq=>by cases hq;exact (by first|rfl|(simp;done)|omega|(simp;omega))) (.refl _) hval
theorem zeA (fuel:Nat) (p0:(List Int)) (p1:(List Int)) {r:Bool} (H:zcV fuel p0 p1=some r):Ctr Tryz.prog 44 [roL 1 zab p0,roL 1 zab p1] (.bool (r)):=by
 unfold zcV at H
 refine Ctr.ob Tryz.func44 Tryz.ntmps44 (fun w0 h0 hval=>?_)
 refine W.rg env [0,1] [] ?_
 refine W.rg env [0,1,5] [] ?_
 refine W.seq (W.rg env [0,1,5,6] [] ?_)
 refine W.block (At.kp [0,1,5,6] [] ?_)
 refine W.loopGo H (fun (s1:Bool×Int)=>[(0,roL 1 zab p0),(1,roL 1 zab p1),(5,.bool (s1.1)),(6,.int .i64 (s1.2))]) (fun (s1:Bool×Int)=>[]) (.cons .q (.cons .q (.cons .q (.cons .qi .nil)))) .nil (fun k1 s1 H K0 hK1=>?_)
 refine W.seq (W.sr env [] [] [0,1,5,6,18] [] rfl rfl rfl (.cons id .nil) .nil ?_)
 refine W.co H rfl (fun hb2 H=>?_) (fun hb2 H=>?_)
 · refine W.skip (At.zad (W.seq (W.block ?_)))
   obtain ⟨hc3,H⟩:=zaa H
   obtain ⟨hc4,H⟩:=zaa H
   refine W.region env [] [] rfl rfl (by first|rfl|kernel_rfl) (.cons hc3 (.cons hc4 .nil)) .nil (At.kp [0,1,5,6] [] ?_)
   refine At.inb (At.zad ?_)
   obtain ⟨hc5,H⟩:=zaa H
   refine W.r1 env hc5 [0,1,5,6] [] ?_
   refine At.zaF (At.kp [0,1,5,6] [] ?_)
   exact At.conv (.cons .q (.cons .q (.cons .q (.cons .qi .nil)))) .nil (hK1 ((decide ((p0.getD (s1.2).toNat default)=(p1.getD (s1.2).toNat default))),(s1.2+1)) H)
 · refine W.exit (At.xthen (At.xthen (At.xhere (At.zad (W.rg env [4] [] ?_)))))
   refine W.ret ?_
   cases H
   exact At.rz env hval
theorem zfX (fuel:Nat) (post:Bool→Option Unit) {r:Unit} (H:zdi fuel post=some r):CtrN Tryz.prog 13 [] (fun (y:Bool)=>.bool (y)) (fun y=>post y=some r):=by
 unfold zdi at H
 refine CtrN.zb5 (N:=148) Tryz.func13 (by kernel_rfl) (c:=_) rfl Tryz.ntmps13 rfl (fun w0 h0 hval=>?_)
 refine W.rg env [] [] ?_
 refine W.sr env [] [⟨.agg [roL 3 zav ((zai).Batches),roL 6 zao ((zai).Mantles),roL 7 zaA ((zai).Burns),roL 6 zaj ((zai).Looks)],[],0,[]⟩] [1] [1] rfl rfl rfl .nil (.free (zfQ) .nil) ?_
 refine W.seq (W.region env [] [] rfl rfl rfl .nil .nil (At.kp [1,2] [1] ?_))
 refine At.slot (t:=2) (v:=roL 1 zab ([10,11,12]:List Int)) (Sim.lit (f:=zab) ([10,11,12]:List Int) rfl rfl (fun _=>rfl)) ?_
 refine At.zad (W.seq ?_)
 obtain ⟨y1,hy2,H⟩:=zac H
 refine W.region env [] [⟨.tup [.agg [.int .i64 (y1.1.Lo),.int .i64 (y1.1.Hi)],.int .i64 (y1.2)],[],0,[]⟩] rfl rfl rfl .nil (.free (zl9 fuel (zai) 10 2 5 hy2) .nil) (At.kp [1,2,3,4] [1,3] ?_)
 refine At.zad (W.seq ?_)
 obtain ⟨y3,hy4,H⟩:=zac H
 refine W.region env [] [⟨.tup [.agg [.int .i64 (y3.1.Lo),.int .i64 (y3.1.Hi)],.int .i64 (y3.2)],[],0,[]⟩] rfl rfl rfl .nil (.free (zlf fuel (zai) 1 5 hy4) .nil) (At.kp [1,2,3,4,5,6] [1,3,5] ?_)
 refine At.zad (W.seq ?_)
 obtain ⟨y5,hy6,H⟩:=zac H
 refine W.region env [] [⟨.tup [.int .i64 (y5.1),.int .i64 (y5.2)],[],0,[]⟩] rfl rfl rfl .nil (.free (zfb fuel (zai) 10 2 4 hy6) .nil) (At.kp [1,2,3,4,5,6,7,8] [1,3,5] ?_)
 refine At.zad (W.seq ?_)
 obtain ⟨y7,hy8,H⟩:=zac H
 refine W.region env [] [⟨.tup [.int .i64 (y7.1),.int .i64 (y7.2)],[],0,[]⟩] rfl rfl rfl .nil (.free (zfb fuel (zai) 10 1 5 hy8) .nil) (At.kp [1,2,3,4,5,6,7,8,9,10] [1,3,5] ?_)
 refine At.zad (W.seq ?_)
 obtain ⟨y9,hy10,H⟩:=zac H
 refine W.region env [] [⟨.tup [.agg [.int .i64 (y9.1.Lo),.int .i64 (y9.1.Hi)],.int .i64 (y9.2)],[],0,[]⟩] rfl rfl rfl .nil (.free (ziB fuel (zai) ([10,11,12]:List Int) 2 4 hy10) .nil) (At.kp [1,2,3,4,5,6,7,8,9,10,11,12] [1,3,5,11] ?_)
 refine At.zad (W.seq ?_)
 obtain ⟨y11,hy12,H⟩:=zac H
 refine W.region env [] [⟨.tup [.agg [.int .i64 (y11.1.Lo),.int .i64 (y11.1.Hi)],.int .i64 (y11.2)],[],0,[]⟩] rfl rfl rfl .nil (.free (ziB fuel (zai) ([10,11,12]:List Int) 2 5 hy12) .nil) (At.kp [1,2,3,4,5,6,7,8,9,10,11,12,13,14] [1,3,5,11,13] ?_)
 refine At.zad (W.seq (W.zmt env [] 2 [] [] rfl rfl rfl rfl rfl rfl (fun _=>rfl) rfl .nil .nil (fun _=>.nil) (fun _=>.nil) (fun _=>rfl) (zfo fuel (zai) ([10,11,12]:List Int) 2 4 0 false _ H) (fun y13 H=>?_)))
 refine At.kp [1,3,4,5,6,7,8,9,10,11,12,13,14,15,16] [1,3,5,11,13] ?_
 refine At.zad (W.seq ?_)
 obtain ⟨y14,hy15,H⟩:=zac H
 refine W.region env [] [⟨.tup [.agg (zal y14.1),.int .i64 (y14.2)],[],0,[]⟩] rfl rfl rfl .nil (.free (zjG fuel (zai) (⟨24,10,3,false,0,0⟩:Look) hy15) .nil) (At.kp [3,4,5,6,7,8,9,10,11,12,13,14,15,16,17,18] [3,5,11,13,17] ?_)
 refine At.zad (W.seq ?_)
 obtain ⟨y16,hy17,H⟩:=zac H
 refine W.region env [] [⟨.tup [roL 1 zab y16.1,.int .i64 (y16.2)],[],0,[]⟩] rfl rfl rfl .nil (.free (zjT fuel y14.1 5 hy17) .nil) (At.kp [3,4,5,6,7,8,9,10,11,12,13,14,15,16,18,19,20] [3,5,11,13] ?_)
 refine At.zad (W.sr env [] [] [3,5,7,9,11,13,15,19,21] [3,5,11,13] rfl rfl rfl (.cons id (.cons id (.cons id (.cons id (.cons id (.cons id (.cons id (.cons id (.cons id (.cons id (.cons id (.cons id (.cons id (.cons id (.cons id (.cons id .nil)))))))))))))))) .nil ?_)
 refine W.sr env [] [] [7,9,15,19,21,22] [] rfl rfl rfl (.cons id (.cons id (.cons id (.cons id (.cons id (.cons id (.cons id (.cons id (.cons id .nil))))))))) .nil ?_
 refine W.seq ?_
 obtain ⟨y18,hy19,H⟩:=zac H
 obtain ⟨y20,hy21,H⟩:=zac H
 refine W.region env [] [⟨.bool (y18),[],0,[]⟩,⟨.bool (y20),[],0,[]⟩] rfl rfl rfl (.cons id (.cons id (.cons id (.cons id (.cons id (.cons id (.cons id (.cons id (.cons id (.cons id (.cons id .nil))))))))))) (.on (fun hW=>Ctr.sim (.cons (.refl _) (.cons (Sim.lit (f:=zab) ([10]:List Int) rfl rfl (fun _=>rfl)) .nil)) (zeA fuel y13.1 ([10]:List Int) (zbJ hy19 hW))) (.on (fun hW=>Ctr.sim (.cons (.refl _) (.cons (Sim.lit (f:=zab) ([22,24]:List Int) rfl rfl (fun _=>rfl)) .nil)) (zeA fuel y16.1 ([22,24]:List Int) (zbJ hy21 hW))) .nil)) (At.kp [0] [] ?_)
 exact At.zad (W.ret (At.retN env.ty ((((((((((((((decide (y1.2=0)) && (decide (y3.2=0))) && (decide (y5.2=0))) && (decide (y7.2=0))) && (decide (y9.2=0))) && (decide (y11.2=0))) && (decide (y13.2=0))) && (decide (y14.2=0))) && (decide (y16.2=0))) && (((((decide (y1.1.Lo=1300)) && (decide (y1.1.Hi=1600))) && ((decide (y3.1.Lo=1000)) && (decide (y3.1.Hi=1599)))) && ((decide (y9.1.Lo=0)) && (decide (y9.1.Hi=2)))) && ((decide (y11.1.Lo=1)) && (decide (y11.1.Hi=2))))) && (decide (y5.1=2))) && (decide (y7.1=0))) && y18) && y20) H rfl rfl nofun (.refl _) hval))
theorem zgX (fuel:Nat) {r:Bool} (H:zdQ fuel=some r):Ctr Tryz.prog 13 [] (.bool r):=by
 obtain ⟨u,H2,hr⟩:=zj4 H
 subst hr
 exact CtrN.one (zfX fuel _ H2) zlF
theorem zat (p0:Int) (p1:Int) {r:Int} (H:zar p0 p1=some r):Ctr Tryz.prog 27 [.int .i64 (p0),.int .i64 (p1)] (.int .i64 (r)):=by
 unfold zar at H
 refine Ctr.ob Tryz.func27 Tryz.ntmps27 (fun w0 h0 hval=>?_)
 refine W.rg env [0,1] [] ?_
 obtain ⟨hc1,H⟩:=zaa H
 obtain ⟨hc2,H⟩:=zaa H
 obtain ⟨hc3,H⟩:=zaa H
 refine W.sr env [] [] [4] [] rfl rfl rfl (.cons hc1 (.cons hc2 (.cons hc3 .nil))) .nil ?_
 refine W.ret ?_
 cases H
 exact At.rz env hval
theorem zez (p0:(List Int)) (p1:Int) {r:Int} (H:zbS p0 p1=some r):Ctr Tryz.prog 88 [roL 1 zab p0,.int .i64 (p1)] (.int .i64 (r)):=by
 unfold zbS at H
 refine Ctr.ob Tryz.func88 Tryz.ntmps88 (fun w0 h0 hval=>?_)
 refine W.rg env [0,1] [] ?_
 refine W.seq (W.rg env [0,1,7] [] ?_)
 refine W.co H rfl (fun hb1 H=>?_) (fun hb1 H=>?_)
 · refine W.rg env [4] [] ?_
   refine W.ret (At.rthen ?_)
   cases H
   exact At.rz env hval
 · refine W.skip (At.zad ?_)
   obtain ⟨hc2,H⟩:=zaa H
   obtain ⟨hc3,H⟩:=zaa H
   refine W.sr env [] [] [4] [] rfl rfl rfl (.cons hc2 (.cons hc3 .nil)) .nil ?_
   refine W.ret ?_
   cases H
   exact At.rz env hval
theorem zgV (fuel:Nat) (p0:gasolierref06_Raw) (p1:(List Int)) {r:(Wear×Lives)} (H:zcf fuel p0 p1=some r):Ctr Tryz.prog 28 [.agg [roL 2 zcD p0.Batches,roL 4 za0 p0.Mantles,roL 5 zcC p0.Burns,roL 4 za0 p0.Looks],roL 1 zab p1] (.tup [.agg (zal r.1),.agg [roL 1 zab r.2.Lives,roL 1 zab r.2.Minutes]]):=by
 unfold zcf at H
 refine Ctr.ob Tryz.func28 Tryz.ntmps28 (fun w0 h0 hval=>?_)
 refine W.rg env [1,2,4,5] [2,4,5] ?_
 refine W.rg env [1,2,4,5,6] [2,4,5,6] ?_
 refine W.rg env [1,2,4,5,6,7] [2,4,5,6,7] ?_
 refine W.seq (W.rg env [1,2,4,5,6,7,8] [2,4,5,6,7] ?_)
 refine W.block (At.zdF 6 0 900 31 3 (e:=fun i=>zav (([]:List Batch).getD i default)) rfl rfl rfl ?_)
 refine At.zdF 7 0 950 3 1 (e:=fun i=>zab (([]:List Int).getD i default)) rfl rfl rfl ?_
 refine At.kp [1,2,4,5,6,7,8] [2,4,5,6,7,900,950] ?_
 refine W.loopGo H (fun (s1:Int×(List Batch)×(List Int))=>[(1,roL 1 zab p1),(2,.lp 2 0),(4,.lp 4 0),(5,.lp 5 0),(6,.lp 6 0),(7,.lp 7 0),(8,.int .i64 (s1.1))]) (fun (s1:Int×(List Batch)×(List Int))=>[(2,.cells [roL 2 zcD p0.Batches,roL 4 za0 p0.Mantles,roL 5 zcC p0.Burns,roL 4 za0 p0.Looks]),(4,.cells [.nilS,.nilS,.nilS,.nilS]),(5,.cells [.nilS,.nilS]),(6,.cells [.buf 900 (s1.2.1).length,.nilS,.nilS,.nilS]),(7,.cells [.buf 950 (s1.2.2).length,.nilS]),(900,bufL 31 3 zav s1.2.1),(950,bufL 3 1 zab s1.2.2)]) (.cons .q (.cons .q (.cons .q (.cons .q (.cons .q (.cons .q (.cons .qi .nil))))))) (.cons .q (.cons (BSim.cells (.cons Sim.o (.cons Sim.o (.cons Sim.o (.cons Sim.o .nil))))) (.cons (BSim.cells (.cons Sim.o (.cons Sim.o .nil))) (.cons (BSim.cells (.cons .qc (.cons Sim.o (.cons Sim.o (.cons Sim.o .nil))))) (.cons (BSim.cells (.cons .qc (.cons Sim.o .nil))) (.cons .q (.cons .q .nil))))))) (fun k1 s1 H K0 hK1=>?_)
 refine W.seq (W.sr env [] [] [1,2,4,5,6,7,8,32] [2,4,5,6,7,900,950] rfl rfl rfl (.cons id (.cons id (.cons id (.cons (fun h=>by rw [h];rfl) .nil)))) .nil ?_)
 refine W.co H rfl (fun hb2 H=>?_) (fun hb2 H=>?_)
 · refine W.skip (At.zad (W.seq (W.block (W.rg env [1,2,4,5,6,7,8,9] [2,4,5,6,7,9,900,950] ?_))))
   refine W.seq (W.rg env [1,2,4,5,6,7,8,9,40] [2,4,5,6,7,9,900,950] ?_)
   refine W.zjO H (fun (s3:(Arr2 Int))=>[(1,roL 1 zab p1),(2,.lp 2 0),(4,.lp 4 0),(5,.lp 5 0),(6,.lp 6 0),(7,.lp 7 0),(8,.int .i64 (s1.1)),(9,.lp 9 0)]) (fun (s3:(Arr2 Int))=>[(2,.cells [roL 2 zcD p0.Batches,roL 4 za0 p0.Mantles,roL 5 zcC p0.Burns,roL 4 za0 p0.Looks]),(4,.cells [.nilS,.nilS,.nilS,.nilS]),(5,.cells [.nilS,.nilS]),(6,.cells [.buf 900 (s1.2.1).length,.nilS,.nilS,.nilS]),(7,.cells [.buf 950 (s1.2.2).length,.nilS]),(9,.cells [.int .i64 (s3.x0),.int .i64 (s3.x1)]),(900,bufL 31 3 zav s1.2.1),(950,bufL 3 1 zab s1.2.2)]) (fun s3 H=>?_) (fun k3 H hK3=>?_)
   · refine W.seq ?_
     obtain ⟨y4,hy5,H⟩:=zac H
     refine W.region env [] [⟨.int .i64 (y4),[],0,[]⟩] rfl rfl rfl (.cons (by decide) .nil) (.free (zat s3.x0 120 hy5) .nil) (At.kp [1,2,4,5,6,7,8,9,10] [2,4,5,6,7,9,900,950] ?_)
     refine At.zad (W.seq ?_)
     obtain ⟨hc6,H⟩:=zaa H
     obtain ⟨y7,hy8,H⟩:=zac H
     obtain ⟨hc9,H⟩:=zaa H
     refine W.region env [] [⟨.int .i64 (y7),[],0,[]⟩] rfl rfl rfl (.cons hc6 (.cons (by decide) (.cons hc9 .nil))) (.free (zat s3.x1 90 hy8) .nil) (At.kp [1,2,4,5,6,7,8,11] [2,4,5,6,7,11,900,950] ?_)
     refine At.zad (W.seq ?_)
     obtain ⟨hc10,H⟩:=zaa H
     refine W.region env [] [] rfl rfl rfl (.cons (rmI hc10) .nil) .nil (At.kp [1,2,4,5,6,7,8,11] [2,4,5,6,7,11,900,950] ?_)
     refine At.zbb (.cons (.refl _) (.cons (.refl _) (.cons (.refl _) (.cons (.refl _) (.cons (.refl _) (.cons (.refl _) (.cons (y:=bufL 31 3 zav (s1.2.1++([(⟨(s1.1+1),(⟨y4,(y4+y7)⟩:Range)⟩:Batch)]:List Batch))) (BSim.seg (Seg.push (Seg.refl zav _) (Seg.lit (f:=zav) (sz:=3) ([(⟨(s1.1+1),(⟨y4,(y4+y7)⟩:Range)⟩:Batch)]:List Batch) rfl rfl (fun _=>rfl)))) (.cons (.refl _) .nil)))))))) ?_
     refine At.zad ?_
     obtain ⟨y11,hy12,H⟩:=zac H
     obtain ⟨hc13,H⟩:=zaa H
     obtain ⟨hc14,H⟩:=zaa H
     obtain ⟨y15,hy16,H⟩:=zac H
     obtain ⟨hc17,H⟩:=zaa H
     obtain ⟨hc18,H⟩:=zaa H
     refine W.region env [] [⟨.int .i64 (y11),[],0,[]⟩,⟨.int .i64 (y15),[],0,[]⟩] rfl rfl (by kernel_rfl) (.cons hc13 (.cons hc14 (.cons hc17 (.cons (rmI hc18) .nil)))) (.free (zez p1 s1.1 hy12) (.free (zat y11 (((y4+y7) - y4)+1) hy16) .nil)) (At.kp [1,2,4,5,6,7,8] [2,4,5,6,7,900,950] ?_)
     refine At.zbb (.cons (.refl _) (.cons (.refl _) (.cons (.refl _) (.cons (.refl _) (.cons (.refl _) (.cons (.refl _) (.cons (y:=bufL 3 1 zab (s1.2.2++([(y4+y15)]:List Int))) (BSim.seg (Seg.push (Seg.refl zab _) (Seg.lit (f:=zab) (sz:=1) ([(y4+y15)]:List Int) rfl rfl (fun _=>rfl)))) .nil))))))) ?_
     refine At.inb (At.zad ?_)
     obtain ⟨hc19,H⟩:=zaa H
     refine W.r1 env hc19 [1,2,4,5,6,7,8] [2,4,5,6,7,900,950] ?_
     refine At.zaF (At.kp [1,2,4,5,6,7,8] [2,4,5,6,7,900,950] ?_)
     exact At.conv (.cons .q (.cons .q (.cons .q (.cons .q (.cons .q (.cons .q (.cons .qi .nil))))))) (.cons .q (.cons (BSim.cells (.cons Sim.o (.cons Sim.o (.cons Sim.o (.cons Sim.o .nil))))) (.cons (BSim.cells (.cons Sim.o (.cons Sim.o .nil))) (.cons (BSim.cells (.cons .qc (.cons Sim.o (.cons Sim.o (.cons Sim.o .nil))))) (.cons (BSim.cells (.cons .qc (.cons Sim.o .nil))) (.cons .q (.cons .q .nil))))))) (hK1 ((s1.1+1),(s1.2.1++([(⟨(s1.1+1),(⟨y4,(y4+y7)⟩:Range)⟩:Batch)]:List Batch)),(s1.2.2++([(y4+y15)]:List Int))) H)
   · refine W.co H rfl (fun hb20 H=>?_) (fun hb20 H=>?_)
     · obtain ⟨hc21,H⟩:=zaa H
       refine W.r1 env hc21 [1,2,4,5,6,7,8,9] [2,4,5,6,7,9,900,950] ?_
       refine At.zaF (At.kp [1,2,4,5,6,7,8,9] [2,4,5,6,7,9,900,950] ?_)
       exact At.conv (.cons .q (.cons .q (.cons .q (.cons .q (.cons .q (.cons .q (.cons .qi (.cons .q .nil)))))))) (.cons .q (.cons (BSim.cells (.cons Sim.o (.cons Sim.o (.cons Sim.o (.cons Sim.o .nil))))) (.cons (BSim.cells (.cons Sim.o (.cons Sim.o .nil))) (.cons (BSim.cells (.cons .qc (.cons Sim.o (.cons Sim.o (.cons Sim.o .nil))))) (.cons (BSim.cells (.cons .qc (.cons Sim.o .nil))) (.cons .q (.cons .q (.cons .q .nil)))))))) (hK3 (p0.Batches.getD (s1.1).toNat default) H)
     · refine W.skip (At.zaF (At.kp [1,2,4,5,6,7,8,9] [2,4,5,6,7,9,900,950] ?_))
       exact At.conv (.cons .q (.cons .q (.cons .q (.cons .q (.cons .q (.cons .q (.cons .qi (.cons .q .nil)))))))) (.cons .q (.cons (BSim.cells (.cons Sim.o (.cons Sim.o (.cons Sim.o (.cons Sim.o .nil))))) (.cons (BSim.cells (.cons Sim.o (.cons Sim.o .nil))) (.cons (BSim.cells (.cons .qc (.cons Sim.o (.cons Sim.o (.cons Sim.o .nil))))) (.cons (BSim.cells (.cons .qc (.cons Sim.o .nil))) (.cons .q (.cons .q (.cons .q .nil)))))))) (hK3 (⟨40,60⟩:(Arr2 Int)) H)
 · refine W.exit (At.xthen (At.xthen (At.xhere (At.zad (W.seq (W.rg env [1,2,4,5,6,7,12] [2,4,5,6,7,900,950] ?_))))))
   refine W.block (At.zdF 6 1 901 33 6 (e:=fun i=>zao (([]:List Mantle).getD i default)) rfl rfl rfl ?_)
   refine At.kp [1,2,4,5,6,7,12] [2,4,5,6,7,900,901,950] ?_
   refine W.loopGo H (fun (s22:Int×(List Mantle))=>[(1,roL 1 zab p1),(2,.lp 2 0),(4,.lp 4 0),(5,.lp 5 0),(6,.lp 6 0),(7,.lp 7 0),(12,.int .i64 (s22.1))]) (fun (s22:Int×(List Mantle))=>[(2,.cells [roL 2 zcD p0.Batches,roL 4 za0 p0.Mantles,roL 5 zcC p0.Burns,roL 4 za0 p0.Looks]),(4,.cells [.nilS,.nilS,.nilS,.nilS]),(5,.cells [.nilS,.nilS]),(6,.cells [.buf 900 (s1.2.1).length,.buf 901 (s22.2).length,.nilS,.nilS]),(7,.cells [.buf 950 (s1.2.2).length,.nilS]),(900,bufL 31 3 zav s1.2.1),(901,bufL 33 6 zao s22.2),(950,bufL 3 1 zab s1.2.2)]) (.cons .q (.cons .q (.cons .q (.cons .q (.cons .q (.cons .q (.cons .qi .nil))))))) (.cons .q (.cons (BSim.cells (.cons Sim.o (.cons Sim.o (.cons Sim.o (.cons Sim.o .nil))))) (.cons (BSim.cells (.cons Sim.o (.cons Sim.o .nil))) (.cons (BSim.cells (.cons .qc (.cons .qc (.cons Sim.o (.cons Sim.o .nil))))) (.cons (BSim.cells (.cons .qc (.cons Sim.o .nil))) (.cons .q (.cons .q (.cons .q .nil)))))))) (fun k22 s22 H K0 hK22=>?_)
   refine W.seq (W.sr env [] [] [1,2,4,5,6,7,12,94] [2,4,5,6,7,900,901,950] rfl rfl rfl (.cons id (.cons id .nil)) .nil ?_)
   refine W.co H rfl (fun hb23 H=>?_) (fun hb23 H=>?_)
   · refine W.skip (At.zad (W.seq (W.block ?_)))
     obtain ⟨hc24,H⟩:=zaa H
     refine W.sr env [] [] [1,2,4,5,6,7,12,13] [2,4,5,6,7,13,900,901,950] rfl rfl rfl (.cons hc24 .nil) .nil ?_
     obtain ⟨hc25,H⟩:=zaa H
     obtain ⟨y26,hy27,H⟩:=zac H
     obtain ⟨hc28,H⟩:=zaa H
     obtain ⟨y29,hy30,H⟩:=zac H
     obtain ⟨hc31,H⟩:=zaa H
     obtain ⟨y32,hy33,H⟩:=zac H
     obtain ⟨y34,hy35,H⟩:=zac H
     obtain ⟨hc36,H⟩:=zaa H
     refine W.region env [] [⟨.int .i64 (y26),[],0,[]⟩,⟨.int .i64 (y29),[],0,[]⟩,⟨.int .i64 (y32),[],0,[]⟩,⟨.int .i64 (y34),[],0,[]⟩] rfl rfl (by kernel_rfl) (.cons hc25 (.cons (by decide) (.cons hc28 (.cons (by decide) (.cons (by first|rfl|(simp;done)|omega|(simp;omega)) (.cons hc31 (.cons (by decide) (.cons (by decide) (.cons (rmI hc36) .nil))))))))) (.free (zat ((p0.Mantles.getD (s22.1).toNat default).x0) 5 hy27) (.free (zat ((p0.Mantles.getD (s22.1).toNat default).x1) ((s1.2.1.length:Nat):Int) hy30) (.free (zat ((p0.Mantles.getD (s22.1).toNat default).x2) 6 hy33) (.free (zat ((p0.Mantles.getD (s22.1).toNat default).x3) 8 hy35) .nil)))) (At.kp [1,2,4,5,6,7,12] [2,4,5,6,7,900,901,950] ?_)
     refine At.zbb (.cons (.refl _) (.cons (.refl _) (.cons (.refl _) (.cons (.refl _) (.cons (.refl _) (.cons (.refl _) (.cons (y:=bufL 33 6 zao (s22.2++([(⟨(1+s22.1),(1+y26),(1+y29),y32,y34,0⟩:Mantle)]:List Mantle))) (BSim.seg (Seg.push (Seg.refl zao _) (Seg.lit (f:=zao) (sz:=6) ([(⟨(1+s22.1),(1+y26),(1+y29),y32,y34,0⟩:Mantle)]:List Mantle) rfl rfl (fun _=>rfl)))) (.cons (.refl _) .nil)))))))) ?_
     refine At.inb (At.zad ?_)
     obtain ⟨hc37,H⟩:=zaa H
     refine W.r1 env hc37 [1,2,4,5,6,7,12] [2,4,5,6,7,900,901,950] ?_
     refine At.zaF (At.kp [1,2,4,5,6,7,12] [2,4,5,6,7,900,901,950] ?_)
     exact At.conv (.cons .q (.cons .q (.cons .q (.cons .q (.cons .q (.cons .q (.cons .qi .nil))))))) (.cons .q (.cons (BSim.cells (.cons Sim.o (.cons Sim.o (.cons Sim.o (.cons Sim.o .nil))))) (.cons (BSim.cells (.cons Sim.o (.cons Sim.o .nil))) (.cons (BSim.cells (.cons .qc (.cons .qc (.cons Sim.o (.cons Sim.o .nil))))) (.cons (BSim.cells (.cons .qc (.cons Sim.o .nil))) (.cons .q (.cons .q (.cons .q .nil)))))))) (hK22 ((s22.1+1),(s22.2++([(⟨(1+s22.1),(1+y26),(1+y29),y32,y34,0⟩:Mantle)]:List Mantle))) H)
   · refine W.exit (At.xthen (At.xthen (At.xhere (At.zad (W.seq (W.rg env [1,2,4,5,6,7,14] [2,4,5,6,7,900,901,950] ?_))))))
     refine W.block (At.zdF 6 2 902 35 7 (e:=fun i=>zaA (([]:List Burn).getD i default)) rfl rfl rfl ?_)
     refine At.zdF 7 1 951 3 1 (e:=fun i=>zab (([]:List Int).getD i default)) rfl rfl rfl ?_
     refine At.kp [1,2,4,5,6,7,14] [2,4,5,6,7,900,901,902,950,951] ?_
     refine W.loopGo H (fun (s38:Int×(List Burn)×(List Int))=>[(1,roL 1 zab p1),(2,.lp 2 0),(4,.lp 4 0),(5,.lp 5 0),(6,.lp 6 0),(7,.lp 7 0),(14,.int .i64 (s38.1))]) (fun (s38:Int×(List Burn)×(List Int))=>[(2,.cells [roL 2 zcD p0.Batches,roL 4 za0 p0.Mantles,roL 5 zcC p0.Burns,roL 4 za0 p0.Looks]),(4,.cells [.nilS,.nilS,.nilS,.nilS]),(5,.cells [.nilS,.nilS]),(6,.cells [.buf 900 (s1.2.1).length,.buf 901 (s22.2).length,.buf 902 (s38.2.1).length,.nilS]),(7,.cells [.buf 950 (s1.2.2).length,.buf 951 (s38.2.2).length]),(900,bufL 31 3 zav s1.2.1),(901,bufL 33 6 zao s22.2),(902,bufL 35 7 zaA s38.2.1),(950,bufL 3 1 zab s1.2.2),(951,bufL 3 1 zab s38.2.2)]) (.cons .q (.cons .q (.cons .q (.cons .q (.cons .q (.cons .q (.cons .qi .nil))))))) (.cons .q (.cons (BSim.cells (.cons Sim.o (.cons Sim.o (.cons Sim.o (.cons Sim.o .nil))))) (.cons (BSim.cells (.cons Sim.o (.cons Sim.o .nil))) (.cons (BSim.cells (.cons .qc (.cons .qc (.cons .qc (.cons Sim.o .nil))))) (.cons (BSim.cells (.cons .qc (.cons .qc .nil))) (.cons .q (.cons .q (.cons .q (.cons .q (.cons .q .nil)))))))))) (fun k38 s38 H K0 hK38=>?_)
     refine W.seq (W.sr env [] [] [1,2,4,5,6,7,14,135] [2,4,5,6,7,900,901,902,950,951] rfl rfl rfl (.cons id (.cons id .nil)) .nil ?_)
     refine W.co H rfl (fun hb39 H=>?_) (fun hb39 H=>?_)
     · refine W.skip (At.zad (W.seq (W.block ?_)))
       obtain ⟨hc40,H⟩:=zaa H
       refine W.sr env [] [] [1,2,4,5,6,7,14,15] [2,4,5,6,7,15,900,901,902,950,951] rfl rfl rfl (.cons hc40 .nil) .nil ?_
       refine W.seq ?_
       obtain ⟨y41,hy42,H⟩:=zac H
       refine W.region env [] [⟨.int .i64 (y41),[],0,[]⟩] rfl rfl rfl (.cons (by decide) .nil) (.free (zat ((p0.Burns.getD (s38.1).toNat default).x2) 40 hy42) .nil) (At.kp [1,2,4,5,6,7,14,15,16] [2,4,5,6,7,15,900,901,902,950,951] ?_)
       refine At.zad (W.seq ?_)
       obtain ⟨hc43,H⟩:=zaa H
       obtain ⟨y44,hy45,H⟩:=zac H
       obtain ⟨hc46,H⟩:=zaa H
       obtain ⟨y47,hy48,H⟩:=zac H
       obtain ⟨y49,hy50,H⟩:=zac H
       obtain ⟨hc51,H⟩:=zaa H
       obtain ⟨y52,hy53,H⟩:=zac H
       refine W.region env [] [⟨.int .i64 (y44),[],0,[]⟩,⟨.int .i64 (y47),[],0,[]⟩,⟨.int .i64 (y49),[],0,[]⟩,⟨.int .i64 (y52),[],0,[]⟩] rfl rfl (by kernel_rfl) (.cons hc43 (.cons (by decide) (.cons hc46 (.cons (by decide) (.cons (by decide) (.cons hc51 (.cons (by decide) .nil))))))) (.free (zat ((p0.Burns.getD (s38.1).toNat default).x0) 5 hy45) (.free (zat ((p0.Burns.getD (s38.1).toNat default).x1) 10 hy48) (.free (zat ((p0.Burns.getD (s38.1).toNat default).x3) 30 hy50) (.free (zat ((p0.Burns.getD (s38.1).toNat default).x4) 12 hy53) .nil)))) (At.kp [1,2,4,5,6,7,14,17] [2,4,5,6,7,17,900,901,902,950,951] ?_)
       refine At.zad (W.seq ?_)
       obtain ⟨hc54,H⟩:=zaa H
       refine W.region env [] [] rfl rfl rfl (.cons (rmI hc54) .nil) .nil (At.kp [1,2,4,5,6,7,14,17] [2,4,5,6,7,17,900,901,902,950,951] ?_)
       refine At.zbb (.cons (.refl _) (.cons (.refl _) (.cons (.refl _) (.cons (.refl _) (.cons (.refl _) (.cons (.refl _) (.cons (.refl _) (.cons (.refl _) (.cons (y:=bufL 35 7 zaA (s38.2.1++([(⟨(20+s38.1),(1+y44),y47,(⟨y41,(y41+y49)⟩:Range),y52,0⟩:Burn)]:List Burn))) (BSim.seg (Seg.push (Seg.refl zaA _) (Seg.lit (f:=zaA) (sz:=7) ([(⟨(20+s38.1),(1+y44),y47,(⟨y41,(y41+y49)⟩:Range),y52,0⟩:Burn)]:List Burn) rfl rfl (fun _=>rfl)))) (.cons (.refl _) (.cons (.refl _) .nil))))))))))) ?_
       refine At.zad ?_
       obtain ⟨hc55,H⟩:=zaa H
       obtain ⟨y56,hy57,H⟩:=zac H
       obtain ⟨hc58,H⟩:=zaa H
       obtain ⟨hc59,H⟩:=zaa H
       obtain ⟨y60,hy61,H⟩:=zac H
       obtain ⟨hc62,H⟩:=zaa H
       obtain ⟨hc63,H⟩:=zaa H
       refine W.region env [] [⟨.int .i64 (y56),[],0,[]⟩,⟨.int .i64 (y60),[],0,[]⟩] rfl rfl (by kernel_rfl) (.cons hc55 (.cons hc58 (.cons hc59 (.cons hc62 (.cons (rmI hc63) .nil))))) (.free (zez p1 (s38.1+2) hy57) (.free (zat y56 (((y41+y49) - y41)+1) hy61) .nil)) (At.kp [1,2,4,5,6,7,14] [2,4,5,6,7,900,901,902,950,951] ?_)
       refine At.zbb (.cons (.refl _) (.cons (.refl _) (.cons (.refl _) (.cons (.refl _) (.cons (.refl _) (.cons (.refl _) (.cons (.refl _) (.cons (.refl _) (.cons (.refl _) (.cons (y:=bufL 3 1 zab (s38.2.2++([(y41+y60)]:List Int))) (BSim.seg (Seg.push (Seg.refl zab _) (Seg.lit (f:=zab) (sz:=1) ([(y41+y60)]:List Int) rfl rfl (fun _=>rfl)))) .nil)))))))))) ?_
       refine At.inb (At.zad ?_)
       obtain ⟨hc64,H⟩:=zaa H
       refine W.r1 env hc64 [1,2,4,5,6,7,14] [2,4,5,6,7,900,901,902,950,951] ?_
       refine At.zaF (At.kp [1,2,4,5,6,7,14] [2,4,5,6,7,900,901,902,950,951] ?_)
       exact At.conv (.cons .q (.cons .q (.cons .q (.cons .q (.cons .q (.cons .q (.cons .qi .nil))))))) (.cons .q (.cons (BSim.cells (.cons Sim.o (.cons Sim.o (.cons Sim.o (.cons Sim.o .nil))))) (.cons (BSim.cells (.cons Sim.o (.cons Sim.o .nil))) (.cons (BSim.cells (.cons .qc (.cons .qc (.cons .qc (.cons Sim.o .nil))))) (.cons (BSim.cells (.cons .qc (.cons .qc .nil))) (.cons .q (.cons .q (.cons .q (.cons .q (.cons .q .nil)))))))))) (hK38 ((s38.1+1),(s38.2.1++([(⟨(20+s38.1),(1+y44),y47,(⟨y41,(y41+y49)⟩:Range),y52,0⟩:Burn)]:List Burn)),(s38.2.2++([(y41+y60)]:List Int))) H)
     · refine W.exit (At.xthen (At.xthen (At.xhere (At.zad (W.seq (W.rg env [2,4,5,6,7,18] [2,4,5,6,7,900,901,902,950,951] ?_))))))
       refine W.block (At.zdF 6 3 903 37 6 (e:=fun i=>zaj (([]:List Look).getD i default)) rfl rfl rfl ?_)
       refine At.kp [2,4,5,6,7,18] [2,4,5,6,7,900,901,902,903,950,951] ?_
       refine W.loopGo H (fun (s65:Int×(List Look))=>[(2,.lp 2 0),(4,.lp 4 0),(5,.lp 5 0),(6,.lp 6 0),(7,.lp 7 0),(18,.int .i64 (s65.1))]) (fun (s65:Int×(List Look))=>[(2,.cells [roL 2 zcD p0.Batches,roL 4 za0 p0.Mantles,roL 5 zcC p0.Burns,roL 4 za0 p0.Looks]),(4,.cells [.nilS,.nilS,.nilS,.nilS]),(5,.cells [.nilS,.nilS]),(6,.cells [.buf 900 (s1.2.1).length,.buf 901 (s22.2).length,.buf 902 (s38.2.1).length,.buf 903 (s65.2).length]),(7,.cells [.buf 950 (s1.2.2).length,.buf 951 (s38.2.2).length]),(900,bufL 31 3 zav s1.2.1),(901,bufL 33 6 zao s22.2),(902,bufL 35 7 zaA s38.2.1),(903,bufL 37 6 zaj s65.2),(950,bufL 3 1 zab s1.2.2),(951,bufL 3 1 zab s38.2.2)]) (.cons .q (.cons .q (.cons .q (.cons .q (.cons .q (.cons .qi .nil)))))) (.cons .q (.cons (BSim.cells (.cons Sim.o (.cons Sim.o (.cons Sim.o (.cons Sim.o .nil))))) (.cons (BSim.cells (.cons Sim.o (.cons Sim.o .nil))) (.cons (BSim.cells (.cons .qc (.cons .qc (.cons .qc (.cons .qc .nil))))) (.cons (BSim.cells (.cons .qc (.cons .qc .nil))) (.cons .q (.cons .q (.cons .q (.cons .q (.cons .q (.cons .q .nil))))))))))) (fun k65 s65 H K0 hK65=>?_)
       refine W.seq (W.sr env [] [] [2,4,5,6,7,18,202] [2,4,5,6,7,900,901,902,903,950,951] rfl rfl rfl (.cons id (.cons id .nil)) .nil ?_)
       refine W.co H rfl (fun hb66 H=>?_) (fun hb66 H=>?_)
       · refine W.skip (At.zad (W.seq (W.block ?_)))
         obtain ⟨hc67,H⟩:=zaa H
         refine W.sr env [] [] [2,4,5,6,7,18,19] [2,4,5,6,7,19,900,901,902,903,950,951] rfl rfl rfl (.cons hc67 .nil) .nil ?_
         obtain ⟨hc68,H⟩:=zaa H
         obtain ⟨y69,hy70,H⟩:=zac H
         obtain ⟨hc71,H⟩:=zaa H
         obtain ⟨y72,hy73,H⟩:=zac H
         obtain ⟨y74,hy75,H⟩:=zac H
         obtain ⟨y76,hy77,H⟩:=zac H
         obtain ⟨hc78,H⟩:=zaa H
         refine W.region env [] [⟨.int .i64 (y69),[],0,[]⟩,⟨.int .i64 (y72),[],0,[]⟩,⟨.int .i64 (y74),[],0,[]⟩,⟨.int .i64 (y76),[],0,[]⟩] rfl rfl (by kernel_rfl) (.cons hc68 (.cons (by decide) (.cons hc71 (.cons (by decide) (.cons (by decide) (.cons (by decide) (.cons (rmI hc78) .nil))))))) (.free (zat ((p0.Looks.getD (s65.1).toNat default).x0) 5 hy70) (.free (zat ((p0.Looks.getD (s65.1).toNat default).x1) 10 hy73) (.free (zat ((p0.Looks.getD (s65.1).toNat default).x2) 2 hy75) (.free (zat ((p0.Looks.getD (s65.1).toNat default).x3) 12 hy77) .nil)))) (At.kp [2,4,5,6,7,18] [2,4,5,6,7,900,901,902,903,950,951] ?_)
         refine At.zbb (.cons (.refl _) (.cons (.refl _) (.cons (.refl _) (.cons (.refl _) (.cons (.refl _) (.cons (.refl _) (.cons (.refl _) (.cons (.refl _) (.cons (y:=bufL 37 6 zaj (s65.2++([(⟨(50+s65.1),(1+y69),y72,(decide (y74=1)),y76,0⟩:Look)]:List Look))) (BSim.seg (Seg.push (Seg.refl zaj _) (Seg.lit (f:=zaj) (sz:=6) ([(⟨(50+s65.1),(1+y69),y72,(decide (y74=1)),y76,0⟩:Look)]:List Look) rfl rfl (fun _=>rfl)))) (.cons (.refl _) (.cons (.refl _) .nil))))))))))) ?_
         refine At.inb (At.zad ?_)
         obtain ⟨hc79,H⟩:=zaa H
         refine W.r1 env hc79 [2,4,5,6,7,18] [2,4,5,6,7,900,901,902,903,950,951] ?_
         refine At.zaF (At.kp [2,4,5,6,7,18] [2,4,5,6,7,900,901,902,903,950,951] ?_)
         exact At.conv (.cons .q (.cons .q (.cons .q (.cons .q (.cons .q (.cons .qi .nil)))))) (.cons .q (.cons (BSim.cells (.cons Sim.o (.cons Sim.o (.cons Sim.o (.cons Sim.o .nil))))) (.cons (BSim.cells (.cons Sim.o (.cons Sim.o .nil))) (.cons (BSim.cells (.cons .qc (.cons .qc (.cons .qc (.cons .qc .nil))))) (.cons (BSim.cells (.cons .qc (.cons .qc .nil))) (.cons .q (.cons .q (.cons .q (.cons .q (.cons .q (.cons .q .nil))))))))))) (hK65 ((s65.1+1),(s65.2++([(⟨(50+s65.1),(1+y69),y72,(decide (y74=1)),y76,0⟩:Look)]:List Look))) H)
       · refine W.exit (At.xthen (At.xthen (At.xhere (At.zad (W.sr env [] [] [4,5] [4,5,900,901,902,903,950,951] rfl rfl (by first|rfl|kernel_rfl) .nil .nil ?_)))))
         refine W.ret ?_
         cases H
         exact At.ret env.ty rfl rfl (fun q hq=>by cases hq;exact (by (repeat' apply And.intro) <;> first|rfl|(simp;done)|omega|(simp;omega))) (.refl _) hval
theorem zmi (p0:Wear) {r:Wear} (H:zbT p0=some r):Ctr Tryz.prog 68 [.agg (zal p0)] (.agg (zal r)):=by
 unfold zbT at H
 refine Ctr.ob Tryz.func68 Tryz.ntmps68 (fun w0 h0 hval=>?_)
 refine W.rg env [1,2] [1,2] ?_
 refine W.seq ?_
 obtain ⟨hc1,H⟩:=zaa H
 obtain ⟨hc2,H⟩:=zaa H
 obtain ⟨hc3,H⟩:=zaa H
 obtain ⟨hc4,H⟩:=zaa H
 refine W.region env [3,7,11,15] [] rfl rfl (by first|rfl|kernel_rfl) (.cons (rmI hc1) (.cons (rmI hc2) (.cons (rmI hc3) (.cons (rmI hc4) .nil)))) .nil (At.kp [2] [2,3,7,11,15] ?_)
 refine At.zbb (.cons (.refl _) (.cons (y:=bufL 31 3 zav (([]:List Batch)++p0.Batches)) (BSim.seg (Seg.push (Seg.lit (f:=zav) (sz:=3) ([]:List Batch) rfl rfl (fun _=>rfl)) (Seg.refl zav p0.Batches))) (.cons (y:=bufL 33 6 zao (([]:List Mantle)++p0.Mantles)) (BSim.seg (Seg.push (Seg.lit (f:=zao) (sz:=6) ([]:List Mantle) rfl rfl (fun _=>rfl)) (Seg.refl zao p0.Mantles))) (.cons (y:=bufL 35 7 zaA (([]:List Burn)++p0.Burns)) (BSim.seg (Seg.push (Seg.lit (f:=zaA) (sz:=7) ([]:List Burn) rfl rfl (fun _=>rfl)) (Seg.refl zaA p0.Burns))) (.cons (y:=bufL 37 6 zaj (([]:List Look)++p0.Looks)) (BSim.seg (Seg.push (Seg.lit (f:=zaj) (sz:=6) ([]:List Look) rfl rfl (fun _=>rfl)) (Seg.refl zaj p0.Looks))) .nil))))) ?_
 refine At.zad (W.ret ?_)
 cases H
 exact At.ret env.ty rfl rfl (fun q hq=>by cases hq;exact (by (repeat' apply And.intro) <;> first|rfl|(simp;done)|omega|(simp;omega))) (.refl _) hval
theorem zcS (p0:Int) (p1:Int) (p2:Int):Ctr Tryz.prog 153 [.int .i64 (p0),.int .i64 (p1),.int .i64 (p2)] (.bool ((zaE p0 p1 p2))):=by
 obtain ⟨r,H⟩:∃ r,zaE p0 p1 p2=r:=⟨_,rfl⟩
 rw [H]
 unfold zaE at H
 refine Ctr.ob Tryz.func153 Tryz.ntmps153 (fun w0 h0 hval=>?_)
 refine W.rg env [0,1,2] [] ?_
 refine W.sr env [] [] [6] [] rfl rfl rfl (.cons id (.cons id (.cons id (.cons id (.cons id (.cons (fun hW h=>by revert hW h;first|(simp +contextual;done)|grind) (.cons id .nil))))))) .nil ?_
 refine W.ret ?_
 cases H
 exact At.rz env hval
theorem zdS (fuel:Nat) (p0:Wear) (p1:Int) (p2:Int) (p3:Int) {r:(Mantle×Bool)} (H:zbV fuel p0 p1 p2 p3=some r):Ctr Tryz.prog 94 [.agg (zal p0),.int .i64 (p1),.int .i64 (p2),.int .i64 (p3)] (.tup [.agg [.int .i64 (r.1.Source),.int .i64 (r.1.Lamp),.int .i64 (r.1.Batch),.int .i64 (r.1.Night),.int .i64 (r.1.Known),.int .i64 (r.1.Until)],.bool (r.2)]):=by
 unfold zbV at H
 refine Ctr.ob Tryz.func94 Tryz.ntmps94 (fun w0 h0 hval=>?_)
 refine W.rg env [1,2,3,4,8] [4,8] ?_
 refine W.rg env [1,2,3,4,8,10] [4,8,10] ?_
 refine W.rg env [1,2,3,4,8,10,11] [4,8,10] ?_
 refine W.seq (W.rg env [1,2,3,4,8,10,11,12] [4,8,10] ?_)
 refine W.block (At.kp [1,2,3,4,8,10,11,12] [4,8,10] ?_)
 refine W.loopGo H (fun (s1:Bool×Int×Mantle)=>[(1,.int .i64 (p1)),(2,.int .i64 (p2)),(3,.int .i64 (p3)),(4,.lp 4 0),(8,.lp 8 0),(10,.lp 10 0),(11,.bool (s1.1)),(12,.int .i64 (s1.2.1))]) (fun (s1:Bool×Int×Mantle)=>[(4,.cells (zal p0)),(8,.cells [.int .i64 (0),.int .i64 (0),.int .i64 (0),.int .i64 (0),.int .i64 (0),.int .i64 (0)]),(10,.cells [.int .i64 (s1.2.2.Source),.int .i64 (s1.2.2.Lamp),.int .i64 (s1.2.2.Batch),.int .i64 (s1.2.2.Night),.int .i64 (s1.2.2.Known),.int .i64 (s1.2.2.Until)])]) (.cons .qi (.cons .qi (.cons .qi (.cons .q (.cons .q (.cons .q (.cons .q (.cons .qi .nil)))))))) (.cons .q (.cons .q (.cons .q .nil))) (fun k1 s1 H K0 hK1=>?_)
 refine W.seq (W.rg env [1,2,3,4,8,10,11,12,18] [4,8,10] ?_)
 refine W.co H rfl (fun hb2 H=>?_) (fun hb2 H=>?_)
 · refine W.skip (At.zad (W.seq (W.block ?_)))
   obtain ⟨hc3,H⟩:=zaa H
   refine W.sr env [] [] [1,2,3,4,8,10,11,12,13] [4,8,10,13] rfl rfl rfl (.cons hc3 .nil) .nil ?_
   refine W.sr env [] [⟨.bool ((zaE ((p0.Mantles.getD (s1.2.1).toNat default).Known) ((p0.Mantles.getD (s1.2.1).toNat default).Until) p3)),[],0,[]⟩] [1,2,3,4,8,10,11,12,13,54] [4,8,10,13] rfl rfl rfl (.cons id (.cons id (.cons id (.cons id (.cons id (.cons id (.cons id (.cons id (.cons id (.cons id (.cons id (.cons id (.cons id (.cons id (.cons id (.cons id (.cons id (.cons (fun hW h=>by revert hW h;first|(simp +contextual;done)|grind) (.cons id .nil))))))))))))))))))) (.on (fun hW=>zcS ((p0.Mantles.getD (s1.2.1).toNat default).Known) ((p0.Mantles.getD (s1.2.1).toNat default).Until) p3) .nil) ?_
   refine W.co H rfl (fun hb4 H=>?_) (fun hb4 H=>?_)
   · refine W.rg env [1,2,3,4,8,10,12] [4,8,10] ?_
     refine W.region env [] [] rfl rfl rfl .nil .nil (At.kp [1,2,3,4,8,10,11,12] [4,8,10] ?_)
     refine At.inb (At.zad ?_)
     obtain ⟨hc5,H⟩:=zaa H
     refine W.r1 env hc5 [1,2,3,4,8,10,11,12] [4,8,10] ?_
     refine At.zaF (At.kp [1,2,3,4,8,10,11,12] [4,8,10] ?_)
     exact At.conv (.cons .qi (.cons .qi (.cons .qi (.cons .q (.cons .q (.cons .q (.cons .q (.cons .qi .nil)))))))) (.cons .q (.cons .q (.cons .q .nil))) (hK1 (true,(s1.2.1+1),(p0.Mantles.getD (s1.2.1).toNat default)) H)
   · refine W.skip (At.inb (At.zad ?_))
     obtain ⟨hc6,H⟩:=zaa H
     refine W.r1 env hc6 [1,2,3,4,8,10,11,12] [4,8,10] ?_
     refine At.zaF (At.kp [1,2,3,4,8,10,11,12] [4,8,10] ?_)
     exact At.conv (.cons .qi (.cons .qi (.cons .qi (.cons .q (.cons .q (.cons .q (.cons .q (.cons .qi .nil)))))))) (.cons .q (.cons .q (.cons .q .nil))) (hK1 (s1.1,(s1.2.1+1),s1.2.2) H)
 · refine W.exit (At.xthen (At.xthen (At.xhere (At.zad (W.rg env [8,9] [8] ?_)))))
   refine W.ret ?_
   cases H
   exact At.rz env hval
theorem zfP (fuel:Nat) (p0:Wear) (p1:Int) {r:(List Bool)} (H:zbM fuel p0 p1=some r):Ctr Tryz.prog 144 [.agg (zal p0),.int .i64 (p1)] (roL 1 zeC r):=by
 unfold zbM at H
 refine Ctr.ob Tryz.func144 Tryz.ntmps144 (fun w0 h0 hval=>?_)
 refine W.rg env [1,2] [2] ?_
 refine W.rg env [1,2,5] [2] ?_
 refine W.seq (W.rg env [1,2,5,6] [2] ?_)
 refine W.block (At.zfh 5 505 4 1 (e:=fun i=>zeC (([]:List Bool).getD i default)) rfl rfl ?_)
 refine At.kp [1,2,5,6] [2,505] ?_
 refine W.loopGo H (fun (s1:Int×(List Bool))=>[(1,.int .i64 (p1)),(2,.lp 2 0),(5,.buf 505 (s1.2).length),(6,.int .i64 (s1.1))]) (fun (s1:Int×(List Bool))=>[(2,.cells (zal p0)),(505,bufL 4 1 zeC s1.2)]) (.cons .qi (.cons .q (.cons .qb (.cons .qi .nil)))) (.cons .q (.cons .q .nil)) (fun k1 s1 H K0 hK1=>?_)
 refine W.seq (W.rg env [1,2,5,6,16] [2,505] ?_)
 refine W.co H rfl (fun hb2 H=>?_) (fun hb2 H=>?_)
 · refine W.skip (At.zad (W.seq (W.block ?_)))
   obtain ⟨hc3,H⟩:=zaa H
   refine W.sr env [] [] [1,2,5,6,7] [2,7,505] rfl rfl rfl (.cons hc3 .nil) .nil ?_
   refine W.seq ?_
   obtain ⟨y4,hy5,H⟩:=zac H
   refine W.region env [] [⟨.tup [.agg [.int .i64 (y4.1.Source),.int .i64 (y4.1.Lamp),.int .i64 (y4.1.Batch),.int .i64 (y4.1.Night),.int .i64 (y4.1.Known),.int .i64 (y4.1.Until)],.bool (y4.2)],[],0,[]⟩] rfl rfl rfl .nil (.free (zdS fuel p0 ((p0.Burns.getD (s1.1).toNat default).Lamp) ((p0.Burns.getD (s1.1).toNat default).Night) p1 hy5) .nil) (At.kp [1,2,5,6,7,9] [2,7,505] ?_)
   refine At.zad (W.sr env [] [⟨.bool ((zaE ((p0.Burns.getD (s1.1).toNat default).Known) ((p0.Burns.getD (s1.1).toNat default).Until) p1)),[],0,[]⟩] [1,2,5,6,7,9] [2,7,505] rfl rfl rfl (.cons id (.cons id (.cons id (.cons id (.cons id (.cons id .nil)))))) (.on (fun hW=>zcS ((p0.Burns.getD (s1.1).toNat default).Known) ((p0.Burns.getD (s1.1).toNat default).Until) p1) .nil) ?_)
   refine W.seq ?_
   obtain ⟨hc6,H⟩:=zaa H
   refine W.sr env [] [] [1,2,5,6,7,9,10] [2,7,505] rfl rfl rfl (.cons hc6 .nil) .nil ?_
   refine W.block (At.kp [1,2,5,6,7,9,10] [2,7,505] ?_)
   refine W.loopGo H (fun (s7:Int×Bool)=>[(1,.int .i64 (p1)),(2,.lp 2 0),(5,.buf 505 (s1.2).length),(6,.int .i64 (s1.1)),(7,.lp 7 0),(9,.bool (s7.2)),(10,.int .i64 (s7.1))]) (fun (s7:Int×Bool)=>[(2,.cells (zal p0)),(7,.cells [.int .i64 ((p0.Burns.getD (s1.1).toNat default).Source),.int .i64 ((p0.Burns.getD (s1.1).toNat default).Lamp),.int .i64 ((p0.Burns.getD (s1.1).toNat default).Night),.int .i64 ((p0.Burns.getD (s1.1).toNat default).Minutes.Lo),.int .i64 ((p0.Burns.getD (s1.1).toNat default).Minutes.Hi),.int .i64 ((p0.Burns.getD (s1.1).toNat default).Known),.int .i64 ((p0.Burns.getD (s1.1).toNat default).Until)]),(505,bufL 4 1 zeC s1.2)]) (.cons .qi (.cons .q (.cons .qb (.cons .qi (.cons .q (.cons .q (.cons .qi .nil))))))) (.cons .q (.cons .q (.cons .q .nil))) (fun k7 s7 H K0 hK7=>?_)
   refine W.seq (W.rg env [1,2,5,6,7,9,10,49] [2,7,505] ?_)
   refine W.co H rfl (fun hb8 H=>?_) (fun hb8 H=>?_)
   · refine W.skip (At.zad (W.seq (W.block ?_)))
     obtain ⟨hc9,H⟩:=zaa H
     refine W.sr env [] [] [1,2,5,6,7,9,10,11] [2,7,11,505] rfl rfl rfl (.cons hc9 .nil) .nil ?_
     refine W.region env [] [⟨.bool ((zaE ((p0.Burns.getD (s7.1).toNat default).Known) ((p0.Burns.getD (s7.1).toNat default).Until) p1)),[],0,[]⟩] rfl rfl rfl (.cons id (.cons id (.cons id (.cons id (.cons id (.cons id (.cons id (.cons id (.cons id (.cons id (.cons (fun hW h=>by revert hW h;first|(simp +contextual;done)|grind) (.cons id (.cons id (.cons id (.cons id (.cons id (.cons id (.cons id (.cons id (.cons (fun hW h=>by revert hW h;first|(simp +contextual;done)|grind) (.cons id .nil))))))))))))))))))))) (.on (fun hW=>zcS ((p0.Burns.getD (s7.1).toNat default).Known) ((p0.Burns.getD (s7.1).toNat default).Until) p1) .nil) (At.kp [1,2,5,6,7,9,10] [2,7,505] ?_)
     refine At.inb (At.zad ?_)
     obtain ⟨hc10,H⟩:=zaa H
     refine W.r1 env hc10 [1,2,5,6,7,9,10] [2,7,505] ?_
     refine At.zaF (At.kp [1,2,5,6,7,9,10] [2,7,505] ?_)
     exact At.conv (.cons .qi (.cons .q (.cons .qb (.cons .qi (.cons .q (.cons .q (.cons .qi .nil))))))) (.cons .q (.cons .q (.cons .q .nil))) (hK7 ((s7.1+1),(s7.2 && (((!decide ((p0.Burns.getD (s7.1).toNat default).Lamp=(p0.Burns.getD (s1.1).toNat default).Lamp)) || (!decide ((p0.Burns.getD (s7.1).toNat default).Night=(p0.Burns.getD (s1.1).toNat default).Night))) || (!(zaE ((p0.Burns.getD (s7.1).toNat default).Known) ((p0.Burns.getD (s7.1).toNat default).Until) p1))))) H)
   · refine W.exit (At.xthen (At.xthen (At.xhere (At.zad ?_))))
     obtain ⟨hc11,H⟩:=zaa H
     refine W.region env [] [] rfl rfl rfl (.cons (rmI hc11) .nil) .nil (At.kp [1,2,5,6] [2,505] ?_)
     refine At.zbb (.cons (.refl _) (.cons (y:=bufL 4 1 zeC (s1.2++([s7.2]:List Bool))) (BSim.seg (Seg.push (Seg.refl zeC _) (Seg.lit (f:=zeC) (sz:=1) ([s7.2]:List Bool) rfl rfl (fun _=>rfl)))) .nil)) ?_
     refine At.inb (At.zad ?_)
     obtain ⟨hc12,H⟩:=zaa H
     refine W.r1 env hc12 [1,2,5,6] [2,505] ?_
     refine At.zaF (At.kp [1,2,5,6] [2,505] ?_)
     exact At.conv (.cons .qi (.cons .q (.cons .qb (.cons .qi .nil)))) (.cons .q (.cons .q .nil)) (hK1 ((s1.1+1),(s1.2++([s7.2]:List Bool))) H)
 · refine W.exit (At.xthen (At.xthen (At.xhere (At.zad (W.rg env [4] [505] ?_)))))
   refine W.ret ?_
   cases H
   exact At.ret env.ty rfl rfl (fun q hq=>by cases hq;exact (by first|rfl|(simp;done)|omega|(simp;omega))) (.refl _) hval
theorem zhR (p0:Int) (p1:Int) (p2:Int):Ctr Tryz.prog 83 [.int .i64 (p0),.int .i64 (p1),.int .i64 (p2)] (.bool ((zaB p0 p1 p2))):=by
 obtain ⟨r,H⟩:∃ r,zaB p0 p1 p2=r:=⟨_,rfl⟩
 rw [H]
 unfold zaB at H
 refine Ctr.ob Tryz.func83 Tryz.ntmps83 (fun w0 h0 hval=>?_)
 refine W.rg env [0,1,2] [] ?_
 refine W.sr env [] [] [6] [] rfl rfl rfl (.cons id (.cons id (.cons id .nil))) .nil ?_
 refine W.ret ?_
 cases H
 exact At.rz env hval
theorem zgt (fuel:Nat) (p0:Wear) (p1:Lives) (p2:gasolierref06_When) {r:Bool} (H:zb6 fuel p0 p1 p2=some r):Ctr Tryz.prog 89 [.agg (zal p0),.agg [roL 1 zab p1.Lives,roL 1 zab p1.Minutes],.agg [.int .i64 (p2.Lamp),.int .i64 (p2.Night),.int .i64 (p2.Known)]] (.bool (r)):=by
 unfold zb6 at H
 refine Ctr.ob Tryz.func89 Tryz.ntmps89 (fun w0 h0 hval=>?_)
 refine W.rg env [3,4,5] [3,4,5] ?_
 refine W.seq ?_
 obtain ⟨y1,hy2,H⟩:=zac H
 refine W.region env [] [⟨.tup [.agg [.int .i64 (y1.1.Source),.int .i64 (y1.1.Lamp),.int .i64 (y1.1.Batch),.int .i64 (y1.1.Night),.int .i64 (y1.1.Known),.int .i64 (y1.1.Until)],.bool (y1.2)],[],0,[]⟩] rfl rfl rfl .nil (.free (zdS fuel p0 p2.Lamp p2.Night p2.Known hy2) .nil) (At.kp [3,4,5,7,8] [3,4,5,7] ?_)
 refine At.zad (W.seq ?_)
 obtain ⟨y3,hy4,H⟩:=zac H
 refine W.region env [] [⟨roL 1 zeC y3,[],0,[]⟩] rfl rfl rfl .nil (.free (zfP fuel p0 p2.Known hy4) .nil) (At.kp [3,4,5,7,8,9] [3,4,5,7] ?_)
 refine At.zad (W.rg env [3,4,5,7,8,9,10] [3,4,5,7] ?_)
 refine W.seq (W.rg env [3,4,5,7,8,9,10,11] [3,4,5,7] ?_)
 refine W.block (At.kp [3,4,5,7,8,9,10,11] [3,4,5,7] ?_)
 refine W.loopGo H (fun (s5:Int×Int)=>[(3,.lp 3 0),(4,.lp 4 0),(5,.lp 5 0),(7,.lp 7 0),(8,.bool (y1.2)),(9,roL 1 zeC y3),(10,.int .i64 (s5.1)),(11,.int .i64 (s5.2))]) (fun (s5:Int×Int)=>[(3,.cells (zal p0)),(4,.cells [roL 1 zab p1.Lives,roL 1 zab p1.Minutes]),(5,.cells [.int .i64 (p2.Lamp),.int .i64 (p2.Night),.int .i64 (p2.Known)]),(7,.cells [.int .i64 (y1.1.Source),.int .i64 (y1.1.Lamp),.int .i64 (y1.1.Batch),.int .i64 (y1.1.Night),.int .i64 (y1.1.Known),.int .i64 (y1.1.Until)])]) (.cons .q (.cons .q (.cons .q (.cons .q (.cons .q (.cons .q (.cons .qi (.cons .qi .nil)))))))) (.cons .q (.cons .q (.cons .q (.cons .q .nil)))) (fun k5 s5 H K0 hK5=>?_)
 refine W.seq (W.rg env [3,4,5,7,8,9,10,11,33] [3,4,5,7] ?_)
 refine W.co H rfl (fun hb6 H=>?_) (fun hb6 H=>?_)
 · refine W.skip (At.zad (W.seq (W.block ?_)))
   obtain ⟨hc7,H⟩:=zaa H
   refine W.sr env [] [] [3,4,5,7,8,9,10,11,12] [3,4,5,7,12] rfl rfl rfl (.cons hc7 .nil) .nil ?_
   obtain ⟨hc8,H⟩:=zaa H
   refine W.sr env [] [⟨.bool ((zaB ((p0.Burns.getD (s5.2).toNat default).Night) y1.1.Night p2.Night)),[],0,[]⟩] [3,4,5,7,8,9,10,11,60] [3,4,5,7] rfl rfl rfl (.cons hc8 (.cons id (.cons id (.cons id (.cons id (.cons id (.cons id (.cons id (.cons id (.cons id (.cons id (.cons id (.cons id .nil))))))))))))) (.on (fun hW=>zhR ((p0.Burns.getD (s5.2).toNat default).Night) y1.1.Night p2.Night) .nil) ?_
   refine W.co H rfl (fun hb9 H=>?_) (fun hb9 H=>?_)
   · obtain ⟨hc10,H⟩:=zaa H
     obtain ⟨hc11,H⟩:=zaa H
     refine W.region env [] [] rfl rfl rfl (.cons hc10 (.cons hc11 .nil)) .nil (At.kp [3,4,5,7,8,9,10,11] [3,4,5,7] ?_)
     refine At.inb (At.zad ?_)
     obtain ⟨hc12,H⟩:=zaa H
     refine W.r1 env hc12 [3,4,5,7,8,9,10,11] [3,4,5,7] ?_
     refine At.zaF (At.kp [3,4,5,7,8,9,10,11] [3,4,5,7] ?_)
     exact At.conv (.cons .q (.cons .q (.cons .q (.cons .q (.cons .q (.cons .q (.cons .qi (.cons .qi .nil)))))))) (.cons .q (.cons .q (.cons .q (.cons .q .nil)))) (hK5 ((s5.1+(p1.Minutes.getD (s5.2).toNat default)),(s5.2+1)) H)
   · refine W.skip (At.inb (At.zad ?_))
     obtain ⟨hc13,H⟩:=zaa H
     refine W.r1 env hc13 [3,4,5,7,8,9,10,11] [3,4,5,7] ?_
     refine At.zaF (At.kp [3,4,5,7,8,9,10,11] [3,4,5,7] ?_)
     exact At.conv (.cons .q (.cons .q (.cons .q (.cons .q (.cons .q (.cons .q (.cons .qi (.cons .qi .nil)))))))) (.cons .q (.cons .q (.cons .q (.cons .q .nil)))) (hK5 (s5.1,(s5.2+1)) H)
 · refine W.exit (At.xthen (At.xthen (At.xhere (At.zad (W.seq (W.rg env [3,4,7,8,10,13] [3,4,7] ?_))))))
   refine W.block (At.kp [3,4,7,8,10,13] [3,4,7] ?_)
   refine W.loopGo H (fun (s14:Int)=>[(3,.lp 3 0),(4,.lp 4 0),(7,.lp 7 0),(8,.bool (y1.2)),(10,.int .i64 (s5.1)),(13,.int .i64 (s14))]) (fun (s14:Int)=>[(3,.cells (zal p0)),(4,.cells [roL 1 zab p1.Lives,roL 1 zab p1.Minutes]),(7,.cells [.int .i64 (y1.1.Source),.int .i64 (y1.1.Lamp),.int .i64 (y1.1.Batch),.int .i64 (y1.1.Night),.int .i64 (y1.1.Known),.int .i64 (y1.1.Until)])]) (.cons .q (.cons .q (.cons .q (.cons .q (.cons .qi (.cons .qi .nil)))))) (.cons .q (.cons .q (.cons .q .nil))) (fun k14 s14 H K0 hK14=>?_)
   refine W.seq (W.rg env [3,4,7,8,10,13,72] [3,4,7] ?_)
   refine W.co H rfl (fun hb15 H=>?_) (fun hb15 H=>?_)
   · refine W.skip (At.zad (W.seq (W.block ?_)))
     obtain ⟨hc16,H⟩:=zaa H
     refine W.sr env [] [] [3,4,7,8,10,13,83] [3,4,7] rfl rfl (by first|rfl|kernel_rfl) (.cons hc16 .nil) .nil ?_
     refine W.co H rfl (fun hb17 H=>?_) (fun hb17 H=>?_)
     · obtain ⟨hc18,H⟩:=zaa H
       refine W.sr env [] [] [6] [] rfl rfl rfl (.cons id (.cons hc18 (.cons id (.cons id (.cons id (.cons id (.cons id (.cons id .nil)))))))) .nil ?_
       refine W.ret (At.rinb ?_)
       refine At.rthen ?_
       refine At.rthen ?_
       refine At.rinb ?_
       refine At.rthen ?_
       cases H
       exact At.rz env hval
     · refine W.skip (At.inb (At.zad ?_))
       obtain ⟨hc19,H⟩:=zaa H
       refine W.r1 env hc19 [3,4,7,8,10,13] [3,4,7] ?_
       refine At.zaF (At.kp [3,4,7,8,10,13] [3,4,7] ?_)
       exact At.conv (.cons .q (.cons .q (.cons .q (.cons .q (.cons .qi (.cons .qi .nil)))))) (.cons .q (.cons .q (.cons .q .nil))) (hK14 (s14+1) H)
   · refine W.exit (At.xthen (At.xthen (At.xhere (At.zad (W.rg env [6] [] ?_)))))
     refine W.ret ?_
     cases H
     exact At.rz env hval
theorem zek (p0:Wear) {r:Wear} (H:zbT p0=some r):CtrO Tryz.prog 68 [.agg (zal p0)] [] (.agg [.buf 940 (r.Batches).length,.buf 941 (r.Mantles).length,.buf 942 (r.Burns).length,.buf 943 (r.Looks).length]) [(940,bufL 31 3 zav r.Batches),(941,bufL 33 6 zao r.Mantles),(942,bufL 35 7 zaA r.Burns),(943,bufL 37 6 zaj r.Looks)]:=by
 unfold zbT at H
 refine CtrO.zb5 (N:=20) Tryz.func68 (by kernel_rfl) (c:=_) rfl Tryz.ntmps68 rfl (fun w0 h0 ρb hval hdom=>?_)
 refine W.rg env [1,2] [1,2] ?_
 refine W.seq ?_
 obtain ⟨hc1,H⟩:=zaa H
 obtain ⟨hc2,H⟩:=zaa H
 obtain ⟨hc3,H⟩:=zaa H
 obtain ⟨hc4,H⟩:=zaa H
 refine W.region env [3,7,11,15] [] rfl rfl (by first|rfl|kernel_rfl) (.cons (rmI hc1) (.cons (rmI hc2) (.cons (rmI hc3) (.cons (rmI hc4) .nil)))) .nil (At.kp [2] [2,3,7,11,15] ?_)
 refine At.zbb (.cons (.refl _) (.cons (y:=bufL 31 3 zav (([]:List Batch)++p0.Batches)) (BSim.seg (Seg.push (Seg.lit (f:=zav) (sz:=3) ([]:List Batch) rfl rfl (fun _=>rfl)) (Seg.refl zav p0.Batches))) (.cons (y:=bufL 33 6 zao (([]:List Mantle)++p0.Mantles)) (BSim.seg (Seg.push (Seg.lit (f:=zao) (sz:=6) ([]:List Mantle) rfl rfl (fun _=>rfl)) (Seg.refl zao p0.Mantles))) (.cons (y:=bufL 35 7 zaA (([]:List Burn)++p0.Burns)) (BSim.seg (Seg.push (Seg.lit (f:=zaA) (sz:=7) ([]:List Burn) rfl rfl (fun _=>rfl)) (Seg.refl zaA p0.Burns))) (.cons (y:=bufL 37 6 zaj (([]:List Look)++p0.Looks)) (BSim.seg (Seg.push (Seg.lit (f:=zaj) (sz:=6) ([]:List Look) rfl rfl (fun _=>rfl)) (Seg.refl zaj p0.Looks))) .nil))))) ?_
 refine At.zad (W.ret ?_)
 cases H
 refine At.ren [(3,940),(7,941),(11,942),(15,943)] (K:=[2,3,7,11,15]) (ts:=[2]) rfl rfl rfl rfl rfl ?_
 exact At.retK env.ty [940,941,942,943] 0 rfl rfl rfl rfl (.cons (.refl _) (.cons (.refl _) (.cons (.refl _) (.cons (.refl _) .nil)))) (Sim.aggL (.cons .qc (.cons .qc (.cons .qc (.cons .qc .nil))))) hval hdom rfl
theorem zgu (fuel:Nat) (p0:Wear) (p1:Lives) (p2:Int) {r:Wear} (H:zb7 fuel p0 p1 p2=some r):Ctr Tryz.prog 29 [.agg (zal p0),.agg [roL 1 zab p1.Lives,roL 1 zab p1.Minutes],.int .i64 (p2)] (.agg (zal r)):=by
 unfold zb7 at H
 refine Ctr.ob Tryz.func29 Tryz.ntmps29 (fun w0 h0 hval=>?_)
 refine W.rg env [2,3,4,6] [3,4,6] ?_
 refine W.seq ?_
 obtain ⟨y1,hy2,H⟩:=zac H
 refine W.region env [] [⟨.agg [.buf 940 (y1.Batches).length,.buf 941 (y1.Mantles).length,.buf 942 (y1.Burns).length,.buf 943 (y1.Looks).length],[(940,bufL 31 3 zav y1.Batches),(941,bufL 33 6 zao y1.Mantles),(942,bufL 35 7 zaA y1.Burns),(943,bufL 37 6 zaj y1.Looks)],12000,[]⟩] rfl rfl (by kernel_rfl) .nil (.free ((Ctr.ofO (zek p0 hy2))) .nil) (At.kp [2,3,4,6,7] [3,4,6,7,12940,12941,12942,12943] ?_)
 refine At.zad (W.seq (W.rg env [2,3,4,6,7,8] [3,4,6,7,12940,12941,12942,12943] ?_))
 refine W.block (At.kp [2,3,4,6,7,8] [3,4,6,7,12940,12941,12942,12943] ?_)
 refine W.loopGo H (fun (s3:Int×(List Look))=>[(2,.int .i64 (p2)),(3,.lp 3 0),(4,.lp 4 0),(6,.lp 6 0),(7,.lp 7 0),(8,.int .i64 (s3.1))]) (fun (s3:Int×(List Look))=>[(3,.cells (zal p0)),(4,.cells [roL 1 zab p1.Lives,roL 1 zab p1.Minutes]),(6,.cells [.nilS,.nilS,.nilS,.nilS]),(7,.cells [.buf 12940 (y1.Batches).length,.buf 12941 (y1.Mantles).length,.buf 12942 (y1.Burns).length,.buf 12943 (s3.2).length]),(12940,bufL 31 3 zav y1.Batches),(12941,bufL 33 6 zao y1.Mantles),(12942,bufL 35 7 zaA y1.Burns),(12943,bufL 37 6 zaj s3.2)]) (.cons .qi (.cons .q (.cons .q (.cons .q (.cons .q (.cons .qi .nil)))))) (.cons .q (.cons .q (.cons (BSim.cells (.cons Sim.o (.cons Sim.o (.cons Sim.o (.cons Sim.o .nil))))) (.cons (BSim.cells (.cons .qc (.cons .qc (.cons .qc (.cons .qc .nil))))) (.cons .q (.cons .q (.cons .q (.cons .q .nil)))))))) (fun k3 s3 H K0 hK3=>?_)
 refine W.seq (W.sr env [] [] [2,3,4,6,7,8,16] [3,4,6,7,12940,12941,12942,12943] rfl rfl rfl (.cons (by first|rfl|(simp;done)|omega|(simp;omega)) .nil) .nil ?_)
 refine W.co H rfl (fun hb4 H=>?_) (fun hb4 H=>?_)
 · refine W.skip (At.zad (W.seq (W.block ?_)))
   obtain ⟨hc5,H⟩:=zaa H
   refine W.sr env [] [] [2,3,4,6,7,8,9] [3,4,6,7,9,12940,12941,12942,12943] rfl rfl rfl (.cons (⟨by first|rfl|(simp;done)|omega|(simp;omega),hc5⟩) (.cons (⟨by first|rfl|(simp;done)|omega|(simp;omega),(by have:=hc5;first|omega|(simp only [List.length_set];omega)|(simp only [Int.toNat_natCast] at *;omega)|(simp at this ⊢;omega))⟩) .nil)) .nil ?_
   obtain ⟨y6,hy7,H⟩:=zac H
   obtain ⟨hc8,H⟩:=zaa H
   refine W.region env [] [⟨.bool (y6),[],0,[]⟩] rfl rfl (by kernel_rfl) (.cons (⟨by first|rfl|(simp;done)|omega|(simp;omega),hc8⟩) (.cons (⟨by first|rfl|(simp;done)|omega|(simp;omega),(by have:=hc8;first|omega|(simp only [List.length_set];omega)|(simp only [Int.toNat_natCast] at *;omega)|(simp at this ⊢;omega))⟩) .nil)) (.free (zgt fuel p0 p1 (⟨(s3.2.getD (s3.1).toNat default).Lamp,(s3.2.getD (s3.1).toNat default).Night,p2⟩:gasolierref06_When) hy7) .nil) (At.kp [2,3,4,6,7,8] [3,4,6,7,12940,12941,12942,12943] ?_)
   refine At.zbb (.cons (.refl _) (.cons (.refl _) (.cons (.refl _) (.cons (.refl _) (.cons (.refl _) (.cons (.refl _) (.cons (.refl _) (.cons (y:=bufL 37 6 zaj (s3.2.set (s3.1).toNat (⟨(s3.2.getD (s3.1).toNat default).Source,(s3.2.getD (s3.1).toNat default).Lamp,(s3.2.getD (s3.1).toNat default).Night,y6,(s3.2.getD (s3.1).toNat default).Known,(s3.2.getD (s3.1).toNat default).Until⟩:Look))) (BSim.seg (Seg.set (Seg.refl zaj _) (⟨(s3.2.getD (s3.1).toNat default).Source,(s3.2.getD (s3.1).toNat default).Lamp,(s3.2.getD (s3.1).toNat default).Night,y6,(s3.2.getD (s3.1).toNat default).Known,(s3.2.getD (s3.1).toNat default).Until⟩:Look) rfl)) .nil)))))))) ?_
   refine At.inb (At.zad ?_)
   obtain ⟨hc9,H⟩:=zaa H
   refine W.r1 env hc9 [2,3,4,6,7,8] [3,4,6,7,12940,12941,12942,12943] ?_
   refine At.zaF (At.kp [2,3,4,6,7,8] [3,4,6,7,12940,12941,12942,12943] ?_)
   exact At.conv (.cons .qi (.cons .q (.cons .q (.cons .q (.cons .q (.cons .qi .nil)))))) (.cons .q (.cons .q (.cons (BSim.cells (.cons Sim.o (.cons Sim.o (.cons Sim.o (.cons Sim.o .nil))))) (.cons (BSim.cells (.cons .qc (.cons .qc (.cons .qc (.cons .qc .nil))))) (.cons .q (.cons .q (.cons .q (.cons .q .nil)))))))) (hK3 ((s3.1+1),(s3.2.set (s3.1).toNat (⟨(s3.2.getD (s3.1).toNat default).Source,(s3.2.getD (s3.1).toNat default).Lamp,(s3.2.getD (s3.1).toNat default).Night,y6,(s3.2.getD (s3.1).toNat default).Known,(s3.2.getD (s3.1).toNat default).Until⟩:Look))) H)
 · refine W.exit (At.xthen (At.xthen (At.xhere (At.zad (W.rg env [6] [6,12940,12941,12942,12943] ?_)))))
   refine W.ret ?_
   cases H
   exact At.ret env.ty rfl rfl (fun q hq=>by cases hq;exact (by (repeat' apply And.intro) <;> first|rfl|(simp;done)|omega|(simp;omega))) (.refl _) hval
theorem zgW (fuel:Nat) (p0:Wear) (p1:Int) (p2:Int) {r:(List Int)} (H:zcg fuel p0 p1 p2=some r):Ctr Tryz.prog 32 [.agg (zal p0),.int .i64 (p1),.int .i64 (p2)] (roL 1 zab r):=by
 unfold zcg at H
 refine Ctr.ob Tryz.func32 Tryz.ntmps32 (fun w0 h0 hval=>?_)
 refine W.rg env [1,2,3] [3] ?_
 refine W.rg env [1,2,3,7] [3] ?_
 refine W.seq (W.rg env [1,2,3,7,8] [3] ?_)
 refine W.block (At.zfh 7 507 3 1 (e:=fun i=>zab (([]:List Int).getD i default)) rfl rfl ?_)
 refine At.kp [1,2,3,7,8] [3,507] ?_
 refine W.loopGo H (fun (s1:Int×(List Int))=>[(1,.int .i64 (p1)),(2,.int .i64 (p2)),(3,.lp 3 0),(7,.buf 507 (s1.2).length),(8,.int .i64 (s1.1))]) (fun (s1:Int×(List Int))=>[(3,.cells (zal p0)),(507,bufL 3 1 zab s1.2)]) (.cons .qi (.cons .qi (.cons .q (.cons .qb (.cons .qi .nil))))) (.cons .q (.cons .q .nil)) (fun k1 s1 H K0 hK1=>?_)
 refine W.seq (W.rg env [1,2,3,7,8,12] [3,507] ?_)
 refine W.co H rfl (fun hb2 H=>?_) (fun hb2 H=>?_)
 · refine W.skip (At.zad (W.seq (W.block (W.seq ?_))))
   obtain ⟨y3,hy4,H⟩:=zac H
   refine W.region env [] [⟨.tup [.agg [.int .i64 (y3.1.Source),.int .i64 (y3.1.Lamp),.int .i64 (y3.1.Batch),.int .i64 (y3.1.Night),.int .i64 (y3.1.Known),.int .i64 (y3.1.Until)],.bool (y3.2)],[],0,[]⟩] rfl rfl rfl .nil (.free (zdS fuel p0 s1.1 p1 p2 hy4) .nil) (At.kp [1,2,3,7,8,10] [3,507] ?_)
   refine At.zad (W.rg env [1,2,3,7,8,23] [3,507] ?_)
   refine W.co H rfl (fun hb5 H=>?_) (fun hb5 H=>?_)
   · obtain ⟨hc6,H⟩:=zaa H
     refine W.region env [] [] rfl rfl rfl (.cons (rmI hc6) .nil) .nil (At.kp [1,2,3,7,8] [3,507] ?_)
     refine At.zbb (.cons (.refl _) (.cons (y:=bufL 3 1 zab (s1.2++([s1.1]:List Int))) (BSim.seg (Seg.push (Seg.refl zab _) (Seg.lit (f:=zab) (sz:=1) ([s1.1]:List Int) rfl rfl (fun _=>rfl)))) .nil)) ?_
     refine At.inb (At.zad ?_)
     obtain ⟨hc7,H⟩:=zaa H
     refine W.r1 env hc7 [1,2,3,7,8] [3,507] ?_
     refine At.zaF (At.kp [1,2,3,7,8] [3,507] ?_)
     exact At.conv (.cons .qi (.cons .qi (.cons .q (.cons .qb (.cons .qi .nil))))) (.cons .q (.cons .q .nil)) (hK1 ((s1.1+1),(s1.2++([s1.1]:List Int))) H)
   · refine W.skip (At.inb (At.zad ?_))
     obtain ⟨hc8,H⟩:=zaa H
     refine W.r1 env hc8 [1,2,3,7,8] [3,507] ?_
     refine At.zaF (At.kp [1,2,3,7,8] [3,507] ?_)
     exact At.conv (.cons .qi (.cons .qi (.cons .q (.cons .qb (.cons .qi .nil))))) (.cons .q (.cons .q .nil)) (hK1 ((s1.1+1),s1.2) H)
 · refine W.exit (At.xthen (At.xthen (At.xhere (At.zad (W.rg env [6] [507] ?_)))))
   refine W.ret ?_
   cases H
   exact At.ret env.ty rfl rfl (fun q hq=>by cases hq;exact (by first|rfl|(simp;done)|omega|(simp;omega))) (.refl _) hval
theorem zjU (fuel:Nat) (p0:Wear) (p1:(List Int)) (p2:Int) (p3:Int) (p4:Int) {r:(Int×Int)} (H:zei fuel p0 p1 p2 p3 p4=some r):Ctr Tryz.prog 52 [.agg (zal p0),roL 1 zab p1,.int .i64 (p2),.int .i64 (p3),.int .i64 (p4)] (.tup [.int .i64 (r.1),.int .i64 (r.2)]):=by
 unfold zei at H
 refine Ctr.ob Tryz.func52 Tryz.ntmps52 (fun w0 h0 hval=>?_)
 refine W.rg env [1,2,3,4,5] [5] ?_
 refine W.seq ?_
 obtain ⟨y1,hy2,H⟩:=zac H
 refine W.region env [] [⟨.tup [.agg (zak y1.1),.int .i64 (y1.2)],[],0,[]⟩] rfl rfl rfl .nil (.free (zde fuel p0 p1 p2 p3 p4 hy2) .nil) (At.kp [4,12,13] [12] ?_)
 refine At.zad (W.seq (W.rg env [4,12,13,24] [12] ?_))
 refine W.co H rfl (fun hb3 H=>?_) (fun hb3 H=>?_)
 · refine W.rg env [10,11] [] ?_
   refine W.ret (At.rthen ?_)
   cases H
   exact At.rz env hval
 · refine W.skip (At.zad (W.seq ?_))
   obtain ⟨y4,hy5,H⟩:=zac H
   refine W.region env [] [⟨.agg [.int .i64 (y4.Lo),.int .i64 (y4.Hi)],[],0,[]⟩,⟨.int .i64 ((zaG y4 p4)),[],0,[]⟩] rfl rfl rfl .nil (.free (zcm y1.1 hy5) (.free (zfa y4 p4) .nil)) (At.kp [10,11] [] ?_)
   refine At.zad (W.ret ?_)
   cases H
   exact At.rz env hval
theorem zjV (p0:Int) (p1:Int):Ctr Tryz.prog 166 [.int .i64 (p0),.int .i64 (p1)] (.bool ((cmp_Less_int p0 p1))):=by
 obtain ⟨r,H⟩:∃ r,cmp_Less_int p0 p1=r:=⟨_,rfl⟩
 rw [H]
 unfold cmp_Less_int at H
 refine Ctr.ob Tryz.func166 Tryz.ntmps166 (fun w0 h0 hval=>?_)
 refine W.rg env [0,1] [] ?_
 refine W.sr env [] [⟨.bool ((cmp_isNaN_int p0)),[],0,[]⟩,⟨.bool ((cmp_isNaN_int p1)),[],0,[]⟩] [4] [] rfl rfl rfl (.cons id (.cons id (.cons id (.cons id (.cons id (.cons (fun h=>by rw [h];rfl) .nil)))))) (.free (zdT p0) (.on (fun hW=>zdT p1) .nil)) ?_
 refine W.ret ?_
 cases H
 exact At.rz env hval
theorem zeX (p0:Int):Ctr Tryz.prog 167 [.int .i64 (p0)] (.bool ((zbU p0))):=by
 obtain ⟨r,H⟩:∃ r,zbU p0=r:=⟨_,rfl⟩
 rw [H]
 unfold zbU at H
 refine Ctr.ob Tryz.func167 Tryz.ntmps167 (fun w0 h0 hval=>?_)
 refine W.rg env [0] [] ?_
 refine W.rg env [2] [] ?_
 refine W.ret ?_
 cases H
 exact At.rz env hval
theorem ze9 (fuel:Nat) (p0:(List Int)) (p1:Int) {r:(Int×Bool)} (H:zbl fuel p0 p1=some r):Ctr Tryz.prog 125 [roL 1 zab p0,.int .i64 (p1)] (.tup [.int .i64 (r.1),.bool (r.2)]):=by
 unfold zbl at H
 refine Ctr.ob Tryz.func125 Tryz.ntmps125 (fun w0 h0 hval=>?_)
 refine W.rg env [0,1] [] ?_
 refine W.rg env [0,1,6] [] ?_
 refine W.rg env [0,1,6,7,8] [] ?_
 refine W.seq (W.block (At.kp [0,1,6,7,8] [] ?_))
 refine W.loopGo H (fun (s1:Int×Int)=>[(0,roL 1 zab p0),(1,.int .i64 (p1)),(6,.int .i64 (((p0.length:Nat):Int))),(7,.int .i64 (s1.1)),(8,.int .i64 (s1.2))]) (fun (s1:Int×Int)=>[]) (.cons .q (.cons .qi (.cons .qi (.cons .qi (.cons .qi .nil))))) .nil (fun k1 s1 H K0 hK1=>?_)
 refine W.seq (W.rg env [0,1,6,7,8,15] [] ?_)
 refine W.co H rfl (fun hb2 H=>?_) (fun hb2 H=>?_)
 · refine W.skip (At.zad (W.block ?_))
   obtain ⟨hc3,H⟩:=zaa H
   obtain ⟨hc4,H⟩:=zaa H
   obtain ⟨hc5,H⟩:=zaa H
   refine W.sr env [] [] [0,1,6,7,8,9] [] rfl rfl rfl (.cons hc3 (.cons hc4 (.cons (by decide) (.cons hc5 .nil)))) .nil ?_
   obtain ⟨hc6,H⟩:=zaa H
   refine W.sr env [] [⟨.bool ((cmp_Less_int (p0.getD ((Int.fdiv (s1.1+s1.2) (2 ^ (1:Int).toNat))).toNat default) p1)),[],0,[]⟩] [0,1,6,7,8,9,27] [] rfl rfl rfl (.cons hc6 .nil) (.free (zjV (p0.getD ((Int.fdiv (s1.1+s1.2) (2 ^ (1:Int).toNat))).toNat default) p1) .nil) ?_
   refine W.co H rfl (fun hb7 H=>?_) (fun hb7 H=>?_)
   · obtain ⟨hc8,H⟩:=zaa H
     refine W.r1 env hc8 [0,1,6,7,8] [] ?_
     refine At.inb (At.zaF (At.kp [0,1,6,7,8] [] ?_))
     exact At.conv (.cons .q (.cons .qi (.cons .qi (.cons .qi (.cons .qi .nil))))) .nil (hK1 (((Int.fdiv (s1.1+s1.2) (2 ^ (1:Int).toNat))+1),s1.2) H)
   · refine W.region env [] [] rfl rfl rfl .nil .nil (At.kp [0,1,6,7,8] [] ?_)
     refine At.inb (At.zaF (At.kp [0,1,6,7,8] [] ?_))
     exact At.conv (.cons .q (.cons .qi (.cons .qi (.cons .qi (.cons .qi .nil))))) .nil (hK1 (s1.1,(Int.fdiv (s1.1+s1.2) (2 ^ (1:Int).toNat))) H)
 · refine W.exit (At.xthen (At.xthen (At.xhere (At.zad ?_))))
   obtain ⟨hc9,H⟩:=zaa H
   obtain ⟨hc10,H⟩:=zaa H
   refine W.sr env [] [⟨.bool ((zbU (p0.getD (s1.1).toNat default))),[],0,[]⟩,⟨.bool ((zbU p1)),[],0,[]⟩] [4,5] [] rfl rfl rfl (.cons hc9 (.cons id (.cons id (.cons id (.cons id (.cons id (.cons id (.cons hc10 (.cons id (.cons id (.cons id (.cons id (.cons id (.cons id (.cons id (.cons (fun hW h=>by revert hW h;first|(simp +contextual;done)|grind) (.cons id (.cons (fun hW h=>by revert hW h;first|(simp +contextual;done)|grind) (.cons id .nil))))))))))))))))))) (.on (fun hW=>zeX (p0.getD (s1.1).toNat default)) (.on (fun hW=>zeX p1) .nil)) ?_
   refine W.ret ?_
   cases H
   exact At.rz env hval
theorem zhN (p0:(List Int)) (p1:Int) {r:Int} (H:zdq p0 p1=some r):Ctr Tryz.prog 168 [roL 1 zab p0,.int .i64 (p1)] (.int .i64 (r)):=by
 unfold zdq at H
 refine Ctr.ob Tryz.func168 Tryz.ntmps168 (fun w0 h0 hval=>?_)
 refine W.rg env [0,1] [] ?_
 refine W.seq (W.rg env [0,1,7,8] [] ?_)
 refine W.block (At.kp [0,1,7,8] [] ?_)
 refine W.len (t:=0) rfl (fun hn1=>?_)
 refine W.zaq H (fun i1 (s1:Unit)=>[(0,roL 1 zab p0),(1,.int .i64 (p1)),(7,.int .i64 (((p0.length:Nat):Int))),(8,.int .i64 ((i1:Int)))]) (fun i1 (s1:Unit)=>[]) (.cons .q (.cons .qi (.cons .qi (.cons .qi .nil)))) .nil (fun k1 i1 s1 hle1 H1 H2 K0 hK1=>?_)
 refine W.rg env [0,1,7,8,9] [] ?_
 refine W.seq (W.cond rfl (fun hb2=>?_) (fun hb2=>?_))
 · have hi1:i1<p0.length:=ltD hb2
   have H:=H1 hi1
   refine W.skip (At.zad (W.seq (W.block (W.rg env [0,1,5,7,8] [] ?_))))
   refine W.sr env [] [] [0,1,5,7,8,16] [] rfl rfl rfl (.cons (inD hi1) .nil) .nil ?_
   refine W.co H rfl (fun hb3 H=>?_) (fun hb3 H=>?_)
   · refine W.rg env [4] [] ?_
     refine W.ret (At.rinb ?_)
     refine At.rthen ?_
     refine At.rthen ?_
     refine At.rinb ?_
     refine At.rthen ?_
     cases H
     exact At.rz env hval
   · refine W.skip (At.inb (At.zad (W.region env [] [] rfl rfl rfl (.cons (incD hi1 hn1) .nil) .nil (At.kp [0,1,7,8] [] ?_))))
     refine At.zaF (At.kp [0,1,7,8] [] ?_)
     exact At.conv (.cons .q (.cons .qi (.cons .qi (.cons .qi .nil)))) .nil (hK1 hi1 () H)
 · have H:=H2 (geD hb2)
   refine W.exit (At.xthen (At.xthen (At.xhere (At.zad (W.rg env [4] [] ?_)))))
   refine W.ret ?_
   cases H
   exact At.rz env hval
theorem zgm (p0:(List Int)) (p1:Int) {r:Bool} (H:zb4 p0 p1=some r):Ctr Tryz.prog 126 [roL 1 zab p0,.int .i64 (p1)] (.bool (r)):=by
 unfold zb4 at H
 refine Ctr.ob Tryz.func126 Tryz.ntmps126 (fun w0 h0 hval=>?_)
 refine W.rg env [0,1] [] ?_
 refine W.seq ?_
 obtain ⟨y1,hy2,H⟩:=zac H
 refine W.region env [] [⟨.int .i64 (y1),[],0,[]⟩] rfl rfl rfl .nil (.free (zhN p0 p1 hy2) .nil) (At.kp [4] [] ?_)
 refine At.zad (W.ret ?_)
 cases H
 exact At.rz env hval
theorem zey (fuel:Nat) (p0:Wear) (p1:(List Int)) (p2:Int) (p3:Int) (p4:Int) (p5:Bool) (p6:(List Int)) {r:Int} (H:zbR fuel p0 p1 p2 p3 p4 p5 p6=some r):Ctr Tryz.prog 54 [.agg (zal p0),roL 1 zab p1,.int .i64 (p2),.int .i64 (p3),.int .i64 (p4),.bool (p5),roL 1 zab p6] (.int .i64 (r)):=by
 unfold zbR at H
 refine Ctr.ob Tryz.func54 Tryz.ntmps54 (fun w0 h0 hval=>?_)
 refine W.rg env [1,2,3,4,5,6,7] [7] ?_
 refine W.seq ?_
 obtain ⟨y1,hy2,H⟩:=zac H
 refine W.region env [] [⟨.tup [.agg (zak y1.1),.int .i64 (y1.2)],[],0,[]⟩] rfl rfl rfl .nil (.free (zde fuel p0 p1 p2 p3 p4 hy2) .nil) (At.kp [1,4,5,6,15,16] [15] ?_)
 refine At.zad (W.seq (W.rg env [1,4,5,6,15,16,33] [15] ?_))
 refine W.co H rfl (fun hb3 H=>?_) (fun hb3 H=>?_)
 · refine W.rg env [14] [] ?_
   refine W.ret (At.rthen ?_)
   cases H
   exact At.rz env hval
 · refine W.skip (At.zad (W.seq ?_))
   obtain ⟨y4,hy5,H⟩:=zac H
   refine W.region env [] [⟨roL 1 zab y4,[],0,[]⟩] rfl rfl rfl .nil (.free (zcQ y1.1 hy5) .nil) (At.kp [1,4,5,6,15,17] [15] ?_)
   refine At.zad (W.rg env [1,4,5,6,15,17,18] [15] ?_)
   refine W.seq (W.rg env [1,4,5,6,15,17,18,37,38,39] [15] ?_)
   refine W.block (At.zfh 18 518 3 1 (e:=fun i=>zab (([]:List Int).getD i default)) rfl rfl ?_)
   refine At.kp [1,4,5,6,15,17,18,37,38,39] [15,518] ?_
   refine W.len (t:=37) rfl (fun hn6=>?_)
   refine W.zaq H (fun i6 (s6:(List Int))=>[(1,roL 1 zab p1),(4,.int .i64 (p4)),(5,.bool (p5)),(6,roL 1 zab p6),(15,.lp 15 0),(17,roL 1 zab y4),(18,.buf 518 (s6).length),(37,roL 1 zab p6),(38,.int .i64 (((p6.length:Nat):Int))),(39,.int .i64 ((i6:Int)))]) (fun i6 (s6:(List Int))=>[(15,.cells (zak y1.1)),(518,bufL 3 1 zab s6)]) (.cons .q (.cons .qi (.cons .q (.cons .q (.cons .q (.cons .q (.cons .qb (.cons .q (.cons .qi (.cons .qi .nil)))))))))) (.cons .q (.cons .q .nil)) (fun k6 i6 s6 hle6 H1 H2 K0 hK6=>?_)
   refine W.rg env [1,4,5,6,15,17,18,37,38,39,40] [15,518] ?_
   refine W.seq (W.cond rfl (fun hb7=>?_) (fun hb7=>?_))
   · have hi6:i6<p6.length:=ltD hb7
     have H:=H1 hi6
     refine W.skip (At.zad (W.seq (W.block (W.sr env [] [] [1,4,5,6,15,17,18,19,20,37,38,39] [15,518] rfl rfl rfl (.cons (inD hi6) .nil) .nil ?_))))
     refine W.seq ?_
     obtain ⟨y8,hy9,H⟩:=zac H
     refine W.region env [] [⟨.tup [.int .i64 (y8.1),.bool (y8.2)],[],0,[]⟩] rfl rfl rfl .nil (.free (ze9 fuel p1 (p6.getD i6 default) hy9) .nil) (At.kp [1,4,5,6,15,17,18,19,20,21,22,37,38,39] [15,518] ?_)
     refine At.zad (W.seq (W.seq ?_))
     obtain ⟨hc10,H⟩:=zaa H
     obtain ⟨hc11,H⟩:=zaa H
     obtain ⟨y12,hy13,H⟩:=zac H
     refine W.region env [] [⟨.bool (y12),[],0,[]⟩] rfl rfl rfl (.cons id (.cons id (.cons hc10 (.cons id (.cons hc11 (.cons id (.cons id (.cons id (.cons id (.cons id (.cons id (.cons (fun hW h=>by revert hW h;first|(simp +contextual;done)|grind) (.cons (fun h=>by rw [h];rfl) (.cons id (.cons id (.cons id (.cons (fun h=>by rw [h];rfl) .nil))))))))))))))))) (.on (fun hW=>zgm y4 y8.1 (zbJ hy13 hW)) .nil) (At.kp [1,4,5,6,15,17,18,21,37,38,39,70] [15,518] ?_)
     refine At.zad (W.co H rfl (fun hb14 H=>?_) (fun hb14 H=>?_))
     · refine W.rg env [14] [] ?_
       refine W.ret (At.rthen ?_)
       refine At.rinb ?_
       refine At.rthen ?_
       refine At.rthen ?_
       refine At.rinb ?_
       refine At.rthen ?_
       cases H
       exact At.rz env hval
     · refine W.skip (At.zad ?_)
       obtain ⟨hc15,H⟩:=zaa H
       refine W.region env [] [] rfl rfl rfl (.cons (rmI hc15) .nil) .nil (At.kp [1,4,5,6,15,17,18,37,38,39] [15,518] ?_)
       refine At.zbb (.cons (.refl _) (.cons (y:=bufL 3 1 zab (s6++([y8.1]:List Int))) (BSim.seg (Seg.push (Seg.refl zab _) (Seg.lit (f:=zab) (sz:=1) ([y8.1]:List Int) rfl rfl (fun _=>rfl)))) .nil)) ?_
       refine At.inb (At.zad (W.region env [] [] rfl rfl rfl (.cons (incD hi6 hn6) .nil) .nil (At.kp [1,4,5,6,15,17,18,37,38,39] [15,518] ?_)))
       refine At.zaF (At.kp [1,4,5,6,15,17,18,37,38,39] [15,518] ?_)
       exact At.conv (.cons .q (.cons .qi (.cons .q (.cons .q (.cons .q (.cons .q (.cons .qb (.cons .q (.cons .qi (.cons .qi .nil)))))))))) (.cons .q (.cons .q .nil)) (hK6 hi6 (s6++([y8.1]:List Int)) H)
   · have H:=H2 (geD hb7)
     refine W.exit (At.xthen (At.xthen (At.xhere (At.zad (W.seq (W.seq ?_))))))
     obtain ⟨y16,hy17,H⟩:=zac H
     refine W.region env [] [⟨.bool (y16),[],0,[]⟩] rfl rfl rfl (.cons (by first|rfl|(simp;done)|omega|(simp;omega)) .nil) (.free (zen y1.1 s6 p4 p5 hy17) .nil) (At.kp [81] [] ?_)
     refine At.zad (W.co H rfl (fun hb18 H=>?_) (fun hb18 H=>?_))
     · refine W.rg env [14] [] ?_
       refine W.ret (At.rthen ?_)
       cases H
       exact At.rz env hval
     · refine W.skip (At.zad (W.rg env [14] [] ?_))
       refine W.ret ?_
       cases H
       exact At.rz env hval
theorem zd2 (fuel:Nat) (p0:gasolierref06_Raw) (p1:(List Int)) (p2:(Arr4 Int)) (post:Bool→Option Unit) {r:Unit} (H:zba fuel p0 p1 p2 post=some r):CtrN Tryz.prog 11 [.agg [roL 2 zcD p0.Batches,roL 4 za0 p0.Mantles,roL 5 zcC p0.Burns,roL 4 za0 p0.Looks],roL 1 zab p1,.agg [.int .i64 (p2.x0),.int .i64 (p2.x1),.int .i64 (p2.x2),.int .i64 (p2.x3)]] (fun (y:Bool)=>.bool (y)) (fun y=>post y=some r):=by
 unfold zba at H
 refine CtrN.zb5 (N:=179) Tryz.func11 (by kernel_rfl) (c:=_) rfl Tryz.ntmps11 rfl (fun w0 h0 hval=>?_)
 refine W.rg env [1,3,5] [3,5] ?_
 refine W.seq ?_
 obtain ⟨y1,hy2,H⟩:=zac H
 refine W.region env [] [⟨.bool (y1),[],0,[]⟩] rfl rfl rfl .nil (.free (zgX 20000 hy2) .nil) (At.kp [1,3,5,7] [3,5] ?_)
 refine At.zad (W.seq ?_)
 obtain ⟨y3,hy4,H⟩:=zac H
 refine W.region env [] [⟨.int .i64 (y3),[],0,[]⟩] rfl rfl rfl (.cons (by decide) .nil) (.free (zat p2.x0 11 hy4) .nil) (At.kp [1,3,5,7,8] [3,5] ?_)
 refine At.zad (W.seq ?_)
 obtain ⟨y5,hy6,H⟩:=zac H
 refine W.region env [] [⟨.int .i64 (y5),[],0,[]⟩] rfl rfl rfl (.cons (by decide) .nil) (.free (zat p2.x1 13 hy6) .nil) (At.kp [1,3,5,7,8,9] [3,5] ?_)
 refine At.zad (W.seq ?_)
 obtain ⟨y7,hy8,H⟩:=zac H
 refine W.region env [] [⟨.int .i64 (y7),[],0,[]⟩] rfl rfl rfl (.cons (by decide) .nil) (.free (zat p2.x2 5 hy8) .nil) (At.kp [1,3,5,7,8,9,10] [3,5] ?_)
 refine At.zad (W.seq ?_)
 obtain ⟨y9,hy10,H⟩:=zac H
 refine W.region env [] [⟨.tup [.agg (zal y9.1),.agg [roL 1 zab y9.2.Lives,roL 1 zab y9.2.Minutes]],[],0,[]⟩] rfl rfl rfl .nil (.free (zgV fuel p0 p1 hy10) .nil) (At.kp [5,7,8,9,10,11,12] [5,11,12] ?_)
 refine At.zad (W.seq ?_)
 obtain ⟨y11,hy12,H⟩:=zac H
 refine W.region env [] [⟨.agg (zal y11),[],0,[]⟩] rfl rfl rfl .nil (.free (zgu fuel y9.1 y9.2 y5 hy12) .nil) (At.kp [5,7,8,9,10,11] [5,11] ?_)
 refine At.zad (W.seq ?_)
 obtain ⟨y13,hy14,H⟩:=zac H
 refine W.region env [] [⟨roL 1 zab y13,[],0,[]⟩] rfl rfl rfl .nil (.free (zgW fuel y11 y3 y5 hy14) .nil) (At.kp [5,7,8,9,10,11,13] [5,11] ?_)
 refine At.zad (W.seq (W.sr env [] [] [5,7,8,9,10,11,13,54] [5,11] rfl rfl rfl (.cons id (.cons id (.cons (fun h=>by rw [h];rfl) .nil))) .nil ?_))
 refine W.co H rfl (fun hb15 H=>?_) (fun hb15 H=>?_)
 · refine W.rg env [6] [] ?_
   refine W.ret (At.rthen ?_)
   exact At.retN env.ty y1 H rfl rfl nofun (.refl _) hval
 · refine W.skip (At.zad (W.seq ?_))
   obtain ⟨y16,hy17,H⟩:=zac H
   refine W.region env [] [⟨.tup [.int .i64 (y16.1),.int .i64 (y16.2)],[],0,[]⟩] rfl rfl rfl .nil (.free (zjU fuel y11 y13 y3 y5 y7 hy17) .nil) (At.kp [5,8,9,10,11,13,14,15] [5,11] ?_)
   refine At.zad (W.seq (W.rg env [5,8,9,10,11,13,14,66] [5,11] ?_))
   refine W.co H rfl (fun hb18 H=>?_) (fun hb18 H=>?_)
   · refine W.rg env [6] [] ?_
     refine W.ret (At.rthen ?_)
     exact At.retN env.ty false H rfl rfl nofun (.refl _) hval
   · refine W.skip (At.zad (W.seq (W.rg env [5,8,9,10,11,13,14,16] [5,11] ?_)))
     refine W.block (At.kp [5,8,9,10,11,13,14,16] [5,11] ?_)
     refine W.loopGo H (fun (s19:Int)=>[(5,.lp 5 0),(8,.int .i64 (y3)),(9,.int .i64 (y5)),(10,.int .i64 (y7)),(11,.lp 11 0),(13,roL 1 zab y13),(14,.int .i64 (y16.1)),(16,.int .i64 (s19))]) (fun (s19:Int)=>[(5,.cells [.int .i64 (p2.x0),.int .i64 (p2.x1),.int .i64 (p2.x2),.int .i64 (p2.x3)]),(11,.cells (zal y11))]) (.cons .q (.cons .qi (.cons .qi (.cons .qi (.cons .q (.cons .q (.cons .qi (.cons .qi .nil)))))))) (.cons .q (.cons .q .nil)) (fun k19 s19 H K0 hK19=>?_)
     refine W.seq (W.rg env [5,8,9,10,11,13,14,16,68] [5,11] ?_)
     refine W.co H rfl (fun hb20 H=>?_) (fun hb20 H=>?_)
     · refine W.skip (At.zad (W.seq (W.zjO H (fun (s21:Unit)=>[(5,.lp 5 0),(8,.int .i64 (y3)),(9,.int .i64 (y5)),(10,.int .i64 (y7)),(11,.lp 11 0),(13,roL 1 zab y13),(14,.int .i64 (y16.1)),(16,.int .i64 (s19))]) (fun (s21:Unit)=>[(5,.cells [.int .i64 (p2.x0),.int .i64 (p2.x1),.int .i64 (p2.x2),.int .i64 (p2.x3)]),(11,.cells (zal y11))]) (fun s21 H=>?_) (fun k21 H hK21=>?_))))
       · obtain ⟨hc22,H⟩:=zaa H
         refine W.r1 env hc22 [5,8,9,10,11,13,14,16] [5,11] ?_
         refine At.zaF (At.kp [5,8,9,10,11,13,14,16] [5,11] ?_)
         exact At.conv (.cons .q (.cons .qi (.cons .qi (.cons .qi (.cons .q (.cons .q (.cons .qi (.cons .qi .nil)))))))) (.cons .q (.cons .q .nil)) (hK19 (s19+1) H)
       · refine W.block (W.rg env [5,8,9,10,11,13,14,16,17] [5,11] ?_)
         refine W.seq (W.zmt env [] 6 [] [] rfl rfl rfl rfl rfl rfl (fun _=>rfl) rfl .nil .nil (fun _=>.nil) (fun _=>.nil) (fun _=>rfl) (zfo fuel y11 y13 y3 y5 y7 (decide (s19=1)) _ H) (fun y23 H=>?_))
         refine At.kp [5,8,9,10,11,13,14,16,17,18,19] [5,11] ?_
         refine At.zad (W.seq (W.sr env [] [] [5,8,9,10,11,13,14,16,17,18,19,95] [5,11] rfl rfl rfl (.cons id (.cons id (.cons id (.cons id (.cons id (.cons id (.cons (fun hW h=>by revert hW h;first|(simp +contextual;done)|grind) (.cons (fun h=>by rw [h];rfl) .nil)))))))) .nil ?_))
         refine W.co H rfl (fun hb24 H=>?_) (fun hb24 H=>?_)
         · refine W.seq (W.rg env [5,8,9,10,11,13,14,16,97] [5,11] ?_)
           refine W.co H rfl (fun hb25 H=>?_) (fun hb25 H=>?_)
           · refine W.rg env [6] [] ?_
             refine W.ret (At.rthen ?_)
             refine At.rthen ?_
             refine At.rinb ?_
             refine At.rthen ?_
             refine At.rthen ?_
             refine At.rinb ?_
             refine At.rthen ?_
             exact At.retN env.ty false H rfl rfl nofun (.refl _) hval
           · refine W.skip (At.zad (W.exit (At.xthen (At.xhere (At.zaF (At.kp [5,8,9,10,11,13,14,16] [5,11] ?_))))))
             exact At.conv (.cons .q (.cons .qi (.cons .qi (.cons .qi (.cons .q (.cons .q (.cons .qi (.cons .qi .nil)))))))) (.cons .q (.cons .q .nil)) (hK21 () H)
         · refine W.skip (At.zad (W.seq (W.seq ?_)))
           obtain ⟨y26,hy27,H⟩:=zac H
           refine W.region env [] [⟨.int .i64 (y26),[],0,[]⟩] rfl rfl rfl (.cons id (.cons id (.cons id (.cons id (.cons id (.cons id (.cons id (.cons id (.cons (fun h=>by rw [h];rfl) (.cons id (.cons id (.cons id (.cons id (.cons id (.cons (fun h=>by rw [h];rfl) .nil))))))))))))))) (.on (fun hW=>zey fuel y11 y13 y3 y5 y7 (decide (s19=1)) y23.1 (zbJ hy27 hW)) .nil) (At.kp [5,8,9,10,11,13,14,16,17,18,118] [5,11] ?_)
           refine At.zad (W.co H rfl (fun hb28 H=>?_) (fun hb28 H=>?_))
           · refine W.rg env [6] [] ?_
             refine W.ret (At.rthen ?_)
             refine At.rinb ?_
             refine At.rthen ?_
             refine At.rthen ?_
             refine At.rinb ?_
             refine At.rthen ?_
             exact At.retN env.ty false H rfl rfl nofun (.refl _) hval
           · refine W.skip (At.zad (W.rg env [5,8,9,10,11,13,14,16,17,18,20] [5,11] ?_))
             refine W.seq (W.rg env [5,8,9,10,11,13,14,16,17,18,20,21] [5,11] ?_)
             refine W.block (At.zfh 20 520 3 1 (e:=fun i=>zab (([]:List Int).getD i default)) rfl rfl ?_)
             refine At.kp [5,8,9,10,11,13,14,16,17,18,20,21] [5,11,520] ?_
             refine W.loopGo H (fun (s29:Int×(List Int))=>[(5,.lp 5 0),(8,.int .i64 (y3)),(9,.int .i64 (y5)),(10,.int .i64 (y7)),(11,.lp 11 0),(13,roL 1 zab y13),(14,.int .i64 (y16.1)),(16,.int .i64 (s19)),(17,.bool ((decide (s19=1)))),(18,roL 1 zab y23.1),(20,.buf 520 (s29.2).length),(21,.int .i64 (s29.1))]) (fun (s29:Int×(List Int))=>[(5,.cells [.int .i64 (p2.x0),.int .i64 (p2.x1),.int .i64 (p2.x2),.int .i64 (p2.x3)]),(11,.cells (zal y11)),(520,bufL 3 1 zab s29.2)]) (.cons .q (.cons .qi (.cons .qi (.cons .qi (.cons .q (.cons .q (.cons .qi (.cons .qi (.cons .q (.cons .q (.cons .qb (.cons .qi .nil)))))))))))) (.cons .q (.cons .q (.cons .q .nil))) (fun k29 s29 H K0 hK29=>?_)
             refine W.seq (W.rg env [5,8,9,10,11,13,14,16,17,18,20,21,122] [5,11,520] ?_)
             refine W.co H rfl (fun hb30 H=>?_) (fun hb30 H=>?_)
             · refine W.skip (At.zad (W.seq (W.block (W.seq ?_))))
               obtain ⟨hc31,H⟩:=zaa H
               obtain ⟨y32,hy33,H⟩:=zac H
               refine W.region env [] [⟨.tup [.int .i64 (y32.1),.int .i64 (y32.2)],[],0,[]⟩] rfl rfl (by kernel_rfl) (.cons hc31 .nil) (.free (zfb fuel y11 (y13.getD (s29.1).toNat default) y3 y5 hy33) .nil) (At.kp [5,8,9,10,11,13,14,16,17,18,20,21,22,23] [5,11,520] ?_)
               refine At.zad (W.seq (W.rg env [5,8,9,10,11,13,14,16,17,18,20,21,22,137] [5,11,520] ?_))
               refine W.co H rfl (fun hb34 H=>?_) (fun hb34 H=>?_)
               · refine W.rg env [6] [] ?_
                 refine W.ret (At.rthen ?_)
                 refine At.rinb ?_
                 refine At.rthen ?_
                 refine At.rthen ?_
                 refine At.rinb ?_
                 refine At.rthen ?_
                 refine At.rinb ?_
                 refine At.rthen ?_
                 refine At.rthen ?_
                 refine At.rinb ?_
                 refine At.rthen ?_
                 exact At.retN env.ty false H rfl rfl nofun (.refl _) hval
               · refine W.skip (At.zad ?_)
                 obtain ⟨hc35,H⟩:=zaa H
                 obtain ⟨hc36,H⟩:=zaa H
                 refine W.sr env [50331793] [] [5,8,9,10,11,13,14,16,17,18,20,21,155] [5,11,520] rfl rfl rfl (.cons (fun _=>by decide) (.cons id (.cons hc35 (.cons id (.cons id (.cons id (.cons id (.cons id (.cons (fun _=>by first|rfl|(simp;done)|omega|(simp;omega)) (.cons id (.cons hc36 (.cons id (.cons id (.cons id (.cons id (.cons id .nil)))))))))))))))) .nil ?_
                 refine W.co H rfl (fun hb37 H=>?_) (fun hb37 H=>?_)
                 · obtain ⟨hc38,H⟩:=zaa H
                   obtain ⟨hc39,H⟩:=zaa H
                   refine W.region env [] [] rfl rfl rfl (.cons hc38 (.cons (rmI hc39) .nil)) .nil (At.kp [5,8,9,10,11,13,14,16,17,18,20,21] [5,11,520] ?_)
                   refine At.zbb (.cons (.refl _) (.cons (.refl _) (.cons (y:=bufL 3 1 zab (s29.2++([(y13.getD (s29.1).toNat default)]:List Int))) (BSim.seg (Seg.push (Seg.refl zab _) (Seg.lit (f:=zab) (sz:=1) ([(y13.getD (s29.1).toNat default)]:List Int) rfl rfl (fun _=>rfl)))) .nil))) ?_
                   refine At.inb (At.zad ?_)
                   obtain ⟨hc40,H⟩:=zaa H
                   refine W.r1 env hc40 [5,8,9,10,11,13,14,16,17,18,20,21] [5,11,520] ?_
                   refine At.zaF (At.kp [5,8,9,10,11,13,14,16,17,18,20,21] [5,11,520] ?_)
                   exact At.conv (.cons .q (.cons .qi (.cons .qi (.cons .qi (.cons .q (.cons .q (.cons .qi (.cons .qi (.cons .q (.cons .q (.cons .qb (.cons .qi .nil)))))))))))) (.cons .q (.cons .q (.cons .q .nil))) (hK29 ((s29.1+1),(s29.2++([(y13.getD (s29.1).toNat default)]:List Int))) H)
                 · refine W.skip (At.inb (At.zad ?_))
                   obtain ⟨hc41,H⟩:=zaa H
                   refine W.r1 env hc41 [5,8,9,10,11,13,14,16,17,18,20,21] [5,11,520] ?_
                   refine At.zaF (At.kp [5,8,9,10,11,13,14,16,17,18,20,21] [5,11,520] ?_)
                   exact At.conv (.cons .q (.cons .qi (.cons .qi (.cons .qi (.cons .q (.cons .q (.cons .qi (.cons .qi (.cons .q (.cons .q (.cons .qb (.cons .qi .nil)))))))))))) (.cons .q (.cons .q (.cons .q .nil))) (hK29 ((s29.1+1),s29.2) H)
             · refine W.exit (At.xthen (At.xthen (At.xhere (At.zad (W.seq ?_)))))
               obtain ⟨y42,hy43,H⟩:=zac H
               refine W.region env [] [⟨.int .i64 (y42),[],0,[]⟩] rfl rfl rfl (.cons (by first|rfl|(simp;done)|omega|(simp;omega)) (.cons (fun hW=>(by first|rfl|(simp;done)|omega|(simp;omega))) (.cons id (.cons id (.cons id (.cons id (.cons id (.cons id (.cons id (.cons id (.cons id .nil))))))))))) (.on (fun hW=>zey fuel y11 y13 y3 y5 y7 (decide (s19=1)) s29.2 (zbJ hy43 hW)) .nil) (At.kp [5,8,9,10,11,13,14,16,178] [5,11] ?_)
               refine At.zad (W.co H rfl (fun hb44 H=>?_) (fun hb44 H=>?_))
               · refine W.rg env [6] [] ?_
                 refine W.ret (At.rinb ?_)
                 refine At.rthen ?_
                 refine At.rthen ?_
                 refine At.rinb ?_
                 refine At.rthen ?_
                 exact At.retN env.ty false H rfl rfl nofun (.refl _) hval
               · refine W.skip (At.inb (At.zaF (At.kp [5,8,9,10,11,13,14,16] [5,11] ?_)))
                 exact At.conv (.cons .q (.cons .qi (.cons .qi (.cons .qi (.cons .q (.cons .q (.cons .qi (.cons .qi .nil)))))))) (.cons .q (.cons .q .nil)) (hK21 () H)
     · refine W.exit (At.xthen (At.xthen (At.xhere (At.zad (W.rg env [6] [] ?_)))))
       exact W.ret (At.retN env.ty true H rfl rfl nofun (.refl _) hval)
theorem zet (fuel:Nat) (p0:gasolierref06_Raw) (p1:(List Int)) (p2:(Arr4 Int)) {r:Bool} (H:zbr fuel p0 p1 p2=some r):Ctr Tryz.prog 11 [.agg [roL 2 zcD p0.Batches,roL 4 za0 p0.Mantles,roL 5 zcC p0.Burns,roL 4 za0 p0.Looks],roL 1 zab p1,.agg [.int .i64 (p2.x0),.int .i64 (p2.x1),.int .i64 (p2.x2),.int .i64 (p2.x3)]] (.bool r):=by
 obtain ⟨u,H2,hr⟩:=zj4 H
 subst hr
 exact CtrN.one (zd2 fuel p0 p1 p2 _ H2) zlF
end Go.Sp
