/- Printed by gen.py: contracts, part 2. -/
import Derived.Test.YtakjeajlmlmkeaaGreatCtr1
set_option linter.all false
set_option maxRecDepth 100000
set_option maxHeartbeats 1000000
namespace Go.Sp
open Go Go.Av Go.Proofs
theorem zhg (p0:Range) (p1:Int):Ctr Tryz.prog 122 [.agg [.int .i64 (p0.Lo),.int .i64 (p0.Hi)],.int .i64 (p1)] (.int .i64 ((zc7 p0 p1))):=by
 obtain ⟨r,H⟩:∃ r,zc7 p0 p1=r:=⟨_,rfl⟩
 rw [H]
 unfold zc7 at H
 refine Ctr.ob Tryz.func122 Tryz.ntmps122 (fun w0 h0 hval=>?_)
 refine W.rg env [1,2] [2] ?_
 refine W.seq (W.block (W.rg env [1,2,5] [2] ?_))
 refine W.co H rfl (fun hb1 H=>?_) (fun hb1 H=>?_)
 · refine W.rg env [4] [] ?_
   refine W.ret (At.rinb ?_)
   refine At.rthen ?_
   cases H
   exact At.rz env hval
 · refine W.rg env [10] [] ?_
   refine W.co H rfl (fun hb2 H=>?_) (fun hb2 H=>?_)
   · refine W.rg env [4] [] ?_
     refine W.ret (At.rinb ?_)
     refine At.rthen ?_
     cases H
     exact At.rz env hval
   · refine W.skip (At.inb (At.zab (W.rg env [4] [] ?_)))
     refine W.ret ?_
     cases H
     exact At.rz env hval
theorem zgv (p0:mantle_lot) (p1:(List Int)) (p2:Int) (p3:Bool) {r:Bool} (H:zdE p0 p1 p2 p3=some r):Ctr Tryz.prog 127 [.agg (zar p0),roL 1 zad p1,.int .i64 (p2),.bool (p3)] (.bool (r)):=by
 unfold zdE at H
 refine Ctr.ob Tryz.func127 Tryz.ntmps127 (fun w0 h0 hval=>?_)
 refine W.rg env [1,2,3,4] [4] ?_
 refine W.seq ?_
 obtain ⟨y1,hy2,H⟩:=zac H
 refine W.region env [] [⟨.agg (zar y1),[],0,[]⟩] rfl rfl rfl .nil (.free (zdp p0 p1 p3 hy2) .nil) (At.kp [2,3,9] [9] ?_)
 refine At.zab (W.seq (W.seq ?_))
 obtain ⟨y3,hy4,H⟩:=zac H
 refine W.region env [] [⟨.bool (y3),[],0,[]⟩] rfl rfl rfl .nil (.free (zbk y1.closet hy4) .nil) (At.kp [2,3,9,17] [9] ?_)
 refine At.zab (W.co H rfl (fun hb5 H=>?_) (fun hb5 H=>?_))
 · refine W.rg env [8] [] ?_
   refine W.ret (At.rthen ?_)
   cases H
   exact At.rz env hval
 · refine W.skip (At.zab (W.seq (W.rg env [2,9,18] [9] ?_)))
   refine W.co H rfl (fun hb6 H=>?_) (fun hb6 H=>?_)
   · refine W.seq ?_
     obtain ⟨y7,hy8,H⟩:=zac H
     refine W.region env [] [⟨.agg [.int .i64 (y7.Lo),.int .i64 (y7.Hi)],[],0,[]⟩,⟨.int .i64 ((zc7 y7 p2)),[],0,[]⟩] rfl rfl rfl .nil (.free (zdo y1 hy8) (.free (zhg y7 p2) .nil)) (At.kp [8] [] ?_)
     refine At.zab (W.ret (At.rthen ?_))
     cases H
     exact At.rz env hval
   · refine W.skip (At.zab (W.seq ?_))
     obtain ⟨y9,hy10,H⟩:=zac H
     refine W.region env [] [⟨.agg [.int .i64 (y9.Lo),.int .i64 (y9.Hi)],[],0,[]⟩,⟨.int .i64 ((zc7 y9 p2)),[],0,[]⟩] rfl rfl rfl .nil (.free (zdo y1 hy10) (.free (zhg y9 p2) .nil)) (At.kp [8] [] ?_)
     refine At.zab (W.ret ?_)
     cases H
     exact At.rz env hval
theorem zfW (fuel:Nat) (p0:mantle_lot) (p1:Int) (p2:Bool) (post:((List Int)×Bool)→Option Unit) {r:Unit} (H:zdm fuel p0 p1 p2 post=some r):CtrN Tryz.prog 123 [.agg (zar p0),.int .i64 (p1),.bool (p2)] (fun (y:((List Int)×Bool))=>.tup [roL 1 zad y.1,.bool (y.2)]) (fun y=>post y=some r):=by
 unfold zdm at H
 refine CtrN.zbR (N:=107) Tryz.func123 (by kernel_rfl) (c:=_) rfl Tryz.ntmps123 rfl (fun w0 h0 hval=>?_)
 refine W.rg env [1,2,3] [3] ?_
 refine W.seq (W.region env [] [] rfl rfl rfl .nil .nil (At.kp [1,2,3,8] [3,22] ?_))
 refine At.za8 (.cons (.refl _) (.cons (y:=mapL (.slice none 0 0) (fun (x:(List Int))=>roL 1 zad x) ((Mp.empty:Mp (List Int)).set 0 [])) (BSim.zot (f:=(fun (x:(List Int))=>roL 1 zad x)) (zhC.set (zhC.empty (f:=(fun (x:(List Int))=>roL 1 zad x)) (Sim.nil _ _)) [] (Sim.nil _ _))) .nil)) ?_
 refine At.zab (W.seq (W.rg env [1,2,3,8,28,29] [3,22] ?_))
 refine W.block (At.zmx 22 (K:=[3]) (ts:=[1,2,3,8,28,29]) rfl rfl rfl rfl (fun _ h=>h) ?_)
 refine At.kp [1,2,3,8,28,29] [3] ?_
 obtain ⟨hn1,H⟩:=zaa H
 refine W.zas H (fun i1 (s1:(Mp (List Int)))=>[(1,.int .i64 (p1)),(2,.bool (p2)),(3,.lp 3 0),(8,romL (.slice none 0 0) (fun (x:(List Int))=>roL 1 zad x) s1),(28,.int .i64 (((p0.closet.w.Batches.length:Nat):Int))),(29,.int .i64 ((i1:Int)))]) (fun i1 (s1:(Mp (List Int)))=>[(3,.cells (zar p0))]) (.cons .qi (.cons .q (.cons .q (.cons .q (.cons .qi (.cons .qi .nil)))))) (.cons .q .nil) (fun k1 i1 s1 hle1 H1 H2 K0 hK1=>?_)
 refine W.rg env [1,2,3,8,28,29,30] [3] ?_
 refine W.seq (W.cond rfl (fun hb2=>?_) (fun hb2=>?_))
 · have hi1:i1<p0.closet.w.Batches.length:=ltD hb2
   have H:=H1 hi1
   refine W.skip (At.zab (W.seq (W.block (W.rg env [1,2,3,8,9,28,29] [3] ?_))))
   refine W.seq ?_
   obtain ⟨y3,hy4,H⟩:=zac H
   refine W.region env [] [⟨roL 1 zcz y3,[],0,[]⟩] rfl rfl rfl .nil (.free (zhz p0 (i1:Int) p2 hy4) .nil) (At.kp [1,2,3,8,10,28,29] [3] ?_)
   refine At.zab (W.seq (W.region env [] [] rfl rfl rfl .nil .nil (At.kp [1,2,3,8,10,11,28,29] [3,36] ?_)))
   refine At.za8 (.cons (.refl _) (.cons (y:=mapL (.slice none 0 0) (fun (x:(List Int))=>roL 1 zad x) (Mp.empty:Mp (List Int))) (BSim.zot (f:=(fun (x:(List Int))=>roL 1 zad x)) (zhC.empty (f:=(fun (x:(List Int))=>roL 1 zad x)) (Sim.nil _ _))) .nil)) ?_
   refine At.zab (W.seq (W.rg env [1,2,3,10,11,28,29,38] [3,36,38] ?_))
   refine W.block ?_
   obtain ⟨hok5,H⟩:=zaa H
   refine At.kp [1,2,3,10,11,28,29,38] [38,3,36] ?_
   refine At.zkK 38 rfl (fun left hleft=>?_)
   refine At.kp [1,2,3,10,11,28,29,38] [38,3,36] ?_
   refine W.zeI H (Mp.perm hok5 hleft) hleft.2.1 38 (fun k=>(fun (x:(List Int))=>roL 1 zad x) ((s1.get k).getD default)) (fun (s5:(Mp (List Int)))=>[(1,.int .i64 (p1)),(2,.bool (p2)),(3,.lp 3 0),(10,roL 1 zcz y3),(11,.mp 36),(28,.int .i64 (((p0.closet.w.Batches.length:Nat):Int))),(29,.int .i64 ((i1:Int))),(38,.lp 38 0)]) (fun (s5:(Mp (List Int)))=>[(3,.cells (zar p0)),(36,mapL (.slice none 0 0) (fun (x:(List Int))=>roL 1 zad x) s5)]) (.cons .qi (.cons .q (.cons .q (.cons .q (.cons .q (.cons .qi (.cons .qi (.cons .q .nil)))))))) (.cons (.refl _) (.cons .q (.cons .q .nil))) (fun left s5 HJ5 hsub5 K hK5=>?_)
   refine W.seq (W.next rfl rfl rfl rfl rfl rfl rfl rfl rfl rfl rfl (fun hz=>?_) (fun q5 left2 hp5=>?_))
   · subst hz
     have H:k1 s5=some r:=HJ5
     refine At.zab (W.seq (W.cond rfl (fun hb18=>by cases hb18) (fun hb18=>?_)))
     refine W.exit (At.xthen (At.xthen (At.xhere (At.zab (At.zmx 36 (K:=[3]) (ts:=[1,2,3,11,28,29]) rfl rfl rfl rfl (fun _ h=>h) ?_)))))
     refine W.region env [] [] rfl rfl rfl .nil .nil (At.kp [1,2,3,8,28,29] [3] ?_)
     refine At.inb (At.zab (W.region env [] [] rfl rfl rfl (.cons (incD hi1 hn1) .nil) .nil (At.kp [1,2,3,8,28,29] [3] ?_)))
     refine At.zaA (At.kp [1,2,3,8,28,29] [3] ?_)
     exact At.conv (.cons .qi (.cons .q (.cons .q (.cons .q (.cons .qi (.cons .qi .nil)))))) (.cons .q .nil) (hK1 hi1 s5 H)
   · have H:=zmr hp5 HJ5
     refine At.zab (W.seq (W.cond rfl (fun hb6=>?_) (fun hb6=>by cases hb6)))
     refine W.skip (At.zab (W.block (W.rg env [1,2,3,10,11,12,13,28,29,38] [3,36,38] ?_)))
     refine W.rg env [1,2,3,10,11,12,13,28,29,38,44,45,46] [3,36,38] ?_
     refine W.block (At.kp [1,2,3,10,11,12,13,28,29,38,44,45,46] [3,36,38] ?_)
     refine W.len (t:=44) rfl (fun hn7=>?_)
     refine W.zas H (fun i7 (s7:(Mp (List Int)))=>[(1,.int .i64 (p1)),(2,.bool (p2)),(3,.lp 3 0),(10,roL 1 zcz y3),(11,.mp 36),(12,.int .i64 (q5)),(13,roL 1 zad ((s1.get q5).getD default)),(28,.int .i64 (((p0.closet.w.Batches.length:Nat):Int))),(29,.int .i64 ((i1:Int))),(38,.lp 38 0),(44,roL 1 zcz y3),(45,.int .i64 (((y3.length:Nat):Int))),(46,.int .i64 ((i7:Int)))]) (fun i7 (s7:(Mp (List Int)))=>[(3,.cells (zar p0)),(36,mapL (.slice none 0 0) (fun (x:(List Int))=>roL 1 zad x) s7),(38,.iter (fun k=>(fun (x:(List Int))=>roL 1 zad x) ((s1.get k).getD default)) (some q5) (fun l=>l=left2))]) (.cons .qi (.cons .q (.cons .q (.cons .q (.cons .q (.cons .qi (.cons .q (.cons .qi (.cons .qi (.cons .q (.cons .q (.cons .qi (.cons .qi .nil))))))))))))) (.cons .q (.cons .q (.cons .q .nil))) (fun k7 i7 s7 hle7 H1 H2 K0 hK7=>?_)
     refine W.rg env [1,2,3,10,11,12,13,28,29,38,44,45,46,47] [3,36,38] ?_
     refine W.seq (W.cond rfl (fun hb8=>?_) (fun hb8=>?_))
     · have hi7:i7<y3.length:=ltD hb8
       have H:=H1 hi7
       refine W.skip (At.zab (W.seq (W.block (W.sr env [] [] [1,2,3,10,11,12,13,15,28,29,38,44,45,46] [3,36,38] rfl rfl rfl (.cons (inD hi7) .nil) .nil ?_))))
       refine W.seq ?_
       obtain ⟨y9,hy10,H⟩:=zac H
       refine W.region env [] [⟨roL 1 zad y9,[],0,[]⟩] rfl rfl rfl .nil (.free (Ctr.sim (.cons (Sim.lit (f:=zcz) ([((s1.get q5).getD default),(y3.getD i7 default)]:List (List Int)) rfl rfl (fun _=>rfl)) .nil) (zhx ([((s1.get q5).getD default),(y3.getD i7 default)]:List (List Int)) hy10)) .nil) (At.kp [1,2,3,10,11,12,13,15,16,28,29,38,44,45,46] [3,36,38] ?_)
       refine At.zab ?_
       obtain ⟨hc11,H⟩:=zaa H
       refine W.sr env [] [] [1,2,3,10,11,12,13,15,16,17,18,28,29,38,44,45,46] [3,36,38] rfl rfl rfl (.cons hc11 (.cons rfl .nil)) .nil ?_
       refine W.seq ?_
       obtain ⟨y12,hy13,H⟩:=zac H
       obtain ⟨y14,hy15,H⟩:=zac H
       refine W.region env [] [⟨.int .i64 (y12),[],0,[]⟩,⟨.int .i64 (y14),[],0,[]⟩] rfl rfl (by kernel_rfl) (.cons id (.cons id (.cons id (.cons id (.cons id (.cons id (.cons id (.cons id (.cons (fun h=>by rw [h];rfl) .nil))))))))) (.on (fun hW=>zdb p0 y9 p2 (zbQ hy13 hW)) (.on (fun hW=>zdb p0 ((s7.get (q5+(((y3.getD i7 default).length:Nat):Int))).getD default) p2 (zbQ hy15 hW)) .nil)) (At.kp [1,2,3,10,11,12,13,15,16,28,29,38,44,45,46,75] [3,36,38] ?_)
       refine At.zab (W.co H rfl (fun hb16 H=>?_) (fun hb16 H=>?_))
       · obtain ⟨hc17,H⟩:=zaa H
         refine W.r1 env hc17 [1,2,3,10,11,12,13,28,29,38,44,45,46] [3,36,38] ?_
         refine At.za8 (.cons (.refl _) (.cons (y:=mapL (.slice none 0 0) (fun (x:(List Int))=>roL 1 zad x) (s7.set (q5+(((y3.getD i7 default).length:Nat):Int)) y9)) (BSim.mseg (f:=(fun (x:(List Int))=>roL 1 zad x)) (MSeg.set (MSeg.refl (fun (x:(List Int))=>roL 1 zad x) _) y9 rfl)) (.cons (.refl _) .nil))) ?_
         refine At.inb (At.zab (W.region env [] [] rfl rfl rfl (.cons (incD hi7 hn7) .nil) .nil (At.kp [1,2,3,10,11,12,13,28,29,38,44,45,46] [3,36,38] ?_)))
         refine At.zaA (At.kp [1,2,3,10,11,12,13,28,29,38,44,45,46] [3,36,38] ?_)
         exact At.conv (.cons .qi (.cons .q (.cons .q (.cons .q (.cons .q (.cons .qi (.cons .q (.cons .qi (.cons .qi (.cons .q (.cons .q (.cons .qi (.cons .qi .nil))))))))))))) (.cons .q (.cons .q (.cons .q .nil))) (hK7 hi7 (s7.set (q5+(((y3.getD i7 default).length:Nat):Int)) y9) H)
       · refine W.skip (At.inb (At.zab (W.region env [] [] rfl rfl rfl (.cons (incD hi7 hn7) .nil) .nil (At.kp [1,2,3,10,11,12,13,28,29,38,44,45,46] [3,36,38] ?_))))
         refine At.zaA (At.kp [1,2,3,10,11,12,13,28,29,38,44,45,46] [3,36,38] ?_)
         exact At.conv (.cons .qi (.cons .q (.cons .q (.cons .q (.cons .q (.cons .qi (.cons .q (.cons .qi (.cons .qi (.cons .q (.cons .q (.cons .qi (.cons .qi .nil))))))))))))) (.cons .q (.cons .q (.cons .q .nil))) (hK7 hi7 s7 H)
     · have H:=H2 (geD hb8)
       refine W.exit (At.xthen (At.xthen (At.xhere (At.inb (At.zaA (At.kp [1,2,3,10,11,28,29,38] [38,3,36] ?_))))))
       exact At.conv (.cons .qi (.cons .q (.cons .q (.cons .q (.cons .q (.cons .qi (.cons .qi (.cons .q .nil)))))))) (.cons (.refl _) (.cons .q (.cons .q .nil))) (hK5 _ left2 s7 hp5 H)
 · have H:=H2 (geD hb2)
   refine W.exit (At.xthen (At.xthen (At.xhere (At.zab (W.seq (W.rg env [1,2,3,8,19] [3] ?_))))))
   refine W.block (At.kp [1,2,3,8,19] [3] ?_)
   refine W.loopGo H (fun (s19:Int)=>[(1,.int .i64 (p1)),(2,.bool (p2)),(3,.lp 3 0),(8,romL (.slice none 0 0) (fun (x:(List Int))=>roL 1 zad x) s1),(19,.int .i64 (s19))]) (fun (s19:Int)=>[(3,.cells (zar p0))]) (.cons .qi (.cons .q (.cons .q (.cons .q (.cons .qi .nil))))) (.cons .q .nil) (fun k19 s19 H K0 hK19=>?_)
   refine W.seq (W.rg env [1,2,3,8,19,89] [3] ?_)
   refine W.co H rfl (fun hb20 H=>?_) (fun hb20 H=>?_)
   · refine W.skip (At.zab (W.seq (W.block (W.sr env [] [] [1,2,3,8,19,20,21] [3] rfl rfl rfl (.cons rfl .nil) .nil ?_))))
     refine W.seq ?_
     obtain ⟨y21,hy22,H⟩:=zac H
     refine W.region env [] [⟨.bool (y21),[],0,[]⟩] rfl rfl rfl (.cons id (.cons id (.cons id (.cons id (.cons id .nil))))) (.on (fun hW=>zgv p0 ((s1.get s19).getD default) p1 p2 (zbQ hy22 hW)) .nil) (At.kp [1,2,3,8,19,20,105] [3] ?_)
     refine At.zab (W.co H rfl (fun hb23 H=>?_) (fun hb23 H=>?_))
     · refine W.rg env [6,7] [] ?_
       refine W.ret (At.rinb ?_)
       refine At.rthen ?_
       refine At.rthen ?_
       refine At.rinb ?_
       refine At.rthen ?_
       exact At.retN env.ty (((s1.get s19).getD default),true) H rfl rfl nofun (.refl _) hval
     · refine W.skip (At.inb (At.zab ?_))
       obtain ⟨hc24,H⟩:=zaa H
       refine W.r1 env hc24 [1,2,3,8,19] [3] ?_
       refine At.zaA (At.kp [1,2,3,8,19] [3] ?_)
       exact At.conv (.cons .qi (.cons .q (.cons .q (.cons .q (.cons .qi .nil))))) (.cons .q .nil) (hK19 (s19+1) H)
   · refine W.exit (At.xthen (At.xthen (At.xhere (At.zab (W.rg env [6,7] [] ?_)))))
     exact W.ret (At.retN env.ty ([],false) H rfl rfl nofun (Sim.tupL (.cons (Sim.nil _ _) (.cons (.refl _) .nil))) hval)
theorem zeZ (p0:List Int) {r:List Int} (H:zca p0=some r):CtrO Tryz.prog 120 [.buf 90000 p0.length] [(90000,bufL 3 1 zad p0)] (.tup []) [(90000,bufL 3 1 zad r)]:=
 zpD (Go.Av.enters_of Tryz.func120 (by kernel_rfl) (c:=_) rfl) (Any.slices_Sort_int zll) (Any.slices_Sort_int_none zll) 3 p0 H
theorem zin (fuel:Nat) (p0:Wear) (p1:(List Int)) (p2:Int) (p3:Int) (p4:Int) (p5:Bool) (post:((List Int)×Int)→Option Unit) {r:Unit} (H:zeJ fuel p0 p1 p2 p3 p4 p5 post=some r):CtrN Tryz.prog 53 [.agg (zaf p0),roL 1 zad p1,.int .i64 (p2),.int .i64 (p3),.int .i64 (p4),.bool (p5)] (fun (y:((List Int)×Int))=>.tup [roL 1 zad y.1,.int .i64 (y.2)]) (fun y=>post y=some r):=by
 unfold zeJ at H
 refine CtrN.zbR (N:=59) Tryz.func53 (by kernel_rfl) (c:=_) rfl Tryz.ntmps53 rfl (fun w0 h0 hval=>?_)
 refine W.rg env [1,2,3,4,5,6] [6] ?_
 refine W.seq ?_
 obtain ⟨y1,hy2,H⟩:=zac H
 refine W.region env [] [⟨.tup [.agg (zar y1.1),.int .i64 (y1.2)],[],0,[]⟩] rfl rfl rfl .nil (.free (zfn fuel p0 p1 p2 p3 p4 hy2) .nil) (At.kp [1,4,5,14,15] [14] ?_)
 refine At.zab (W.seq (W.rg env [1,4,5,14,15,31] [14] ?_))
 refine W.co H rfl (fun hb3 H=>?_) (fun hb3 H=>?_)
 · refine W.rg env [12,13] [] ?_
   refine W.ret (At.rthen ?_)
   exact At.retN env.ty ([],y1.2) H rfl rfl nofun (Sim.tupL (.cons (Sim.nil _ _) (.cons (.refl _) .nil))) hval
 · refine W.skip (At.zab (W.seq (W.zol env [] 3 [] [] rfl rfl rfl rfl rfl rfl (fun _=>rfl) rfl .nil .nil (fun _=>.nil) (fun _=>.nil) (fun _=>rfl) (zfW fuel y1.1 p4 p5 _ H) (fun y4 H=>?_))))
   refine At.kp [1,16,17] [] ?_
   refine At.zab (W.seq (W.rg env [1,16,41] [] ?_))
   refine W.co H rfl (fun hb5 H=>?_) (fun hb5 H=>?_)
   · refine W.rg env [12,13] [] ?_
     refine W.ret (At.rthen ?_)
     exact At.retN env.ty ([],3) H rfl rfl nofun (Sim.tupL (.cons (Sim.nil _ _) (.cons (.refl _) .nil))) hval
   · refine W.skip (At.zab (W.rg env [1,16,18] [] ?_))
     refine W.seq (W.rg env [1,18,42,43,44] [] ?_)
     refine W.block (At.zev 18 518 3 1 (e:=fun i=>zad (([]:List Int).getD i default)) rfl rfl ?_)
     refine At.kp [1,18,42,43,44] [518] ?_
     refine W.len (t:=42) rfl (fun hn6=>?_)
     refine W.zas H (fun i6 (s6:(List Int))=>[(1,roL 1 zad p1),(18,.buf 518 (s6).length),(42,roL 1 zad y4.1),(43,.int .i64 (((y4.1.length:Nat):Int))),(44,.int .i64 ((i6:Int)))]) (fun i6 (s6:(List Int))=>[(518,bufL 3 1 zad s6)]) (.cons .q (.cons .qb (.cons .q (.cons .qi (.cons .qi .nil))))) (.cons .q .nil) (fun k6 i6 s6 hle6 H1 H2 K0 hK6=>?_)
     refine W.rg env [1,18,42,43,44,45] [518] ?_
     refine W.seq (W.cond rfl (fun hb7=>?_) (fun hb7=>?_))
     · have hi6:i6<y4.1.length:=ltD hb7
       have H:=H1 hi6
       refine W.skip (At.zab (W.seq (W.block (W.sr env [] [] [1,18,20,42,43,44] [518] rfl rfl rfl (.cons (inD hi6) .nil) .nil ?_))))
       obtain ⟨hc8,H⟩:=zaa H
       obtain ⟨hc9,H⟩:=zaa H
       refine W.region env [] [] rfl rfl rfl (.cons hc8 (.cons (rmI hc9) .nil)) .nil (At.kp [1,18,42,43,44] [518] ?_)
       refine At.za8 (.cons (y:=bufL 3 1 zad (s6++([(p1.getD ((y4.1.getD i6 default)).toNat default)]:List Int))) (BSim.seg (Seg.push (Seg.refl zad _) (Seg.lit (f:=zad) (sz:=1) ([(p1.getD ((y4.1.getD i6 default)).toNat default)]:List Int) rfl rfl (fun _=>rfl)))) .nil) ?_
       refine At.inb (At.zab (W.region env [] [] rfl rfl rfl (.cons (incD hi6 hn6) .nil) .nil (At.kp [1,18,42,43,44] [518] ?_)))
       refine At.zaA (At.kp [1,18,42,43,44] [518] ?_)
       exact At.conv (.cons .q (.cons .qb (.cons .q (.cons .qi (.cons .qi .nil))))) (.cons .q .nil) (hK6 hi6 (s6++([(p1.getD ((y4.1.getD i6 default)).toNat default)]:List Int)) H)
     · have H:=H2 (geD hb7)
       refine W.exit (At.xthen (At.xthen (At.xhere (At.zab (W.seq ?_)))))
       obtain ⟨y10,hy11,H⟩:=zac H
       obtain ⟨hc12,H⟩:=zaa H
       refine W.region env [] [⟨.tup [],[(518,bufL 3 1 zad y10)],0,[518]⟩] rfl rfl (by kernel_rfl) .nil (.free (CtrO.sim (CtrO.ren (zeZ s6 hy11) [(90000,518)]) (.cons .qc .nil) (.cons (.refl _) .nil)) .nil) (At.kp [18] [518] ?_)
       refine At.zab (W.rg env [12,13] [518] ?_)
       exact W.ret (At.retN env.ty (y10,0) H rfl rfl (fun q hq=>by cases hq;exact (by first|rfl|(simp;done)|omega|(simp;omega))) (.refl _) hval)
theorem zen (fuel:Nat) (p0:(List Look)) (p1:Look) (p2:Look→Look→Option Int) (p2_g:Nat) (p2_a p2_b:List AV) (p2_h:∀ x0 x1 r,p2 x0 x1=some r→Ctr Tryz.prog p2_g (p2_a++([.agg [.int .i64 (x0.Source),.int .i64 (x0.Lamp),.int .i64 (x0.Night),.bool (x0.Bad),.int .i64 (x0.Known),.int .i64 (x0.Until)],.agg [.int .i64 (x1.Source),.int .i64 (x1.Lamp),.int .i64 (x1.Night),.bool (x1.Bad),.int .i64 (x1.Known),.int .i64 (x1.Until)]]++p2_b)) (.int .i64 (r))) {r:(Int×Bool)} (H:zb4 fuel p0 p1 p2=some r):Ctr Tryz.prog 60 [roL 6 zah p0,.agg [.int .i64 (p1.Source),.int .i64 (p1.Lamp),.int .i64 (p1.Night),.bool (p1.Bad),.int .i64 (p1.Known),.int .i64 (p1.Until)],.clo (.func p2_g) p2_a p2_b] (.tup [.int .i64 (r.1),.bool (r.2)]):=by
 unfold zb4 at H
 refine Ctr.ob Tryz.func60 Tryz.ntmps60 (fun w0 h0 hval=>?_)
 refine W.rg env [0,2,4] [4] ?_
 refine W.rg env [0,2,4,8] [4] ?_
 refine W.rg env [0,2,4,8,9,10] [4] ?_
 refine W.seq (W.block (At.kp [0,2,4,8,9,10] [4] ?_))
 refine W.loopGo H (fun (s1:Int×Int)=>[(0,roL 6 zah p0),(2,.clo (.func p2_g) p2_a p2_b),(4,.lp 4 0),(8,.int .i64 (((p0.length:Nat):Int))),(9,.int .i64 (s1.2)),(10,.int .i64 (s1.1))]) (fun (s1:Int×Int)=>[(4,.cells [.int .i64 (p1.Source),.int .i64 (p1.Lamp),.int .i64 (p1.Night),.bool (p1.Bad),.int .i64 (p1.Known),.int .i64 (p1.Until)])]) (.cons .q (.cons .q (.cons .q (.cons .qi (.cons .qi (.cons .qi .nil)))))) (.cons .q .nil) (fun k1 s1 H K0 hK1=>?_)
 refine W.seq (W.rg env [0,2,4,8,9,10,17] [4] ?_)
 refine W.co H rfl (fun hb2 H=>?_) (fun hb2 H=>?_)
 · refine W.skip (At.zab (W.block ?_))
   obtain ⟨hc3,H⟩:=zaa H
   obtain ⟨hc4,H⟩:=zaa H
   obtain ⟨hc5,H⟩:=zaa H
   refine W.sr env [] [] [0,2,4,8,9,10,11] [4] rfl rfl rfl (.cons hc3 (.cons hc4 (.cons (by decide) (.cons hc5 .nil)))) .nil ?_
   refine W.seq ?_
   obtain ⟨hc6,H⟩:=zaa H
   obtain ⟨y7,hy8,H⟩:=zac H
   refine W.region env [] [⟨.int .i64 (y7),[],0,[]⟩] rfl rfl (by kernel_rfl) (.cons hc6 .nil) (.free (p2_h (p0.getD ((Int.fdiv (s1.2+s1.1) (2 ^ (1:Int).toNat))).toNat default) p1 _ hy8) .nil) (At.kp [0,2,4,8,9,10,11,31] [4] ?_)
   refine At.zab (W.co H rfl (fun hb9 H=>?_) (fun hb9 H=>?_))
   · obtain ⟨hc10,H⟩:=zaa H
     refine W.r1 env hc10 [0,2,4,8,9,10] [4] ?_
     refine At.inb (At.zaA (At.kp [0,2,4,8,9,10] [4] ?_))
     exact At.conv (.cons .q (.cons .q (.cons .q (.cons .qi (.cons .qi (.cons .qi .nil)))))) (.cons .q .nil) (hK1 (s1.1,((Int.fdiv (s1.2+s1.1) (2 ^ (1:Int).toNat))+1)) H)
   · refine W.region env [] [] rfl rfl rfl .nil .nil (At.kp [0,2,4,8,9,10] [4] ?_)
     refine At.inb (At.zaA (At.kp [0,2,4,8,9,10] [4] ?_))
     exact At.conv (.cons .q (.cons .q (.cons .q (.cons .qi (.cons .qi (.cons .qi .nil)))))) (.cons .q .nil) (hK1 ((Int.fdiv (s1.2+s1.1) (2 ^ (1:Int).toNat)),s1.2) H)
 · refine W.exit (At.xthen (At.xthen (At.xhere (At.zab (W.seq ?_)))))
   obtain ⟨hc11,H⟩:=zaa H
   obtain ⟨y12,hy13,H⟩:=zac H
   refine W.region env [] [⟨.int .i64 (y12),[],0,[]⟩] rfl rfl (by kernel_rfl) (.cons hc11 (.cons id (.cons id (.cons id (.cons id (.cons id (.cons id (.cons id (.cons id .nil))))))))) (.on (fun hW=>p2_h (p0.getD (s1.2).toNat default) p1 _ (zbQ hy13 hW)) .nil) (At.kp [6,7] [] ?_)
   refine At.zab (W.ret ?_)
   cases H
   exact At.rz env hval
theorem zio (p0:Look) (p1:Look):Ctr Tryz.prog 61 [.agg [.int .i64 (p0.Source),.int .i64 (p0.Lamp),.int .i64 (p0.Night),.bool (p0.Bad),.int .i64 (p0.Known),.int .i64 (p0.Until)],.agg [.int .i64 (p1.Source),.int .i64 (p1.Lamp),.int .i64 (p1.Night),.bool (p1.Bad),.int .i64 (p1.Known),.int .i64 (p1.Until)]] (.int .i64 ((zc8 p0 p1))):=by
 obtain ⟨r,H⟩:∃ r,zc8 p0 p1=r:=⟨_,rfl⟩
 rw [H]
 unfold zc8 at H
 refine Ctr.ob Tryz.func61 Tryz.ntmps61 (fun w0 h0 hval=>?_)
 refine W.rg env [2,3] [2,3] ?_
 refine W.sr env [] [⟨.int .i64 ((zbv p0.Source p1.Source)),[],0,[]⟩] [4] [] rfl rfl rfl .nil (.free (zfp p0.Source p1.Source) .nil) ?_
 refine W.ret ?_
 cases H
 exact At.rz env hval
theorem zg8 (p0:(List Batch)) {r:(List Batch)} (H:zdO p0=some r):Ctr Tryz.prog 63 [roL 3 zaD p0] (roL 3 zaD r):=by
 unfold zdO at H
 refine Ctr.ob Tryz.func63 Tryz.ntmps63 (fun w0 h0 hval=>?_)
 refine W.rg env [0] [] ?_
 refine W.seq (W.rg env [0,4] [] ?_)
 refine W.zgn rfl (fun hz=>?_) ?_
 · obtain rfl:p0=[]:=List.length_eq_zero_iff.1 hz
   obtain ⟨hc1,H⟩:=zaa H
   refine W.rg env [2] [] ?_
   refine W.ret (At.rthen ?_)
   cases H
   exact At.ret env.ty rfl rfl nofun (Sim.nil _ _) hval
 · refine W.skip (At.zab (W.seq ?_))
   obtain ⟨hc1,H⟩:=zaa H
   refine W.region env [5] [] rfl rfl rfl (.cons (rmI hc1) .nil) .nil (At.kp [2] [5] ?_)
   refine At.za8 (.cons (y:=bufL 31 3 zaD (([]:List Batch)++p0)) (BSim.seg (Seg.push (Seg.lit (f:=zaD) (sz:=3) ([]:List Batch) rfl rfl (fun _=>rfl)) (Seg.refl zaD p0))) .nil) ?_
   refine At.zab (W.ret ?_)
   cases H
   exact At.ret env.ty rfl rfl (fun q hq=>by cases hq;exact (by first|rfl|(simp;done)|omega|(simp;omega))) (.refl _) hval
theorem zgu (p0:(List Mantle)) {r:(List Mantle)} (H:zbh p0=some r):Ctr Tryz.prog 64 [roL 6 zan p0] (roL 6 zan r):=by
 unfold zbh at H
 refine Ctr.ob Tryz.func64 Tryz.ntmps64 (fun w0 h0 hval=>?_)
 refine W.rg env [0] [] ?_
 refine W.seq (W.rg env [0,4] [] ?_)
 refine W.zgn rfl (fun hz=>?_) ?_
 · obtain rfl:p0=[]:=List.length_eq_zero_iff.1 hz
   obtain ⟨hc1,H⟩:=zaa H
   refine W.rg env [2] [] ?_
   refine W.ret (At.rthen ?_)
   cases H
   exact At.ret env.ty rfl rfl nofun (Sim.nil _ _) hval
 · refine W.skip (At.zab (W.seq ?_))
   obtain ⟨hc1,H⟩:=zaa H
   refine W.region env [5] [] rfl rfl rfl (.cons (rmI hc1) .nil) .nil (At.kp [2] [5] ?_)
   refine At.za8 (.cons (y:=bufL 33 6 zan (([]:List Mantle)++p0)) (BSim.seg (Seg.push (Seg.lit (f:=zan) (sz:=6) ([]:List Mantle) rfl rfl (fun _=>rfl)) (Seg.refl zan p0))) .nil) ?_
   refine At.zab (W.ret ?_)
   cases H
   exact At.ret env.ty rfl rfl (fun q hq=>by cases hq;exact (by first|rfl|(simp;done)|omega|(simp;omega))) (.refl _) hval
theorem zhy (p0:(List Burn)) {r:(List Burn)} (H:zbJ p0=some r):Ctr Tryz.prog 65 [roL 7 zax p0] (roL 7 zax r):=by
 unfold zbJ at H
 refine Ctr.ob Tryz.func65 Tryz.ntmps65 (fun w0 h0 hval=>?_)
 refine W.rg env [0] [] ?_
 refine W.seq (W.rg env [0,4] [] ?_)
 refine W.zgn rfl (fun hz=>?_) ?_
 · obtain rfl:p0=[]:=List.length_eq_zero_iff.1 hz
   obtain ⟨hc1,H⟩:=zaa H
   refine W.rg env [2] [] ?_
   refine W.ret (At.rthen ?_)
   cases H
   exact At.ret env.ty rfl rfl nofun (Sim.nil _ _) hval
 · refine W.skip (At.zab (W.seq ?_))
   obtain ⟨hc1,H⟩:=zaa H
   refine W.region env [5] [] rfl rfl rfl (.cons (rmI hc1) .nil) .nil (At.kp [2] [5] ?_)
   refine At.za8 (.cons (y:=bufL 35 7 zax (([]:List Burn)++p0)) (BSim.seg (Seg.push (Seg.lit (f:=zax) (sz:=7) ([]:List Burn) rfl rfl (fun _=>rfl)) (Seg.refl zax p0))) .nil) ?_
   refine At.zab (W.ret ?_)
   cases H
   exact At.ret env.ty rfl rfl (fun q hq=>by cases hq;exact (by first|rfl|(simp;done)|omega|(simp;omega))) (.refl _) hval
theorem zmI (p0:(List Look)) {r:(List Look)} (H:zba p0=some r):Ctr Tryz.prog 67 [roL 6 zah p0] (roL 6 zah r):=by
 unfold zba at H
 refine Ctr.ob Tryz.func67 Tryz.ntmps67 (fun w0 h0 hval=>?_)
 refine W.rg env [0] [] ?_
 refine W.seq (W.rg env [0,4] [] ?_)
 refine W.zgn rfl (fun hz=>?_) ?_
 · obtain rfl:p0=[]:=List.length_eq_zero_iff.1 hz
   obtain ⟨hc1,H⟩:=zaa H
   refine W.rg env [2] [] ?_
   refine W.ret (At.rthen ?_)
   cases H
   exact At.ret env.ty rfl rfl nofun (Sim.nil _ _) hval
 · refine W.skip (At.zab (W.seq ?_))
   obtain ⟨hc1,H⟩:=zaa H
   refine W.region env [5] [] rfl rfl rfl (.cons (rmI hc1) .nil) .nil (At.kp [2] [5] ?_)
   refine At.za8 (.cons (y:=bufL 37 6 zah (([]:List Look)++p0)) (BSim.seg (Seg.push (Seg.lit (f:=zah) (sz:=6) ([]:List Look) rfl rfl (fun _=>rfl)) (Seg.refl zah p0))) .nil) ?_
   refine At.zab (W.ret ?_)
   cases H
   exact At.ret env.ty rfl rfl (fun q hq=>by cases hq;exact (by first|rfl|(simp;done)|omega|(simp;omega))) (.refl _) hval
theorem zcC (p0:(List Look)) {r:(List Look)} (H:zba p0=some r):CtrO Tryz.prog 67 [roL 6 zah p0] [] (.buf 900 r.length) [(900,bufL 37 6 zah r)]:=by
 unfold zba at H
 refine CtrO.zbR (N:=8) Tryz.func67 (by kernel_rfl) (c:=_) rfl Tryz.ntmps67 rfl (fun w0 h0 ρb hval hdom=>?_)
 refine W.rg env [0] [] ?_
 refine W.seq (W.rg env [0,4] [] ?_)
 refine W.zgn rfl (fun hz=>?_) ?_
 · obtain rfl:p0=[]:=List.length_eq_zero_iff.1 hz
   obtain ⟨hc1,H⟩:=zaa H
   refine W.rg env [2] [] ?_
   refine W.ret (At.rthen ?_)
   cases H
   refine At.zev 2 800 37 6 (e:=fun i=>zah (([]:List Look).getD i default)) rfl rfl ?_
   exact At.retK env.ty [800] 100 rfl rfl rfl rfl (.cons (.refl _) .nil) (.of_eq (by refine zeu ?_;first|(simp [zaE];done)|omega|(simp [zaE];omega)|rfl)) hval hdom rfl
 · refine W.skip (At.zab (W.seq ?_))
   obtain ⟨hc1,H⟩:=zaa H
   refine W.region env [5] [] rfl rfl rfl (.cons (rmI hc1) .nil) .nil (At.kp [2] [5] ?_)
   refine At.za8 (.cons (y:=bufL 37 6 zah (([]:List Look)++p0)) (BSim.seg (Seg.push (Seg.lit (f:=zah) (sz:=6) ([]:List Look) rfl rfl (fun _=>rfl)) (Seg.refl zah p0))) .nil) ?_
   refine At.zab (W.ret ?_)
   cases H
   exact At.retK env.ty [5] 895 rfl rfl rfl rfl (.cons (.refl _) .nil) (.of_eq (by refine zeu ?_;first|(simp [zaE];done)|omega|(simp [zaE];omega)|rfl)) hval hdom rfl
theorem zgs (p0:List Look) (p1:Int) (p2:Look) {r:List Look} (H:zdM p0 p1 p2=some r):CtrO Tryz.prog 66 [.buf 700 p0.length,.int .i64 p1,.buf 701 1] [(700,bufL 37 6 zah p0),(701,bufL 37 6 zah [p2])] (.buf 900 r.length) [(701,bufL 37 6 zah [p2]),(700,.dead),(900,bufL 37 6 zah r)]:=by
 unfold zdM at H
 obtain ⟨h1,H⟩:=zaa H
 obtain ⟨h2,H⟩:=zaa H
 cases H
 exact znO (Go.Av.enters_of Tryz.func66 (by kernel_rfl) (c:=_) rfl) zlB zlC (by kernel_rfl) (by kernel_rfl) (env.ty 37 _ rfl) rfl (by decide) zah p0 p1 p2 h1 h2
theorem zjM (fuel:Nat) (p0:Wear) (p1:Look) {r:(Wear×Int)} (H:zfC fuel p0 p1=some r):Ctr Tryz.prog 14 [.agg (zaf p0),.agg [.int .i64 (p1.Source),.int .i64 (p1.Lamp),.int .i64 (p1.Night),.bool (p1.Bad),.int .i64 (p1.Known),.int .i64 (p1.Until)]] (.tup [.agg (zaf r.1),.int .i64 (r.2)]):=by
 unfold zfC at H
 refine Ctr.ob Tryz.func14 Tryz.ntmps14 (fun w0 h0 hval=>?_)
 refine W.rg env [2,3,4] [2,3,4] ?_
 refine W.seq (W.seq ?_)
 obtain ⟨y1,hy2,H⟩:=zac H
 refine W.region env [] [⟨.int .i64 (y1),[],0,[]⟩] rfl rfl rfl .nil (.free (zed p0 hy2) .nil) (At.kp [2,3,4,6] [2,3,4] ?_)
 refine At.zab (W.rg env [2,3,4,6,13] [2,3,4] ?_)
 refine W.co H rfl (fun hb3 H=>?_) (fun hb3 H=>?_)
 · refine W.rg env [4,5] [4] ?_
   refine W.ret (At.rthen ?_)
   cases H
   exact At.ret env.ty rfl rfl nofun (Sim.tupL (.cons (Sim.aggL (.cons (Sim.nil _ _) (.cons (Sim.nil _ _) (.cons (Sim.nil _ _) (.cons (Sim.nil _ _) .nil))))) (.cons (.refl _) .nil))) hval
 · refine W.skip (At.zab (W.seq ?_))
   obtain ⟨y4,hy5,H⟩:=zac H
   refine W.region env [] [⟨.tup [.int .i64 (y4.1),.bool (y4.2)],[],0,[]⟩] rfl rfl rfl .nil (.free (zen fuel p0.Looks p1 (fun x0 x1=>some (zc8 x0 x1)) 61 [] [] (fun x0 x1 r h=>by cases h;exact zio x0 x1) hy5) .nil) (At.kp [2,3,4,7,8] [2,3,4] ?_)
   refine At.zab (W.seq (W.block (W.sr env [] [⟨.int .i64 ((zaR p1)),[],0,[]⟩] [2,3,4,7,23] [2,3,4] rfl rfl rfl (.cons (fun h=>by rw [h];rfl) .nil) (.free (ze1 p1) .nil) ?_)))
   refine W.co H rfl (fun hb6 H=>?_) (fun hb6 H=>?_)
   · refine W.rg env [4,5] [4] ?_
     refine W.ret (At.rinb ?_)
     refine At.rthen ?_
     cases H
     exact At.ret env.ty rfl rfl nofun (Sim.tupL (.cons (Sim.aggL (.cons (Sim.nil _ _) (.cons (Sim.nil _ _) (.cons (Sim.nil _ _) (.cons (Sim.nil _ _) .nil))))) (.cons (.refl _) .nil))) hval
   · refine W.rg env [2,3,4,7,31] [2,3,4] ?_
     refine W.co H rfl (fun hb7 H=>?_) (fun hb7 H=>?_)
     · refine W.rg env [4,5] [4] ?_
       refine W.ret (At.rinb ?_)
       refine At.rthen ?_
       cases H
       exact At.ret env.ty rfl rfl nofun (Sim.tupL (.cons (Sim.aggL (.cons (Sim.nil _ _) (.cons (Sim.nil _ _) (.cons (Sim.nil _ _) (.cons (Sim.nil _ _) .nil))))) (.cons (.refl _) .nil))) hval
     · refine W.skip (At.inb (At.zab (W.seq ?_)))
       obtain ⟨y8,hy9,H⟩:=zac H
       obtain ⟨y10,hy11,H⟩:=zac H
       obtain ⟨y12,hy13,H⟩:=zac H
       refine W.region env [] [⟨roL 3 zaD y8,[],0,[]⟩,⟨roL 6 zan y10,[],0,[]⟩,⟨roL 7 zax y12,[],0,[]⟩] rfl rfl (by kernel_rfl) .nil (.free (zg8 p0.Batches hy9) (.free (zgu p0.Mantles hy11) (.free (zhy p0.Burns hy13) .nil))) (At.kp [2,3,4,7,9] [2,3,4,9] ?_)
       refine At.zab (W.seq ?_)
       obtain ⟨y14,hy15,H⟩:=zac H
       obtain ⟨y16,hy17,H⟩:=zac H
       refine W.region env [52] [⟨.buf 900 y14.length,[(900,bufL 37 6 zah y14)],50000,[]⟩,⟨.buf 54900 y16.length,[(52,bufL 37 6 zah ([p1]:List Look)),(50900,.dead),(54900,bufL 37 6 zah y16)],0,[50900,52]⟩] rfl rfl (by kernel_rfl) .nil (.free ((Ctr.ofO (zcC p0.Looks hy15))) (.free (CtrO.sim (CtrO.ren (zgs y14 y4.1 p1 hy17) [(700,50900),(701,52),(900,54900)]) (.cons .qc (.cons (.refl _) (.cons .qc .nil))) (.cons (.refl _) (.cons (BSim.seg (Seg.lit (f:=zah) (sz:=6) ([p1]:List Look) rfl rfl (fun _=>rfl))) .nil))) .nil)) (At.kp [4,9] [4,9,54900] ?_)
       refine At.zab (W.rg env [4,5] [4,54900] ?_)
       refine W.ret ?_
       cases H
       exact At.ret env.ty rfl rfl (fun q hq=>by cases hq;exact (by first|rfl|(simp;done)|omega|(simp;omega))) (.refl _) hval
theorem zfI (p0:(List Look)) (p1:Look→Option Bool) (p1_g:Nat) (p1_a p1_b:List AV) (p1_h:∀ x0 r,p1 x0=some r→Ctr Tryz.prog p1_g (p1_a++([.agg [.int .i64 (x0.Source),.int .i64 (x0.Lamp),.int .i64 (x0.Night),.bool (x0.Bad),.int .i64 (x0.Known),.int .i64 (x0.Until)]]++p1_b)) (.bool (r))) {r:Int} (H:zc6 p0 p1=some r):Ctr Tryz.prog 160 [roL 6 zah p0,.clo (.func p1_g) p1_a p1_b] (.int .i64 (r)):=by
 unfold zc6 at H
 refine Ctr.ob Tryz.func160 Tryz.ntmps160 (fun w0 h0 hval=>?_)
 refine W.rg env [0,1] [] ?_
 refine W.seq (W.rg env [0,1,7,8] [] ?_)
 refine W.block (At.kp [0,1,7,8] [] ?_)
 refine W.len (t:=0) rfl (fun hn1=>?_)
 refine W.zas H (fun i1 (s1:Unit)=>[(0,roL 6 zah p0),(1,.clo (.func p1_g) p1_a p1_b),(7,.int .i64 (((p0.length:Nat):Int))),(8,.int .i64 ((i1:Int)))]) (fun i1 (s1:Unit)=>[]) (.cons .q (.cons .q (.cons .qi (.cons .qi .nil)))) .nil (fun k1 i1 s1 hle1 H1 H2 K0 hK1=>?_)
 refine W.rg env [0,1,7,8,9] [] ?_
 refine W.seq (W.cond rfl (fun hb2=>?_) (fun hb2=>?_))
 · have hi1:i1<p0.length:=ltD hb2
   have H:=H1 hi1
   refine W.skip (At.zab (W.seq (W.block (W.rg env [0,1,5,7,8] [] ?_))))
   refine W.seq ?_
   obtain ⟨y3,hy4,H⟩:=zac H
   refine W.region env [] [⟨.bool (y3),[],0,[]⟩] rfl rfl rfl (.cons (inD hi1) .nil) (.free (p1_h (p0.getD i1 default) _ hy4) .nil) (At.kp [0,1,5,7,8,16] [] ?_)
   refine At.zab (W.co H rfl (fun hb5 H=>?_) (fun hb5 H=>?_))
   · refine W.rg env [4] [] ?_
     refine W.ret (At.rinb ?_)
     refine At.rthen ?_
     refine At.rthen ?_
     refine At.rinb ?_
     refine At.rthen ?_
     cases H
     exact At.rz env hval
   · refine W.skip (At.inb (At.zab (W.region env [] [] rfl rfl rfl (.cons (incD hi1 hn1) .nil) .nil (At.kp [0,1,7,8] [] ?_))))
     refine At.zaA (At.kp [0,1,7,8] [] ?_)
     exact At.conv (.cons .q (.cons .q (.cons .qi (.cons .qi .nil)))) .nil (hK1 hi1 () H)
 · have H:=H2 (geD hb2)
   refine W.exit (At.xthen (At.xthen (At.xhere (At.zab (W.rg env [4] [] ?_)))))
   refine W.ret ?_
   cases H
   exact At.rz env hval
theorem zdw (fuel:Nat) (p0:(List Look)) (p1:Look→Option Bool) (p1_g:Nat) (p1_a p1_b:List AV) (p1_h:∀ x0 r,p1 x0=some r→Ctr Tryz.prog p1_g (p1_a++([.agg [.int .i64 (x0.Source),.int .i64 (x0.Lamp),.int .i64 (x0.Night),.bool (x0.Bad),.int .i64 (x0.Known),.int .i64 (x0.Until)]]++p1_b)) (.bool (r))) {r:(List Look)} (H:zbD fuel p0 p1=some r):CtrO Tryz.prog 118 [.buf 700 (p0).length,.clo (.func p1_g) p1_a p1_b] [(700,bufL 37 6 zah p0)] (.buf 900 r.length) [(900,bufL 37 6 zah r)]:=by
 unfold zbD at H
 refine CtrO.zbR (N:=42) Tryz.func118 (by kernel_rfl) (c:=_) rfl Tryz.ntmps118 rfl (fun w0 h0 ρb hval hdom=>?_)
 refine W.rg env [0,1] [700] ?_
 refine W.seq ?_
 obtain ⟨y1,hy2,H⟩:=zac H
 refine W.region env [] [⟨.int .i64 (y1),[],0,[]⟩] rfl rfl rfl (.cons (by first|rfl|(simp;done)|omega|(simp;omega)) .nil) (.free (zfI p0 p1 p1_g p1_a p1_b p1_h hy2) .nil) (At.kp [0,1,5] [700] ?_)
 refine At.zab (W.seq (W.rg env [0,1,5,12] [700] ?_))
 refine W.co H rfl (fun hb3 H=>?_) (fun hb3 H=>?_)
 · refine W.rg env [4] [700] ?_
   refine W.ret (At.rthen ?_)
   cases H
   exact At.retK env.ty [700] 200 rfl rfl rfl rfl (.cons (.refl _) .nil) (.of_eq (by refine zeu ?_;first|(simp [zaE];done)|omega|(simp [zaE];omega)|rfl)) hval hdom rfl
 · refine W.skip (At.zab (W.seq ?_))
   obtain ⟨hc4,H⟩:=zaa H
   refine W.sr env [] [] [0,1,5,6] [700] rfl rfl rfl (.cons hc4 .nil) .nil ?_
   refine W.block (At.kp [0,1,5,6] [700] ?_)
   refine W.loopGo H (fun (s5:Int×Int×(List Look))=>[(0,.buf 700 (s5.2.2).length),(1,.clo (.func p1_g) p1_a p1_b),(5,.int .i64 (s5.1)),(6,.int .i64 (s5.2.1))]) (fun (s5:Int×Int×(List Look))=>[(700,bufL 37 6 zah s5.2.2)]) (.cons .qb (.cons .q (.cons .qi (.cons .qi .nil)))) (.cons .q .nil) (fun k5 s5 H K0 hK5=>?_)
   refine W.seq (W.sr env [] [] [0,1,5,6,19] [700] rfl rfl rfl (.cons (by first|rfl|(simp;done)|omega|(simp;omega)) .nil) .nil ?_)
   refine W.co H rfl (fun hb6 H=>?_) (fun hb6 H=>?_)
   · refine W.skip (At.zab (W.seq (W.block ?_)))
     obtain ⟨hc7,H⟩:=zaa H
     refine W.sr env [] [] [0,1,5,6,7] [7,700] rfl rfl rfl (.cons (⟨by first|rfl|(simp;done)|omega|(simp;omega),hc7⟩) (.cons (⟨by first|rfl|(simp;done)|omega|(simp;omega),(by have:=hc7;first|omega|(simp only [List.length_set];omega)|(simp only [Int.toNat_natCast] at *;omega)|(simp at this ⊢;omega))⟩) .nil)) .nil ?_
     refine W.seq ?_
     obtain ⟨y8,hy9,H⟩:=zac H
     refine W.region env [] [⟨.bool (y8),[],0,[]⟩] rfl rfl rfl .nil (.free (p1_h (s5.2.2.getD (s5.2.1).toNat default) _ hy9) .nil) (At.kp [0,1,5,6,7,29] [7,700] ?_)
     refine At.zab (W.co H rfl (fun hb10 H=>?_) (fun hb10 H=>?_))
     · refine W.seq ?_
       obtain ⟨hc11,H⟩:=zaa H
       refine W.region env [] [] rfl rfl rfl (.cons (⟨by first|rfl|(simp;done)|omega|(simp;omega),hc11⟩) (.cons (⟨by first|rfl|(simp;done)|omega|(simp;omega),(by have:=hc11;first|omega|(simp only [List.length_set];omega)|(simp only [Int.toNat_natCast] at *;omega)|(simp at this ⊢;omega))⟩) .nil)) .nil (At.kp [0,1,5,6] [700] ?_)
       refine At.za8 (.cons (y:=bufL 37 6 zah (s5.2.2.set (s5.1).toNat (s5.2.2.getD (s5.2.1).toNat default))) (BSim.seg (Seg.set (Seg.refl zah _) (s5.2.2.getD (s5.2.1).toNat default) rfl)) .nil) ?_
       refine At.zab ?_
       obtain ⟨hc12,H⟩:=zaa H
       refine W.r1 env hc12 [0,1,5,6] [700] ?_
       refine At.inb (At.zab ?_)
       obtain ⟨hc13,H⟩:=zaa H
       refine W.r1 env hc13 [0,1,5,6] [700] ?_
       refine At.zaA (At.kp [0,1,5,6] [700] ?_)
       exact At.conv (.cons .qb (.cons .q (.cons .qi (.cons .qi .nil)))) (.cons .q .nil) (hK5 ((s5.1+1),(s5.2.1+1),(s5.2.2.set (s5.1).toNat (s5.2.2.getD (s5.2.1).toNat default))) H)
     · refine W.skip (At.inb (At.zab ?_))
       obtain ⟨hc14,H⟩:=zaa H
       refine W.r1 env hc14 [0,1,5,6] [700] ?_
       refine At.zaA (At.kp [0,1,5,6] [700] ?_)
       exact At.conv (.cons .qb (.cons .q (.cons .qi (.cons .qi .nil)))) (.cons .q .nil) (hK5 (s5.1,(s5.2.1+1),s5.2.2) H)
   · refine W.exit (At.xthen (At.xthen (At.xhere (At.zab (W.seq ?_)))))
     obtain ⟨hc15,H⟩:=zaa H
     refine W.region env [] [] rfl rfl rfl (.cons (⟨by first|rfl|(simp;done)|omega|(simp;omega),hc15⟩) (.cons (⟨by first|rfl|(simp;done)|omega|(simp;omega),(by have:=hc15;omega),(by have:=hc15;omega)⟩) .nil)) .nil (At.kp [0,5] [700] ?_)
     refine At.za8 (.cons (y:=bufL 37 6 zah (zaE s5.2.2 ((s5.1).toNat) (s5.2.2.length - (s5.1).toNat) (fun _=>(⟨0,0,0,false,0,0⟩:Look)))) (BSim.seg (Seg.cleared (a:=(s5.1).toNat) (b:=s5.2.2.length) (Seg.refl zah _) (⟨0,0,0,false,0,0⟩:Look) rfl (by have:=hc15;omega))) .nil) ?_
     refine At.zab ?_
     obtain ⟨hc16,H⟩:=zaa H
     refine W.sr env [] [] [4] [700] rfl rfl rfl (.cons (⟨by first|rfl|(simp [zbP];done)|(simp [zbP];omega),hc16⟩) .nil) .nil ?_
     refine W.ret ?_
     cases H
     refine At.shrink 4 700 850 (K:=[]) (ts:=[]) rfl rfl (by first|rfl|(simp;done)|omega|(simp;omega)) (by have:=hc16;omega) rfl rfl rfl rfl ?_
     refine At.za8 (.cons (y:=bufL 37 6 zah ((zaE s5.2.2 ((s5.1).toNat) (s5.2.2.length - (s5.1).toNat) (fun _=>(⟨0,0,0,false,0,0⟩:Look))).take ((s5.1).toNat))) (BSim.seg (Seg.first (Seg.refl zah _) (by have:=hc16;omega))) .nil) ?_
     exact At.retK env.ty [850] 50 rfl rfl rfl rfl (.cons (.refl _) .nil) (.of_eq (by refine zeu ?_;first|(simp [zaE];done)|omega|(simp [zaE];omega)|rfl)) hval hdom rfl
theorem zhU (p0:Look) (c0:Int) (c1:Wear) {r:Bool} (H:zdz p0 c0 c1=some r):Ctr Tryz.prog 157 [.agg [.int .i64 (p0.Source),.int .i64 (p0.Lamp),.int .i64 (p0.Night),.bool (p0.Bad),.int .i64 (p0.Known),.int .i64 (p0.Until)],.rp [.int .i64 (c0)],.rp (zaf c1)] (.bool (r)):=by
 unfold zdz at H
 refine Ctr.ob Tryz.func157 Tryz.ntmps157 (fun w0 h0 hval=>?_)
 refine W.rg env [1,2,3] [3] ?_
 refine W.seq ?_
 obtain ⟨y1,hy2,H⟩:=zac H
 refine W.region env [] [⟨.bool ((zat p0.Known p0.Until c0)),[],0,[]⟩,⟨.int .i64 (y1),[],0,[]⟩] rfl rfl rfl (.cons id (.cons id (.cons id (.cons id (.cons id (.cons id (.cons id (.cons (fun h=>by rw [h];rfl) .nil)))))))) (.free (zde p0.Known p0.Until c0) (.on (fun hW=>zdd c1 p0.Lamp p0.Night c0 (zbQ hy2 hW)) .nil)) (At.kp [4] [] ?_)
 refine At.zab (W.ret ?_)
 cases H
 exact At.rz env hval
theorem ziI (fuel:Nat) (p0:Wear) (p1:Int) {r:(List Look)} (H:ze7 fuel p0 p1=some r):Ctr Tryz.prog 108 [.agg (zaf p0),.int .i64 (p1)] (roL 6 zah r):=by
 unfold ze7 at H
 refine Ctr.ob Tryz.func108 Tryz.ntmps108 (fun w0 h0 hval=>?_)
 refine W.rg env [2,3] [2,3] ?_
 refine W.seq (At.zkT 2 (K:=[3]) (ts:=[2,3]) rfl rfl rfl rfl rfl (fun _ h=>h) ?_)
 refine At.zkT 3 (K:=[]) (ts:=[2,3]) rfl rfl rfl rfl rfl (fun _ h=>h) ?_
 obtain ⟨y1,hy2,H⟩:=zac H
 obtain ⟨y3,hy4,H⟩:=zac H
 refine W.region env [] [⟨.buf 900 y1.length,[(900,bufL 37 6 zah y1)],8000,[]⟩,⟨.buf 900 y3.length,[(8900,.dead),(900,bufL 37 6 zah y3)],10000,[]⟩] rfl rfl (by kernel_rfl) .nil (.free ((Ctr.ofO (zcC p0.Looks hy2))) (.free (CtrO.sim (CtrO.at (zdw fuel y1 (fun x0=>zdz x0 p1 p0) 157 [] ([.rp [.int .i64 (p1)],.rp (zaf p0)]) (fun x0 r h=>zhU x0 p1 p0 h) hy4) rfl 8900) (.cons .qc (.cons (Sim.zoT rfl) .nil)) (.cons (.refl _) .nil)) .nil)) (At.kp [4] [10900] ?_)
 refine At.zab (W.ret ?_)
 cases H
 exact At.ret env.ty rfl rfl (fun q hq=>by cases hq;exact (by first|rfl|(simp;done)|omega|(simp;omega))) (.refl _) hval
theorem zgo (p0:(List Look)) (p1:Int) (p2:Int) {r:(List Look)} (H:zdN p0 p1 p2=some r):CtrO Tryz.prog 158 [.buf 700 (p0).length,.int .i64 (p1),.int .i64 (p2)] [(700,bufL 37 6 zah p0)] (.buf 900 r.length) [(900,bufL 37 6 zah r)]:=by
 unfold zdN at H
 refine CtrO.zbR (N:=33) Tryz.func158 (by kernel_rfl) (c:=_) rfl Tryz.ntmps158 rfl (fun w0 h0 ρb hval hdom=>?_)
 refine W.rg env [0,1,2] [700] ?_
 obtain ⟨hc1,H⟩:=zaa H
 refine W.sr env [] [] [0,1,2] [700] rfl rfl rfl (.cons (by first|rfl|(simp;done)|omega|(simp;omega)) (.cons (⟨by first|rfl|(simp;done)|omega|(simp;omega),hc1⟩) .nil)) .nil ?_
 refine W.seq (W.rg env [0,1,2,16] [700] ?_)
 refine W.co H rfl (fun hb2 H=>?_) (fun hb2 H=>?_)
 · refine W.rg env [6] [700] ?_
   refine W.ret (At.rthen ?_)
   cases H
   exact At.retK env.ty [700] 200 rfl rfl rfl rfl (.cons (.refl _) .nil) (.of_eq (by refine zeu ?_;first|(simp [zaE];done)|omega|(simp [zaE];omega)|rfl)) hval hdom rfl
 · refine W.skip (At.zab (W.sr env [] [] [0,1,2,7] [700] rfl rfl rfl (.cons (by first|rfl|(simp;done)|omega|(simp;omega)) .nil) .nil ?_))
   refine W.seq ?_
   obtain ⟨hc3,H⟩:=zaa H
   obtain ⟨hc4,H⟩:=zaa H
   obtain ⟨hc5,H⟩:=zaa H
   refine W.region env [] [] rfl rfl (by first|rfl|kernel_rfl) (.cons (⟨by first|rfl|(simp;done)|omega|(simp;omega),hc3⟩) (.cons (⟨by first|rfl|(simp;done)|omega|(simp;omega),hc4⟩) (.cons (⟨rfl,rfl,by omega,by omega,by omega⟩) .nil))) .nil (At.kp [0,7] [26] ?_)
   refine At.za8 (.cons (y:=zqT 37 6 p0.length zah (p0.take ((p1).toNat)++p0.drop ((p2).toNat))) (BSim.kseg (Seg.moved (f:=zah) (l:=p0) ((p1).toNat) ((p2).toNat) (by omega) (by omega))) .nil) ?_
   refine At.zab (W.seq ?_)
   obtain ⟨hc6,H⟩:=zaa H
   refine W.region env [] [] rfl rfl rfl (.cons (by first|rfl|(simp;done)|omega|(simp;omega)) (.cons (⟨by first|rfl|(simp;done)|omega|(simp;omega),hc6⟩) (.cons (⟨by first|rfl|(simp;done)|omega|(simp;omega),by first|rfl|(simp;done)|omega|(simp;omega),by first|omega|(simp;omega)⟩) .nil))) .nil (At.kp [0] [26] ?_)
   refine At.za8 (.cons (y:=zqT 37 6 p0.length zah (p0.take ((p1).toNat)++p0.drop ((p2).toNat))) (BSim.kseg (Seg.refl zah _)) .nil) ?_
   refine At.zab (W.rg env [6] [26] ?_)
   refine W.ret ?_
   cases H
   exact At.retK env.ty [26] 874 rfl rfl rfl rfl (.cons (.bufk (.refl _)) .nil) (.of_eq (by refine zeu ?_;first|(simp [zaE];done)|omega|(simp [zaE];omega)|rfl)) hval hdom rfl
theorem zlb (p0:(List Look)) (p1:Int) {r:(List Look)} (H:zhr p0 p1=some r):Ctr Tryz.prog 109 [roL 6 zah p0,.int .i64 (p1)] (roL 6 zah r):=by
 unfold zhr at H
 refine Ctr.ob Tryz.func109 Tryz.ntmps109 (fun w0 h0 hval=>?_)
 refine W.rg env [0,1] [] ?_
 refine W.seq ?_
 obtain ⟨y1,hy2,H⟩:=zac H
 obtain ⟨hc3,H⟩:=zaa H
 obtain ⟨y4,hy5,H⟩:=zac H
 refine W.region env [] [⟨.buf 900 y1.length,[(900,bufL 37 6 zah y1)],7000,[]⟩,⟨.buf 900 y4.length,[(7900,.dead),(900,bufL 37 6 zah y4)],11000,[]⟩] rfl rfl (by kernel_rfl) (.cons hc3 .nil) (.free ((Ctr.ofO (zcC p0 hy2))) (.free (CtrO.sim (CtrO.at (zgo y1 p1 (p1+1) hy5) rfl 7900) (.cons .qc (.cons (.refl _) (.cons (.refl _) .nil))) (.cons (.refl _) .nil)) .nil)) (At.kp [4] [11900] ?_)
 refine At.zab (W.ret ?_)
 cases H
 exact At.ret env.ty rfl rfl (fun q hq=>by cases hq;exact (by first|rfl|(simp;done)|omega|(simp;omega))) (.refl _) hval
theorem zj1 (fuel:Nat) (p0:Wear) (p1:Int) {r:((List Int)×Int)} (H:zge fuel p0 p1=some r):Ctr Tryz.prog 42 [.agg (zaf p0),.int .i64 (p1)] (.tup [roL 1 zad r.1,.int .i64 (r.2)]):=by
 unfold zge at H
 refine Ctr.ob Tryz.func42 Tryz.ntmps42 (fun w0 h0 hval=>?_)
 refine W.rg env [1,2] [2] ?_
 refine W.seq (W.seq ?_)
 obtain ⟨y1,hy2,H⟩:=zac H
 refine W.region env [] [⟨.int .i64 (y1),[],0,[]⟩] rfl rfl rfl .nil (.free (Ctr.sim (.cons (.refl _) (.cons (Sim.lit (f:=zad) ([p1]:List Int) rfl rfl (fun _=>rfl)) .nil)) (zdW p0 ([p1]:List Int) hy2)) .nil) (At.kp [1,2,6] [2] ?_)
 refine At.zab (W.rg env [1,2,6,18] [2] ?_)
 refine W.co H rfl (fun hb3 H=>?_) (fun hb3 H=>?_)
 · refine W.rg env [4,5] [] ?_
   refine W.ret (At.rthen ?_)
   cases H
   exact At.ret env.ty rfl rfl nofun (Sim.tupL (.cons (Sim.nil _ _) (.cons (.refl _) .nil))) hval
 · refine W.skip (At.zab (W.seq ?_))
   obtain ⟨y4,hy5,H⟩:=zac H
   refine W.region env [] [⟨roL 6 zah y4,[],0,[]⟩] rfl rfl rfl .nil (.free (ziI fuel p0 p1 hy5) .nil) (At.kp [1,2,7] [2] ?_)
   refine At.zab (W.seq (W.seq ?_))
   obtain ⟨y6,hy7,H⟩:=zac H
   obtain ⟨y8,hy9,H⟩:=zac H
   refine W.region env [] [⟨.agg (zaL y6),[],0,[]⟩,⟨.bool (y8),[],0,[]⟩] rfl rfl rfl .nil (.free (zdX fuel p0 y4 p1 hy7) (.free (zbk y6 hy9) .nil)) (At.kp [1,2,7,27] [2] ?_)
   refine At.zab (W.co H rfl (fun hb10 H=>?_) (fun hb10 H=>?_))
   · refine W.rg env [4,5] [] ?_
     refine W.ret (At.rthen ?_)
     cases H
     exact At.ret env.ty rfl rfl nofun (Sim.tupL (.cons (Sim.nil _ _) (.cons (.refl _) .nil))) hval
   · refine W.skip (At.zab (W.seq ?_))
     obtain ⟨hc11,H⟩:=zaa H
     refine W.sr env [] [] [1,2,7,8] [2] rfl rfl rfl (.cons hc11 .nil) .nil ?_
     refine W.block (At.kp [1,2,7,8] [2] ?_)
     refine W.loopGo H (fun (s12:Int×(List Look))=>[(1,.int .i64 (p1)),(2,.lp 2 0),(7,roL 6 zah s12.2),(8,.int .i64 (s12.1))]) (fun (s12:Int×(List Look))=>[(2,.cells (zaf p0))]) (.cons .qi (.cons .q (.cons .q (.cons .qi .nil)))) (.cons .q .nil) (fun k12 s12 H K0 hK12=>?_)
     refine W.seq (W.rg env [1,2,7,8,32] [2] ?_)
     refine W.co H rfl (fun hb13 H=>?_) (fun hb13 H=>?_)
     · refine W.skip (At.zab (W.seq (W.block (W.seq ?_))))
       obtain ⟨y14,hy15,H⟩:=zac H
       refine W.region env [] [⟨roL 6 zah y14,[],0,[]⟩] rfl rfl rfl .nil (.free (zlb s12.2 s12.1 hy15) .nil) (At.kp [1,2,7,8,9] [2] ?_)
       refine At.zab (W.seq ?_)
       obtain ⟨y16,hy17,H⟩:=zac H
       obtain ⟨y18,hy19,H⟩:=zac H
       refine W.region env [] [⟨.agg (zaL y16),[],0,[]⟩,⟨.bool (y18),[],0,[]⟩] rfl rfl rfl .nil (.free (zdX fuel p0 y14 p1 hy17) (.free (zbk y16 hy19) .nil)) (At.kp [1,2,7,8,9,43] [2] ?_)
       refine At.zab (W.co H rfl (fun hb20 H=>?_) (fun hb20 H=>?_))
       · refine W.region env [] [] rfl rfl rfl .nil .nil (At.kp [1,2,7,8] [2] ?_)
         refine At.inb (At.zab ?_)
         obtain ⟨hc21,H⟩:=zaa H
         refine W.r1 env hc21 [1,2,7,8] [2] ?_
         refine At.zaA (At.kp [1,2,7,8] [2] ?_)
         exact At.conv (.cons .qi (.cons .q (.cons .q (.cons .qi .nil)))) (.cons .q .nil) (hK12 ((s12.1 - 1),y14) H)
       · refine W.skip (At.inb (At.zab ?_))
         obtain ⟨hc22,H⟩:=zaa H
         refine W.r1 env hc22 [1,2,7,8] [2] ?_
         refine At.zaA (At.kp [1,2,7,8] [2] ?_)
         exact At.conv (.cons .qi (.cons .q (.cons .q (.cons .qi .nil)))) (.cons .q .nil) (hK12 ((s12.1 - 1),s12.2) H)
     · refine W.exit (At.xthen (At.xthen (At.xhere (At.zab (W.rg env [7,10] [] ?_)))))
       refine W.seq (W.rg env [10,45,46,47] [] ?_)
       refine W.block (At.zev 10 510 3 1 (e:=fun i=>zad (([]:List Int).getD i default)) rfl rfl ?_)
       refine At.kp [10,45,46,47] [510] ?_
       refine W.len (t:=45) rfl (fun hn23=>?_)
       refine W.zas H (fun i23 (s23:(List Int))=>[(10,.buf 510 (s23).length),(45,roL 6 zah s12.2),(46,.int .i64 (((s12.2.length:Nat):Int))),(47,.int .i64 ((i23:Int)))]) (fun i23 (s23:(List Int))=>[(510,bufL 3 1 zad s23)]) (.cons .qb (.cons .q (.cons .qi (.cons .qi .nil)))) (.cons .q .nil) (fun k23 i23 s23 hle23 H1 H2 K0 hK23=>?_)
       refine W.rg env [10,45,46,47,48] [510] ?_
       refine W.seq (W.cond rfl (fun hb24=>?_) (fun hb24=>?_))
       · have hi23:i23<s12.2.length:=ltD hb24
         have H:=H1 hi23
         refine W.skip (At.zab (W.seq (W.block (W.sr env [] [] [10,12,45,46,47] [12,510] rfl rfl rfl (.cons (inD hi23) .nil) .nil ?_))))
         obtain ⟨hc25,H⟩:=zaa H
         refine W.region env [] [] rfl rfl rfl (.cons (rmI hc25) .nil) .nil (At.kp [10,45,46,47] [510] ?_)
         refine At.za8 (.cons (y:=bufL 3 1 zad (s23++([(s12.2.getD i23 default).Source]:List Int))) (BSim.seg (Seg.push (Seg.refl zad _) (Seg.lit (f:=zad) (sz:=1) ([(s12.2.getD i23 default).Source]:List Int) rfl rfl (fun _=>rfl)))) .nil) ?_
         refine At.inb (At.zab (W.region env [] [] rfl rfl rfl (.cons (incD hi23 hn23) .nil) .nil (At.kp [10,45,46,47] [510] ?_)))
         refine At.zaA (At.kp [10,45,46,47] [510] ?_)
         exact At.conv (.cons .qb (.cons .q (.cons .qi (.cons .qi .nil)))) (.cons .q .nil) (hK23 hi23 (s23++([(s12.2.getD i23 default).Source]:List Int)) H)
       · have H:=H2 (geD hb24)
         refine W.exit (At.xthen (At.xthen (At.xhere (At.zab (W.rg env [4,5] [510] ?_)))))
         refine W.ret ?_
         cases H
         exact At.ret env.ty rfl rfl (fun q hq=>by cases hq;exact (by first|rfl|(simp;done)|omega|(simp;omega))) (.refl _) hval
theorem zdr (fuel:Nat) (p0:(List Int)) (p1:(List Int)) {r:Bool} (H:zbs fuel p0 p1=some r):Ctr Tryz.prog 44 [roL 1 zad p0,roL 1 zad p1] (.bool (r)):=by
 unfold zbs at H
 refine Ctr.ob Tryz.func44 Tryz.ntmps44 (fun w0 h0 hval=>?_)
 refine W.rg env [0,1] [] ?_
 refine W.rg env [0,1,5] [] ?_
 refine W.seq (W.rg env [0,1,5,6] [] ?_)
 refine W.block (At.kp [0,1,5,6] [] ?_)
 refine W.loopGo H (fun (s1:Bool×Int)=>[(0,roL 1 zad p0),(1,roL 1 zad p1),(5,.bool (s1.1)),(6,.int .i64 (s1.2))]) (fun (s1:Bool×Int)=>[]) (.cons .q (.cons .q (.cons .q (.cons .qi .nil)))) .nil (fun k1 s1 H K0 hK1=>?_)
 refine W.seq (W.sr env [] [] [0,1,5,6,18] [] rfl rfl rfl (.cons id .nil) .nil ?_)
 refine W.co H rfl (fun hb2 H=>?_) (fun hb2 H=>?_)
 · refine W.skip (At.zab (W.seq (W.block ?_)))
   obtain ⟨hc3,H⟩:=zaa H
   obtain ⟨hc4,H⟩:=zaa H
   refine W.region env [] [] rfl rfl (by first|rfl|kernel_rfl) (.cons hc3 (.cons hc4 .nil)) .nil (At.kp [0,1,5,6] [] ?_)
   refine At.inb (At.zab ?_)
   obtain ⟨hc5,H⟩:=zaa H
   refine W.r1 env hc5 [0,1,5,6] [] ?_
   refine At.zaA (At.kp [0,1,5,6] [] ?_)
   exact At.conv (.cons .q (.cons .q (.cons .q (.cons .qi .nil)))) .nil (hK1 ((decide ((p0.getD (s1.2).toNat default)=(p1.getD (s1.2).toNat default))),(s1.2+1)) H)
 · refine W.exit (At.xthen (At.xthen (At.xhere (At.zab (W.rg env [4] [] ?_)))))
   refine W.ret ?_
   cases H
   exact At.rz env hval
theorem zfZ (fuel:Nat) (post:Bool→Option Unit) {r:Unit} (H:zdn fuel post=some r):CtrN Tryz.prog 13 [] (fun (y:Bool)=>.bool (y)) (fun y=>post y=some r):=by
 unfold zdn at H
 refine CtrN.zbR (N:=148) Tryz.func13 (by kernel_rfl) (c:=_) rfl Tryz.ntmps13 rfl (fun w0 h0 hval=>?_)
 refine W.rg env [] [] ?_
 refine W.sr env [] [⟨.agg [roL 3 zaD ((zal).Batches),roL 6 zan ((zal).Mantles),roL 7 zax ((zal).Burns),roL 6 zah ((zal).Looks)],[],0,[]⟩] [1] [1] rfl rfl rfl .nil (.free (zfP) .nil) ?_
 refine W.seq (W.region env [] [] rfl rfl rfl .nil .nil (At.kp [1,2] [1] ?_))
 refine At.slot (t:=2) (v:=roL 1 zad ([10,11,12]:List Int)) (Sim.lit (f:=zad) ([10,11,12]:List Int) rfl rfl (fun _=>rfl)) ?_
 refine At.zab (W.seq ?_)
 obtain ⟨y1,hy2,H⟩:=zac H
 refine W.region env [] [⟨.tup [.agg [.int .i64 (y1.1.Lo),.int .i64 (y1.1.Hi)],.int .i64 (y1.2)],[],0,[]⟩] rfl rfl rfl .nil (.free (zlV fuel (zal) 10 2 5 hy2) .nil) (At.kp [1,2,3,4] [1,3] ?_)
 refine At.zab (W.seq ?_)
 obtain ⟨y3,hy4,H⟩:=zac H
 refine W.region env [] [⟨.tup [.agg [.int .i64 (y3.1.Lo),.int .i64 (y3.1.Hi)],.int .i64 (y3.2)],[],0,[]⟩] rfl rfl rfl .nil (.free (zlc fuel (zal) 1 5 hy4) .nil) (At.kp [1,2,3,4,5,6] [1,3,5] ?_)
 refine At.zab (W.seq ?_)
 obtain ⟨y5,hy6,H⟩:=zac H
 refine W.region env [] [⟨.tup [.int .i64 (y5.1),.int .i64 (y5.2)],[],0,[]⟩] rfl rfl rfl .nil (.free (zec fuel (zal) 10 2 4 hy6) .nil) (At.kp [1,2,3,4,5,6,7,8] [1,3,5] ?_)
 refine At.zab (W.seq ?_)
 obtain ⟨y7,hy8,H⟩:=zac H
 refine W.region env [] [⟨.tup [.int .i64 (y7.1),.int .i64 (y7.2)],[],0,[]⟩] rfl rfl rfl .nil (.free (zec fuel (zal) 10 1 5 hy8) .nil) (At.kp [1,2,3,4,5,6,7,8,9,10] [1,3,5] ?_)
 refine At.zab (W.seq ?_)
 obtain ⟨y9,hy10,H⟩:=zac H
 refine W.region env [] [⟨.tup [.agg [.int .i64 (y9.1.Lo),.int .i64 (y9.1.Hi)],.int .i64 (y9.2)],[],0,[]⟩] rfl rfl rfl .nil (.free (ziF fuel (zal) ([10,11,12]:List Int) 2 4 hy10) .nil) (At.kp [1,2,3,4,5,6,7,8,9,10,11,12] [1,3,5,11] ?_)
 refine At.zab (W.seq ?_)
 obtain ⟨y11,hy12,H⟩:=zac H
 refine W.region env [] [⟨.tup [.agg [.int .i64 (y11.1.Lo),.int .i64 (y11.1.Hi)],.int .i64 (y11.2)],[],0,[]⟩] rfl rfl rfl .nil (.free (ziF fuel (zal) ([10,11,12]:List Int) 2 5 hy12) .nil) (At.kp [1,2,3,4,5,6,7,8,9,10,11,12,13,14] [1,3,5,11,13] ?_)
 refine At.zab (W.seq (W.zol env [] 2 [] [] rfl rfl rfl rfl rfl rfl (fun _=>rfl) rfl .nil .nil (fun _=>.nil) (fun _=>.nil) (fun _=>rfl) (zin fuel (zal) ([10,11,12]:List Int) 2 4 0 false _ H) (fun y13 H=>?_)))
 refine At.kp [1,3,4,5,6,7,8,9,10,11,12,13,14,15,16] [1,3,5,11,13] ?_
 refine At.zab (W.seq ?_)
 obtain ⟨y14,hy15,H⟩:=zac H
 refine W.region env [] [⟨.tup [.agg (zaf y14.1),.int .i64 (y14.2)],[],0,[]⟩] rfl rfl rfl .nil (.free (zjM fuel (zal) (⟨24,10,3,false,0,0⟩:Look) hy15) .nil) (At.kp [3,4,5,6,7,8,9,10,11,12,13,14,15,16,17,18] [3,5,11,13,17] ?_)
 refine At.zab (W.seq ?_)
 obtain ⟨y16,hy17,H⟩:=zac H
 refine W.region env [] [⟨.tup [roL 1 zad y16.1,.int .i64 (y16.2)],[],0,[]⟩] rfl rfl rfl .nil (.free (zj1 fuel y14.1 5 hy17) .nil) (At.kp [3,4,5,6,7,8,9,10,11,12,13,14,15,16,18,19,20] [3,5,11,13] ?_)
 refine At.zab (W.sr env [] [] [3,5,7,9,11,13,15,19,21] [3,5,11,13] rfl rfl rfl (.cons id (.cons id (.cons id (.cons id (.cons id (.cons id (.cons id (.cons id (.cons id (.cons id (.cons id (.cons id (.cons id (.cons id (.cons id (.cons id .nil)))))))))))))))) .nil ?_)
 refine W.sr env [] [] [7,9,15,19,21,22] [] rfl rfl rfl (.cons id (.cons id (.cons id (.cons id (.cons id (.cons id (.cons id (.cons id (.cons id .nil))))))))) .nil ?_
 refine W.seq ?_
 obtain ⟨y18,hy19,H⟩:=zac H
 obtain ⟨y20,hy21,H⟩:=zac H
 refine W.region env [] [⟨.bool (y18),[],0,[]⟩,⟨.bool (y20),[],0,[]⟩] rfl rfl rfl (.cons id (.cons id (.cons id (.cons id (.cons id (.cons id (.cons id (.cons id (.cons id (.cons id (.cons id .nil))))))))))) (.on (fun hW=>Ctr.sim (.cons (.refl _) (.cons (Sim.lit (f:=zad) ([10]:List Int) rfl rfl (fun _=>rfl)) .nil)) (zdr fuel y13.1 ([10]:List Int) (zbQ hy19 hW))) (.on (fun hW=>Ctr.sim (.cons (.refl _) (.cons (Sim.lit (f:=zad) ([22,24]:List Int) rfl rfl (fun _=>rfl)) .nil)) (zdr fuel y16.1 ([22,24]:List Int) (zbQ hy21 hW))) .nil)) (At.kp [0] [] ?_)
 exact At.zab (W.ret (At.retN env.ty ((((((((((((((decide (y1.2=0)) && (decide (y3.2=0))) && (decide (y5.2=0))) && (decide (y7.2=0))) && (decide (y9.2=0))) && (decide (y11.2=0))) && (decide (y13.2=0))) && (decide (y14.2=0))) && (decide (y16.2=0))) && (((((decide (y1.1.Lo=1300)) && (decide (y1.1.Hi=1600))) && ((decide (y3.1.Lo=1000)) && (decide (y3.1.Hi=1599)))) && ((decide (y9.1.Lo=0)) && (decide (y9.1.Hi=2)))) && ((decide (y11.1.Lo=1)) && (decide (y11.1.Hi=2))))) && (decide (y5.1=2))) && (decide (y7.1=0))) && y18) && y20) H rfl rfl nofun (.refl _) hval))
theorem zhb (fuel:Nat) {r:Bool} (H:zdU fuel=some r):Ctr Tryz.prog 13 [] (.bool r):=by
 obtain ⟨u,H2,hr⟩:=znG H
 subst hr
 exact CtrN.one (zfZ fuel _ H2) zoq
theorem zeM (fuel:Nat) (p0:(List Mantle)) (p1:Mantle→Option Bool) (p1_g:Nat) (p1_a p1_b:List AV) (p1_h:∀ x0 r,p1 x0=some r→Ctr Tryz.prog p1_g (p1_a++([.agg [.int .i64 (x0.Source),.int .i64 (x0.Lamp),.int .i64 (x0.Batch),.int .i64 (x0.Night),.int .i64 (x0.Known),.int .i64 (x0.Until)]]++p1_b)) (.bool (r))) {r:(List Mantle)} (H:zbX fuel p0 p1=some r):CtrO Tryz.prog 114 [.buf 700 (p0).length,.clo (.func p1_g) p1_a p1_b] [(700,bufL 33 6 zan p0)] (.buf 900 r.length) [(900,bufL 33 6 zan r)]:=by
 unfold zbX at H
 refine CtrO.zbR (N:=42) Tryz.func114 (by kernel_rfl) (c:=_) rfl Tryz.ntmps114 rfl (fun w0 h0 ρb hval hdom=>?_)
 refine W.rg env [0,1] [700] ?_
 refine W.seq ?_
 obtain ⟨y1,hy2,H⟩:=zac H
 refine W.region env [] [⟨.int .i64 (y1),[],0,[]⟩] rfl rfl rfl (.cons (by first|rfl|(simp;done)|omega|(simp;omega)) .nil) (.free (zdx p0 p1 p1_g p1_a p1_b p1_h hy2) .nil) (At.kp [0,1,5] [700] ?_)
 refine At.zab (W.seq (W.rg env [0,1,5,12] [700] ?_))
 refine W.co H rfl (fun hb3 H=>?_) (fun hb3 H=>?_)
 · refine W.rg env [4] [700] ?_
   refine W.ret (At.rthen ?_)
   cases H
   exact At.retK env.ty [700] 200 rfl rfl rfl rfl (.cons (.refl _) .nil) (.of_eq (by refine zeu ?_;first|(simp [zaE];done)|omega|(simp [zaE];omega)|rfl)) hval hdom rfl
 · refine W.skip (At.zab (W.seq ?_))
   obtain ⟨hc4,H⟩:=zaa H
   refine W.sr env [] [] [0,1,5,6] [700] rfl rfl rfl (.cons hc4 .nil) .nil ?_
   refine W.block (At.kp [0,1,5,6] [700] ?_)
   refine W.loopGo H (fun (s5:Int×Int×(List Mantle))=>[(0,.buf 700 (s5.2.2).length),(1,.clo (.func p1_g) p1_a p1_b),(5,.int .i64 (s5.1)),(6,.int .i64 (s5.2.1))]) (fun (s5:Int×Int×(List Mantle))=>[(700,bufL 33 6 zan s5.2.2)]) (.cons .qb (.cons .q (.cons .qi (.cons .qi .nil)))) (.cons .q .nil) (fun k5 s5 H K0 hK5=>?_)
   refine W.seq (W.sr env [] [] [0,1,5,6,19] [700] rfl rfl rfl (.cons (by first|rfl|(simp;done)|omega|(simp;omega)) .nil) .nil ?_)
   refine W.co H rfl (fun hb6 H=>?_) (fun hb6 H=>?_)
   · refine W.skip (At.zab (W.seq (W.block ?_)))
     obtain ⟨hc7,H⟩:=zaa H
     refine W.sr env [] [] [0,1,5,6,7] [7,700] rfl rfl rfl (.cons (⟨by first|rfl|(simp;done)|omega|(simp;omega),hc7⟩) (.cons (⟨by first|rfl|(simp;done)|omega|(simp;omega),(by have:=hc7;first|omega|(simp only [List.length_set];omega)|(simp only [Int.toNat_natCast] at *;omega)|(simp at this ⊢;omega))⟩) .nil)) .nil ?_
     refine W.seq ?_
     obtain ⟨y8,hy9,H⟩:=zac H
     refine W.region env [] [⟨.bool (y8),[],0,[]⟩] rfl rfl rfl .nil (.free (p1_h (s5.2.2.getD (s5.2.1).toNat default) _ hy9) .nil) (At.kp [0,1,5,6,7,29] [7,700] ?_)
     refine At.zab (W.co H rfl (fun hb10 H=>?_) (fun hb10 H=>?_))
     · refine W.seq ?_
       obtain ⟨hc11,H⟩:=zaa H
       refine W.region env [] [] rfl rfl rfl (.cons (⟨by first|rfl|(simp;done)|omega|(simp;omega),hc11⟩) (.cons (⟨by first|rfl|(simp;done)|omega|(simp;omega),(by have:=hc11;first|omega|(simp only [List.length_set];omega)|(simp only [Int.toNat_natCast] at *;omega)|(simp at this ⊢;omega))⟩) .nil)) .nil (At.kp [0,1,5,6] [700] ?_)
       refine At.za8 (.cons (y:=bufL 33 6 zan (s5.2.2.set (s5.1).toNat (s5.2.2.getD (s5.2.1).toNat default))) (BSim.seg (Seg.set (Seg.refl zan _) (s5.2.2.getD (s5.2.1).toNat default) rfl)) .nil) ?_
       refine At.zab ?_
       obtain ⟨hc12,H⟩:=zaa H
       refine W.r1 env hc12 [0,1,5,6] [700] ?_
       refine At.inb (At.zab ?_)
       obtain ⟨hc13,H⟩:=zaa H
       refine W.r1 env hc13 [0,1,5,6] [700] ?_
       refine At.zaA (At.kp [0,1,5,6] [700] ?_)
       exact At.conv (.cons .qb (.cons .q (.cons .qi (.cons .qi .nil)))) (.cons .q .nil) (hK5 ((s5.1+1),(s5.2.1+1),(s5.2.2.set (s5.1).toNat (s5.2.2.getD (s5.2.1).toNat default))) H)
     · refine W.skip (At.inb (At.zab ?_))
       obtain ⟨hc14,H⟩:=zaa H
       refine W.r1 env hc14 [0,1,5,6] [700] ?_
       refine At.zaA (At.kp [0,1,5,6] [700] ?_)
       exact At.conv (.cons .qb (.cons .q (.cons .qi (.cons .qi .nil)))) (.cons .q .nil) (hK5 (s5.1,(s5.2.1+1),s5.2.2) H)
   · refine W.exit (At.xthen (At.xthen (At.xhere (At.zab (W.seq ?_)))))
     obtain ⟨hc15,H⟩:=zaa H
     refine W.region env [] [] rfl rfl rfl (.cons (⟨by first|rfl|(simp;done)|omega|(simp;omega),hc15⟩) (.cons (⟨by first|rfl|(simp;done)|omega|(simp;omega),(by have:=hc15;omega),(by have:=hc15;omega)⟩) .nil)) .nil (At.kp [0,5] [700] ?_)
     refine At.za8 (.cons (y:=bufL 33 6 zan (zaE s5.2.2 ((s5.1).toNat) (s5.2.2.length - (s5.1).toNat) (fun _=>(⟨0,0,0,0,0,0⟩:Mantle)))) (BSim.seg (Seg.cleared (a:=(s5.1).toNat) (b:=s5.2.2.length) (Seg.refl zan _) (⟨0,0,0,0,0,0⟩:Mantle) rfl (by have:=hc15;omega))) .nil) ?_
     refine At.zab ?_
     obtain ⟨hc16,H⟩:=zaa H
     refine W.sr env [] [] [4] [700] rfl rfl rfl (.cons (⟨by first|rfl|(simp [zbP];done)|(simp [zbP];omega),hc16⟩) .nil) .nil ?_
     refine W.ret ?_
     cases H
     refine At.shrink 4 700 850 (K:=[]) (ts:=[]) rfl rfl (by first|rfl|(simp;done)|omega|(simp;omega)) (by have:=hc16;omega) rfl rfl rfl rfl ?_
     refine At.za8 (.cons (y:=bufL 33 6 zan ((zaE s5.2.2 ((s5.1).toNat) (s5.2.2.length - (s5.1).toNat) (fun _=>(⟨0,0,0,0,0,0⟩:Mantle))).take ((s5.1).toNat))) (BSim.seg (Seg.first (Seg.refl zan _) (by have:=hc16;omega))) .nil) ?_
     exact At.retK env.ty [850] 50 rfl rfl rfl rfl (.cons (.refl _) .nil) (.of_eq (by refine zeu ?_;first|(simp [zaE];done)|omega|(simp [zaE];omega)|rfl)) hval hdom rfl
theorem zfU (p0:(List Mantle)) {r:(List Mantle)} (H:zbh p0=some r):CtrO Tryz.prog 64 [roL 6 zan p0] [] (.buf 900 r.length) [(900,bufL 33 6 zan r)]:=by
 unfold zbh at H
 refine CtrO.zbR (N:=8) Tryz.func64 (by kernel_rfl) (c:=_) rfl Tryz.ntmps64 rfl (fun w0 h0 ρb hval hdom=>?_)
 refine W.rg env [0] [] ?_
 refine W.seq (W.rg env [0,4] [] ?_)
 refine W.zgn rfl (fun hz=>?_) ?_
 · obtain rfl:p0=[]:=List.length_eq_zero_iff.1 hz
   obtain ⟨hc1,H⟩:=zaa H
   refine W.rg env [2] [] ?_
   refine W.ret (At.rthen ?_)
   cases H
   refine At.zev 2 800 33 6 (e:=fun i=>zan (([]:List Mantle).getD i default)) rfl rfl ?_
   exact At.retK env.ty [800] 100 rfl rfl rfl rfl (.cons (.refl _) .nil) (.of_eq (by refine zeu ?_;first|(simp [zaE];done)|omega|(simp [zaE];omega)|rfl)) hval hdom rfl
 · refine W.skip (At.zab (W.seq ?_))
   obtain ⟨hc1,H⟩:=zaa H
   refine W.region env [5] [] rfl rfl rfl (.cons (rmI hc1) .nil) .nil (At.kp [2] [5] ?_)
   refine At.za8 (.cons (y:=bufL 33 6 zan (([]:List Mantle)++p0)) (BSim.seg (Seg.push (Seg.lit (f:=zan) (sz:=6) ([]:List Mantle) rfl rfl (fun _=>rfl)) (Seg.refl zan p0))) .nil) ?_
   refine At.zab (W.ret ?_)
   cases H
   exact At.retK env.ty [5] 895 rfl rfl rfl rfl (.cons (.refl _) .nil) (.of_eq (by refine zeu ?_;first|(simp [zaE];done)|omega|(simp [zaE];omega)|rfl)) hval hdom rfl
theorem ziN (p0:Mantle) (c0:Int):Ctr Tryz.prog 115 [.agg [.int .i64 (p0.Source),.int .i64 (p0.Lamp),.int .i64 (p0.Batch),.int .i64 (p0.Night),.int .i64 (p0.Known),.int .i64 (p0.Until)],.rp [.int .i64 (c0)]] (.bool ((zcS p0 c0))):=by
 obtain ⟨r,H⟩:∃ r,zcS p0 c0=r:=⟨_,rfl⟩
 rw [H]
 unfold zcS at H
 refine Ctr.ob Tryz.func115 Tryz.ntmps115 (fun w0 h0 hval=>?_)
 refine W.rg env [1,2] [2] ?_
 refine W.rg env [3] [] ?_
 refine W.ret ?_
 cases H
 exact At.rz env hval
theorem ze8 (fuel:Nat) (p0:(List Burn)) (p1:Burn→Option Bool) (p1_g:Nat) (p1_a p1_b:List AV) (p1_h:∀ x0 r,p1 x0=some r→Ctr Tryz.prog p1_g (p1_a++([.agg [.int .i64 (x0.Source),.int .i64 (x0.Lamp),.int .i64 (x0.Night),.int .i64 (x0.Minutes.Lo),.int .i64 (x0.Minutes.Hi),.int .i64 (x0.Known),.int .i64 (x0.Until)]]++p1_b)) (.bool (r))) {r:(List Burn)} (H:zcm fuel p0 p1=some r):CtrO Tryz.prog 116 [.buf 700 (p0).length,.clo (.func p1_g) p1_a p1_b] [(700,bufL 35 7 zax p0)] (.buf 900 r.length) [(900,bufL 35 7 zax r)]:=by
 unfold zcm at H
 refine CtrO.zbR (N:=42) Tryz.func116 (by kernel_rfl) (c:=_) rfl Tryz.ntmps116 rfl (fun w0 h0 ρb hval hdom=>?_)
 refine W.rg env [0,1] [700] ?_
 refine W.seq ?_
 obtain ⟨y1,hy2,H⟩:=zac H
 refine W.region env [] [⟨.int .i64 (y1),[],0,[]⟩] rfl rfl rfl (.cons (by first|rfl|(simp;done)|omega|(simp;omega)) .nil) (.free (zdV p0 p1 p1_g p1_a p1_b p1_h hy2) .nil) (At.kp [0,1,5] [700] ?_)
 refine At.zab (W.seq (W.rg env [0,1,5,12] [700] ?_))
 refine W.co H rfl (fun hb3 H=>?_) (fun hb3 H=>?_)
 · refine W.rg env [4] [700] ?_
   refine W.ret (At.rthen ?_)
   cases H
   exact At.retK env.ty [700] 200 rfl rfl rfl rfl (.cons (.refl _) .nil) (.of_eq (by refine zeu ?_;first|(simp [zaE];done)|omega|(simp [zaE];omega)|rfl)) hval hdom rfl
 · refine W.skip (At.zab (W.seq ?_))
   obtain ⟨hc4,H⟩:=zaa H
   refine W.sr env [] [] [0,1,5,6] [700] rfl rfl rfl (.cons hc4 .nil) .nil ?_
   refine W.block (At.kp [0,1,5,6] [700] ?_)
   refine W.loopGo H (fun (s5:Int×Int×(List Burn))=>[(0,.buf 700 (s5.2.2).length),(1,.clo (.func p1_g) p1_a p1_b),(5,.int .i64 (s5.1)),(6,.int .i64 (s5.2.1))]) (fun (s5:Int×Int×(List Burn))=>[(700,bufL 35 7 zax s5.2.2)]) (.cons .qb (.cons .q (.cons .qi (.cons .qi .nil)))) (.cons .q .nil) (fun k5 s5 H K0 hK5=>?_)
   refine W.seq (W.sr env [] [] [0,1,5,6,19] [700] rfl rfl rfl (.cons (by first|rfl|(simp;done)|omega|(simp;omega)) .nil) .nil ?_)
   refine W.co H rfl (fun hb6 H=>?_) (fun hb6 H=>?_)
   · refine W.skip (At.zab (W.seq (W.block ?_)))
     obtain ⟨hc7,H⟩:=zaa H
     refine W.sr env [] [] [0,1,5,6,7] [7,700] rfl rfl rfl (.cons (⟨by first|rfl|(simp;done)|omega|(simp;omega),hc7⟩) (.cons (⟨by first|rfl|(simp;done)|omega|(simp;omega),(by have:=hc7;first|omega|(simp only [List.length_set];omega)|(simp only [Int.toNat_natCast] at *;omega)|(simp at this ⊢;omega))⟩) .nil)) .nil ?_
     refine W.seq ?_
     obtain ⟨y8,hy9,H⟩:=zac H
     refine W.region env [] [⟨.bool (y8),[],0,[]⟩] rfl rfl rfl .nil (.free (p1_h (s5.2.2.getD (s5.2.1).toNat default) _ hy9) .nil) (At.kp [0,1,5,6,7,29] [7,700] ?_)
     refine At.zab (W.co H rfl (fun hb10 H=>?_) (fun hb10 H=>?_))
     · refine W.seq ?_
       obtain ⟨hc11,H⟩:=zaa H
       refine W.region env [] [] rfl rfl rfl (.cons (⟨by first|rfl|(simp;done)|omega|(simp;omega),hc11⟩) (.cons (⟨by first|rfl|(simp;done)|omega|(simp;omega),(by have:=hc11;first|omega|(simp only [List.length_set];omega)|(simp only [Int.toNat_natCast] at *;omega)|(simp at this ⊢;omega))⟩) .nil)) .nil (At.kp [0,1,5,6] [700] ?_)
       refine At.za8 (.cons (y:=bufL 35 7 zax (s5.2.2.set (s5.1).toNat (s5.2.2.getD (s5.2.1).toNat default))) (BSim.seg (Seg.set (Seg.refl zax _) (s5.2.2.getD (s5.2.1).toNat default) rfl)) .nil) ?_
       refine At.zab ?_
       obtain ⟨hc12,H⟩:=zaa H
       refine W.r1 env hc12 [0,1,5,6] [700] ?_
       refine At.inb (At.zab ?_)
       obtain ⟨hc13,H⟩:=zaa H
       refine W.r1 env hc13 [0,1,5,6] [700] ?_
       refine At.zaA (At.kp [0,1,5,6] [700] ?_)
       exact At.conv (.cons .qb (.cons .q (.cons .qi (.cons .qi .nil)))) (.cons .q .nil) (hK5 ((s5.1+1),(s5.2.1+1),(s5.2.2.set (s5.1).toNat (s5.2.2.getD (s5.2.1).toNat default))) H)
     · refine W.skip (At.inb (At.zab ?_))
       obtain ⟨hc14,H⟩:=zaa H
       refine W.r1 env hc14 [0,1,5,6] [700] ?_
       refine At.zaA (At.kp [0,1,5,6] [700] ?_)
       exact At.conv (.cons .qb (.cons .q (.cons .qi (.cons .qi .nil)))) (.cons .q .nil) (hK5 (s5.1,(s5.2.1+1),s5.2.2) H)
   · refine W.exit (At.xthen (At.xthen (At.xhere (At.zab (W.seq ?_)))))
     obtain ⟨hc15,H⟩:=zaa H
     refine W.region env [] [] rfl rfl rfl (.cons (⟨by first|rfl|(simp;done)|omega|(simp;omega),hc15⟩) (.cons (⟨by first|rfl|(simp;done)|omega|(simp;omega),(by have:=hc15;omega),(by have:=hc15;omega)⟩) .nil)) .nil (At.kp [0,5] [700] ?_)
     refine At.za8 (.cons (y:=bufL 35 7 zax (zaE s5.2.2 ((s5.1).toNat) (s5.2.2.length - (s5.1).toNat) (fun _=>(⟨0,0,0,(⟨0,0⟩:Range),0,0⟩:Burn)))) (BSim.seg (Seg.cleared (a:=(s5.1).toNat) (b:=s5.2.2.length) (Seg.refl zax _) (⟨0,0,0,(⟨0,0⟩:Range),0,0⟩:Burn) rfl (by have:=hc15;omega))) .nil) ?_
     refine At.zab ?_
     obtain ⟨hc16,H⟩:=zaa H
     refine W.sr env [] [] [4] [700] rfl rfl rfl (.cons (⟨by first|rfl|(simp [zbP];done)|(simp [zbP];omega),hc16⟩) .nil) .nil ?_
     refine W.ret ?_
     cases H
     refine At.shrink 4 700 850 (K:=[]) (ts:=[]) rfl rfl (by first|rfl|(simp;done)|omega|(simp;omega)) (by have:=hc16;omega) rfl rfl rfl rfl ?_
     refine At.za8 (.cons (y:=bufL 35 7 zax ((zaE s5.2.2 ((s5.1).toNat) (s5.2.2.length - (s5.1).toNat) (fun _=>(⟨0,0,0,(⟨0,0⟩:Range),0,0⟩:Burn))).take ((s5.1).toNat))) (BSim.seg (Seg.first (Seg.refl zax _) (by have:=hc16;omega))) .nil) ?_
     exact At.retK env.ty [850] 50 rfl rfl rfl rfl (.cons (.refl _) .nil) (.of_eq (by refine zeu ?_;first|(simp [zaE];done)|omega|(simp [zaE];omega)|rfl)) hval hdom rfl
theorem zg7 (p0:(List Burn)) {r:(List Burn)} (H:zbJ p0=some r):CtrO Tryz.prog 65 [roL 7 zax p0] [] (.buf 900 r.length) [(900,bufL 35 7 zax r)]:=by
 unfold zbJ at H
 refine CtrO.zbR (N:=8) Tryz.func65 (by kernel_rfl) (c:=_) rfl Tryz.ntmps65 rfl (fun w0 h0 ρb hval hdom=>?_)
 refine W.rg env [0] [] ?_
 refine W.seq (W.rg env [0,4] [] ?_)
 refine W.zgn rfl (fun hz=>?_) ?_
 · obtain rfl:p0=[]:=List.length_eq_zero_iff.1 hz
   obtain ⟨hc1,H⟩:=zaa H
   refine W.rg env [2] [] ?_
   refine W.ret (At.rthen ?_)
   cases H
   refine At.zev 2 800 35 7 (e:=fun i=>zax (([]:List Burn).getD i default)) rfl rfl ?_
   exact At.retK env.ty [800] 100 rfl rfl rfl rfl (.cons (.refl _) .nil) (.of_eq (by refine zeu ?_;first|(simp [zaE];done)|omega|(simp [zaE];omega)|rfl)) hval hdom rfl
 · refine W.skip (At.zab (W.seq ?_))
   obtain ⟨hc1,H⟩:=zaa H
   refine W.region env [5] [] rfl rfl rfl (.cons (rmI hc1) .nil) .nil (At.kp [2] [5] ?_)
   refine At.za8 (.cons (y:=bufL 35 7 zax (([]:List Burn)++p0)) (BSim.seg (Seg.push (Seg.lit (f:=zax) (sz:=7) ([]:List Burn) rfl rfl (fun _=>rfl)) (Seg.refl zax p0))) .nil) ?_
   refine At.zab (W.ret ?_)
   cases H
   exact At.retK env.ty [5] 895 rfl rfl rfl rfl (.cons (.refl _) .nil) (.of_eq (by refine zeu ?_;first|(simp [zaE];done)|omega|(simp [zaE];omega)|rfl)) hval hdom rfl
theorem ziM (p0:Burn) (c0:Int):Ctr Tryz.prog 117 [.agg [.int .i64 (p0.Source),.int .i64 (p0.Lamp),.int .i64 (p0.Night),.int .i64 (p0.Minutes.Lo),.int .i64 (p0.Minutes.Hi),.int .i64 (p0.Known),.int .i64 (p0.Until)],.rp [.int .i64 (c0)]] (.bool ((zcR p0 c0))):=by
 obtain ⟨r,H⟩:∃ r,zcR p0 c0=r:=⟨_,rfl⟩
 rw [H]
 unfold zcR at H
 refine Ctr.ob Tryz.func117 Tryz.ntmps117 (fun w0 h0 hval=>?_)
 refine W.rg env [1,2] [2] ?_
 refine W.rg env [3] [] ?_
 refine W.ret ?_
 cases H
 exact At.rz env hval
theorem ziL (p0:Look) (c0:Int):Ctr Tryz.prog 119 [.agg [.int .i64 (p0.Source),.int .i64 (p0.Lamp),.int .i64 (p0.Night),.bool (p0.Bad),.int .i64 (p0.Known),.int .i64 (p0.Until)],.rp [.int .i64 (c0)]] (.bool ((zcQ p0 c0))):=by
 obtain ⟨r,H⟩:∃ r,zcQ p0 c0=r:=⟨_,rfl⟩
 rw [H]
 unfold zcQ at H
 refine Ctr.ob Tryz.func119 Tryz.ntmps119 (fun w0 h0 hval=>?_)
 refine W.rg env [1,2] [2] ?_
 refine W.rg env [3] [] ?_
 refine W.ret ?_
 cases H
 exact At.rz env hval
theorem zgp (fuel:Nat) (p0:(List Int)) {r:(List Int)} (H:zcr fuel p0=some r):CtrO Tryz.prog 121 [.buf 700 (p0).length] [(700,bufL 3 1 zad p0)] (.buf 900 r.length) [(900,bufL 3 1 zad r)]:=by
 unfold zcr at H
 refine CtrO.zbR (N:=61) Tryz.func121 (by kernel_rfl) (c:=_) rfl Tryz.ntmps121 rfl (fun w0 h0 ρb hval hdom=>?_)
 refine W.rg env [0] [700] ?_
 refine W.seq (W.sr env [] [] [0,8] [700] rfl rfl rfl (.cons (by first|rfl|(simp;done)|omega|(simp;omega)) .nil) .nil ?_)
 refine W.co H rfl (fun hb1 H=>?_) (fun hb1 H=>?_)
 · refine W.rg env [2] [700] ?_
   refine W.ret (At.rthen ?_)
   cases H
   exact At.retK env.ty [700] 200 rfl rfl rfl rfl (.cons (.refl _) .nil) (.of_eq (by refine zeu ?_;first|(simp [zaE];done)|omega|(simp [zaE];omega)|rfl)) hval hdom rfl
 · refine W.skip (At.zab (W.seq (W.rg env [0,3] [700] ?_)))
   refine W.block (At.kp [0,3] [700] ?_)
   refine W.loopGo H (fun (s2:Int)=>[(0,.buf 700 (p0).length),(3,.int .i64 (s2))]) (fun (s2:Int)=>[(700,bufL 3 1 zad p0)]) (.cons .qb (.cons .qi .nil)) (.cons .q .nil) (fun k2 s2 H K0 hK2=>?_)
   refine W.seq (W.sr env [] [] [0,3,13] [700] rfl rfl rfl (.cons (by first|rfl|(simp;done)|omega|(simp;omega)) .nil) .nil ?_)
   refine W.co H rfl (fun hb3 H=>?_) (fun hb3 H=>?_)
   · refine W.skip (At.zab (W.seq (W.block ?_)))
     obtain ⟨hc4,H⟩:=zaa H
     obtain ⟨hc5,H⟩:=zaa H
     obtain ⟨hc6,H⟩:=zaa H
     refine W.sr env [] [] [0,3,25] [700] rfl rfl (by first|rfl|kernel_rfl) (.cons (⟨by first|rfl|(simp;done)|omega|(simp;omega),hc4⟩) (.cons (⟨by first|rfl|(simp;done)|omega|(simp;omega),(by have:=hc4;first|omega|(simp only [List.length_set];omega)|(simp only [Int.toNat_natCast] at *;omega)|(simp at this ⊢;omega))⟩) (.cons hc5 (.cons (⟨by first|rfl|(simp;done)|omega|(simp;omega),hc6⟩) (.cons (⟨by first|rfl|(simp;done)|omega|(simp;omega),(by have:=hc6;first|omega|(simp only [List.length_set];omega)|(simp only [Int.toNat_natCast] at *;omega)|(simp at this ⊢;omega))⟩) .nil))))) .nil ?_
     refine W.co H rfl (fun hb7 H=>?_) (fun hb7 H=>?_)
     · obtain ⟨hc8,H⟩:=zaa H
       refine W.sr env [] [] [0,3,4] [700] rfl rfl rfl (.cons (⟨by first|rfl|(simp;done)|omega|(simp;omega),hc8⟩) .nil) .nil ?_
       refine W.seq (W.rg env [0,3,4,5] [700] ?_)
       refine W.block (At.kp [0,3,4,5] [700] ?_)
       refine W.loopGo H (fun (s9:Int×Int×(List Int))=>[(0,.buf 700 (s9.2.2).length),(3,.int .i64 (s9.1)),(4,.sb 700 (s9.2.2).length ((s2).toNat) (s9.2.2).length),(5,.int .i64 (s9.2.1))]) (fun (s9:Int×Int×(List Int))=>[(700,bufL 3 1 zad s9.2.2)]) (.cons .qb (.cons .qi (.cons (.of_eq (by refine sbEq ?_ ?_ ?_ <;> first|rfl|(simp;done)|omega|(simp;omega))) (.cons .qi .nil)))) (.cons .q .nil) (fun k9 s9 H K0 hK9=>?_)
       refine W.seq (W.sr env [] [] [0,3,4,5,32] [700] rfl rfl rfl (.cons (by first|rfl|(simp;done)|omega|(simp;omega)) .nil) .nil ?_)
       refine W.co H rfl (fun hb10 H=>?_) (fun hb10 H=>?_)
       · refine W.skip (At.zab (W.seq (W.block ?_)))
         obtain ⟨hc11,H⟩:=zaa H
         obtain ⟨hc12,H⟩:=zaa H
         obtain ⟨hc13,H⟩:=zaa H
         refine W.sr env [] [] [0,3,4,5,44] [700] rfl rfl (by first|rfl|kernel_rfl) (.cons (⟨by first|rfl|(simp;done)|omega|(simp;omega),by have h1:=hc8;have h2:=hc11;first|omega|(simp only [Int.toNat_natCast] at *;omega)|(simp at h1 h2 ⊢;omega),by have h1:=hc8;have h2:=hc11;first|omega|(simp only [Int.toNat_natCast] at *;omega)|(simp at h1 h2 ⊢;omega),hc11⟩) (.cons (⟨by first|rfl|(simp;done)|omega|(simp;omega),(by have h1:=hc8;have h2:=hc11;first|omega|(simp only [Int.toNat_natCast] at *;omega)|(simp at h1 h2 ⊢;omega))⟩) (.cons hc12 (.cons (⟨by first|rfl|(simp;done)|omega|(simp;omega),by have h1:=hc8;have h2:=hc13;first|omega|(simp only [Int.toNat_natCast] at *;omega)|(simp at h1 h2 ⊢;omega),by have h1:=hc8;have h2:=hc13;first|omega|(simp only [Int.toNat_natCast] at *;omega)|(simp at h1 h2 ⊢;omega),hc13⟩) (.cons (⟨by first|rfl|(simp;done)|omega|(simp;omega),(by have h1:=hc8;have h2:=hc13;first|omega|(simp only [Int.toNat_natCast] at *;omega)|(simp at h1 h2 ⊢;omega))⟩) .nil))))) .nil ?_
         refine W.co H rfl (fun hb14 H=>?_) (fun hb14 H=>?_)
         · refine W.seq ?_
           obtain ⟨hc15,H⟩:=zaa H
           obtain ⟨hc16,H⟩:=zaa H
           refine W.region env [] [] rfl rfl rfl (.cons (⟨by first|rfl|(simp;done)|omega|(simp;omega),by have h1:=hc8;have h2:=hc15;first|omega|(simp only [Int.toNat_natCast] at *;omega)|(simp at h1 h2 ⊢;omega),by have h1:=hc8;have h2:=hc15;first|omega|(simp only [Int.toNat_natCast] at *;omega)|(simp at h1 h2 ⊢;omega),hc15⟩) (.cons (⟨by first|rfl|(simp;done)|omega|(simp;omega),(by have h1:=hc8;have h2:=hc15;first|omega|(simp only [Int.toNat_natCast] at *;omega)|(simp at h1 h2 ⊢;omega))⟩) (.cons (⟨by first|rfl|(simp;done)|omega|(simp;omega),hc16⟩) (.cons (⟨by first|rfl|(simp;done)|omega|(simp;omega),(by have:=hc16;first|omega|(simp only [List.length_set];omega)|(simp only [Int.toNat_natCast] at *;omega)|(simp at this ⊢;omega))⟩) .nil)))) .nil (At.kp [0,3,4,5] [700] ?_)
           refine At.za8 (.cons (y:=bufL 3 1 zad (s9.2.2.set (s9.1).toNat (s9.2.2.getD ((s2).toNat+(s9.2.1).toNat) default))) (BSim.seg (Seg.set (Seg.refl zad _) (s9.2.2.getD ((s2).toNat+(s9.2.1).toNat) default) rfl)) .nil) ?_
           refine At.zab ?_
           obtain ⟨hc17,H⟩:=zaa H
           refine W.r1 env hc17 [0,3,4,5] [700] ?_
           refine At.inb (At.zab ?_)
           obtain ⟨hc18,H⟩:=zaa H
           refine W.r1 env hc18 [0,3,4,5] [700] ?_
           refine At.zaA (At.kp [0,3,4,5] [700] ?_)
           exact At.conv (.cons .qb (.cons .qi (.cons (.of_eq (by refine sbEq ?_ ?_ ?_ <;> first|rfl|(simp;done)|omega|(simp;omega))) (.cons .qi .nil)))) (.cons .q .nil) (hK9 ((s9.1+1),(s9.2.1+1),(s9.2.2.set (s9.1).toNat (s9.2.2.getD ((s2).toNat+(s9.2.1).toNat) default))) H)
         · refine W.skip (At.inb (At.zab ?_))
           obtain ⟨hc19,H⟩:=zaa H
           refine W.r1 env hc19 [0,3,4,5] [700] ?_
           refine At.zaA (At.kp [0,3,4,5] [700] ?_)
           exact At.conv (.cons .qb (.cons .qi (.cons (.of_eq (by refine sbEq ?_ ?_ ?_ <;> first|rfl|(simp;done)|omega|(simp;omega))) (.cons .qi .nil)))) (.cons .q .nil) (hK9 (s9.1,(s9.2.1+1),s9.2.2) H)
       · refine W.exit (At.xthen (At.xthen (At.xhere (At.zab (W.seq ?_)))))
         obtain ⟨hc20,H⟩:=zaa H
         refine W.region env [] [] rfl rfl rfl (.cons (⟨by first|rfl|(simp;done)|omega|(simp;omega),hc20⟩) (.cons (⟨by first|rfl|(simp;done)|omega|(simp;omega),(by have:=hc20;omega),(by have:=hc20;omega)⟩) .nil)) .nil (At.kp [0,3] [700] ?_)
         refine At.za8 (.cons (y:=bufL 3 1 zad (zaE s9.2.2 ((s9.1).toNat) (s9.2.2.length - (s9.1).toNat) (fun _=>0))) (BSim.seg (Seg.cleared (a:=(s9.1).toNat) (b:=s9.2.2.length) (Seg.refl zad _) 0 rfl (by have:=hc20;omega))) .nil) ?_
         refine At.zab ?_
         obtain ⟨hc21,H⟩:=zaa H
         refine W.sr env [] [] [2] [700] rfl rfl rfl (.cons (⟨by first|rfl|(simp [zbP];done)|(simp [zbP];omega),hc21⟩) .nil) .nil ?_
         refine W.ret (At.rinb ?_)
         refine At.rthen ?_
         refine At.rthen ?_
         refine At.rinb ?_
         refine At.rthen ?_
         cases H
         refine At.shrink 2 700 850 (K:=[]) (ts:=[]) rfl rfl (by first|rfl|(simp;done)|omega|(simp;omega)) (by have:=hc21;omega) rfl rfl rfl rfl ?_
         refine At.za8 (.cons (y:=bufL 3 1 zad ((zaE s9.2.2 ((s9.1).toNat) (s9.2.2.length - (s9.1).toNat) (fun _=>0)).take ((s9.1).toNat))) (BSim.seg (Seg.first (Seg.refl zad _) (by have:=hc21;omega))) .nil) ?_
         exact At.retK env.ty [850] 50 rfl rfl rfl rfl (.cons (.refl _) .nil) (.of_eq (by refine zeu ?_;first|(simp [zaE];done)|omega|(simp [zaE];omega)|rfl)) hval hdom rfl
     · refine W.skip (At.inb (At.zab ?_))
       obtain ⟨hc22,H⟩:=zaa H
       refine W.r1 env hc22 [0,3] [700] ?_
       refine At.zaA (At.kp [0,3] [700] ?_)
       exact At.conv (.cons .qb (.cons .qi .nil)) (.cons .q .nil) (hK2 (s2+1) H)
   · refine W.exit (At.xthen (At.xthen (At.xhere (At.zab (W.rg env [2] [700] ?_)))))
     refine W.ret ?_
     cases H
     exact At.retK env.ty [700] 200 rfl rfl rfl rfl (.cons (.refl _) .nil) (.of_eq (by refine zeu ?_;first|(simp [zaE];done)|omega|(simp [zaE];omega)|rfl)) hval hdom rfl
theorem zj0 (fuel:Nat) (p0:Wear) (p1:Int) (p2:Int) (p3:Int) {r:((List Int)×Int)} (H:zel fuel p0 p1 p2 p3=some r):Ctr Tryz.prog 47 [.agg (zaf p0),.int .i64 (p1),.int .i64 (p2),.int .i64 (p3)] (.tup [roL 1 zad r.1,.int .i64 (r.2)]):=by
 unfold zel at H
 refine Ctr.ob Tryz.func47 Tryz.ntmps47 (fun w0 h0 hval=>?_)
 refine W.rg env [2,3,4,5] [4,5] ?_
 refine W.seq (W.seq ?_)
 obtain ⟨y1,hy2,H⟩:=zac H
 refine W.region env [] [⟨.int .i64 (y1),[],0,[]⟩] rfl rfl rfl .nil (.free (Ctr.sim (.cons (.refl _) (.cons (Sim.lit (f:=zad) ([p2,p3]:List Int) rfl rfl (fun _=>rfl)) .nil)) (zdW p0 ([p2,p3]:List Int) hy2)) .nil) (At.kp [2,3,4,5,10] [4,5] ?_)
 refine At.zab (W.rg env [2,3,4,5,10,25] [4,5] ?_)
 refine W.co H rfl (fun hb3 H=>?_) (fun hb3 H=>?_)
 · refine W.rg env [8,9] [] ?_
   refine W.ret (At.rthen ?_)
   cases H
   exact At.ret env.ty rfl rfl nofun (Sim.tupL (.cons (Sim.nil _ _) (.cons (.refl _) .nil))) hval
 · refine W.skip (At.zab (W.rg env [2,3,4,5,11] [4,5,11] ?_))
   refine W.seq (At.zkT 5 (K:=[4,11]) (ts:=[2,3,4,5,11]) rfl rfl rfl rfl rfl (fun _ h=>h) ?_)
   obtain ⟨y4,hy5,H⟩:=zac H
   obtain ⟨y6,hy7,H⟩:=zac H
   refine W.region env [] [⟨.buf 900 y4.length,[(900,bufL 33 6 zan y4)],33000,[]⟩,⟨.buf 900 y6.length,[(33900,.dead),(900,bufL 33 6 zan y6)],35000,[]⟩] rfl rfl (by kernel_rfl) .nil (.free ((Ctr.ofO (zfU p0.Mantles hy5))) (.free (CtrO.sim (CtrO.at (zeM fuel y4 (fun x0=>some (zcS x0 p1)) 115 [] ([.rp [.int .i64 (p1)]]) (fun x0 r h=>by cases h;exact ziN x0 p1) hy7) rfl 33900) (.cons .qc (.cons (Sim.zoT rfl) .nil)) (.cons (.refl _) .nil)) .nil)) (At.kp [2,3,4,5,11] [4,11,35900] ?_)
   refine At.zab (W.seq ?_)
   obtain ⟨y8,hy9,H⟩:=zac H
   obtain ⟨y10,hy11,H⟩:=zac H
   refine W.region env [] [⟨.buf 900 y8.length,[(900,bufL 35 7 zax y8)],39000,[]⟩,⟨.buf 900 y10.length,[(39900,.dead),(900,bufL 35 7 zax y10)],41000,[]⟩] rfl rfl (by kernel_rfl) .nil (.free ((Ctr.ofO (zg7 p0.Burns hy9))) (.free (CtrO.sim (CtrO.at (ze8 fuel y8 (fun x0=>some (zcR x0 p1)) 117 [] ([.rp [.int .i64 (p1)]]) (fun x0 r h=>by cases h;exact ziM x0 p1) hy11) rfl 39900) (.cons .qc (.cons (Sim.zoT rfl) .nil)) (.cons (.refl _) .nil)) .nil)) (At.kp [2,3,4,5,11] [4,11,35900,41900] ?_)
   refine At.zab (W.seq ?_)
   obtain ⟨y12,hy13,H⟩:=zac H
   obtain ⟨y14,hy15,H⟩:=zac H
   refine W.region env [] [⟨.buf 900 y12.length,[(900,bufL 37 6 zah y12)],45000,[]⟩,⟨.buf 900 y14.length,[(45900,.dead),(900,bufL 37 6 zah y14)],47000,[]⟩] rfl rfl (by kernel_rfl) .nil (.free ((Ctr.ofO (zcC p0.Looks hy13))) (.free (CtrO.sim (CtrO.at (zdw fuel y12 (fun x0=>some (zcQ x0 p1)) 119 [] ([.rp [.int .i64 (p1)]]) (fun x0 r h=>by cases h;exact ziL x0 p1) hy15) rfl 45900) (.cons .qc (.cons (Sim.zoT rfl) .nil)) (.cons (.refl _) .nil)) .nil)) (At.kp [2,3,4,11] [4,11,35900,41900,47900] ?_)
   refine At.zab (W.seq ?_)
   obtain ⟨hc16,H⟩:=zaa H
   obtain ⟨hc17,H⟩:=zaa H
   obtain ⟨hc18,H⟩:=zaa H
   obtain ⟨hc19,H⟩:=zaa H
   refine W.sr env [] [] [2,3,4,11,70] [4,11,35900,41900,47900] rfl rfl rfl (.cons (by first|rfl|(simp;done)|omega|(simp;omega)) (.cons (by first|rfl|(simp;done)|omega|(simp;omega)) (.cons hc16 (.cons (by first|rfl|(simp;done)|omega|(simp;omega)) (.cons hc17 (.cons hc18 (.cons hc19 .nil))))))) .nil ?_
   refine W.co H rfl (fun hb20 H=>?_) (fun hb20 H=>?_)
   · refine W.rg env [8,9] [] ?_
     refine W.ret (At.rthen ?_)
     cases H
     exact At.ret env.ty rfl rfl nofun (Sim.tupL (.cons (Sim.nil _ _) (.cons (.refl _) .nil))) hval
   · refine W.skip (At.zab (W.rg env [2,3,4,11,12] [4,11,35900,41900,47900] ?_))
     refine W.seq (W.rg env [2,3,4,11,12,72,73,74] [4,11,35900,41900,47900] ?_)
     refine W.block (At.zev 12 512 3 1 (e:=fun i=>zad (([]:List Int).getD i default)) rfl rfl ?_)
     refine At.kp [2,3,4,11,12,72,73,74] [4,11,512,35900,41900,47900] ?_
     refine W.len (t:=72) rfl (fun hn21=>?_)
     refine W.zas H (fun i21 (s21:(List Int))=>[(2,.int .i64 (p2)),(3,.int .i64 (p3)),(4,.lp 4 0),(11,.lp 11 0),(12,.buf 512 (s21).length),(72,roL 6 zan p0.Mantles),(73,.int .i64 (((p0.Mantles.length:Nat):Int))),(74,.int .i64 ((i21:Int)))]) (fun i21 (s21:(List Int))=>[(4,.cells (zaf p0)),(11,.cells [roL 3 zaD p0.Batches,.buf 35900 (y6).length,.buf 41900 (y10).length,.buf 47900 (y14).length]),(512,bufL 3 1 zad s21),(35900,bufL 33 6 zan y6),(41900,bufL 35 7 zax y10),(47900,bufL 37 6 zah y14)]) (.cons .qi (.cons .qi (.cons .q (.cons .q (.cons .qb (.cons .q (.cons .qi (.cons .qi .nil)))))))) (.cons .q (.cons (BSim.cells (.cons .q (.cons .qc (.cons .qc (.cons .qc .nil))))) (.cons .q (.cons .q (.cons .q (.cons .q .nil)))))) (fun k21 i21 s21 hle21 H1 H2 K0 hK21=>?_)
     refine W.rg env [2,3,4,11,12,72,73,74,75] [4,11,512,35900,41900,47900] ?_
     refine W.seq (W.cond rfl (fun hb22=>?_) (fun hb22=>?_))
     · have hi21:i21<p0.Mantles.length:=ltD hb22
       have H:=H1 hi21
       refine W.skip (At.zab (W.seq (W.block (W.sr env [] [] [2,3,4,11,12,14,72,73,74] [4,11,14,512,35900,41900,47900] rfl rfl rfl (.cons (inD hi21) .nil) .nil ?_))))
       refine W.seq ?_
       obtain ⟨y23,hy24,H⟩:=zac H
       refine W.region env [] [⟨.tup [.int .i64 (y23.1),.int .i64 (y23.2)],[],0,[]⟩] rfl rfl rfl .nil (.free (zec fuel p0 ((p0.Mantles.getD i21 default).Lamp) p2 p3 hy24) .nil) (At.kp [2,3,4,11,12,14,15,16,72,73,74] [4,11,14,512,35900,41900,47900] ?_)
       refine At.zab (W.seq ?_)
       obtain ⟨y25,hy26,H⟩:=zac H
       refine W.region env [] [⟨.tup [.int .i64 (y25.1),.int .i64 (y25.2)],[],0,[]⟩] rfl rfl rfl (.cons (by (repeat' apply And.intro) <;> first|rfl|(simp;done)|omega|(simp;omega)) .nil) (.free (zec fuel (⟨p0.Batches,y6,y10,y14⟩:Wear) ((p0.Mantles.getD i21 default).Lamp) p2 p3 hy26) .nil) (At.kp [2,3,4,11,12,14,15,16,17,18,72,73,74] [4,11,14,512,35900,41900,47900] ?_)
       refine At.zab (W.sr env [] [] [2,3,4,11,12,14,72,73,74,103] [4,11,14,512,35900,41900,47900] rfl rfl rfl (.cons id (.cons id (.cons (fun h=>by rw [h];rfl) .nil))) .nil ?_)
       refine W.co H rfl (fun hb27 H=>?_) (fun hb27 H=>?_)
       · obtain ⟨hc28,H⟩:=zaa H
         refine W.region env [] [] rfl rfl rfl (.cons (rmI hc28) .nil) .nil (At.kp [2,3,4,11,12,72,73,74] [4,11,512,35900,41900,47900] ?_)
         refine At.za8 (.cons (.refl _) (.cons (.refl _) (.cons (y:=bufL 3 1 zad (s21++([(p0.Mantles.getD i21 default).Lamp]:List Int))) (BSim.seg (Seg.push (Seg.refl zad _) (Seg.lit (f:=zad) (sz:=1) ([(p0.Mantles.getD i21 default).Lamp]:List Int) rfl rfl (fun _=>rfl)))) (.cons (.refl _) (.cons (.refl _) (.cons (.refl _) .nil)))))) ?_
         refine At.inb (At.zab (W.region env [] [] rfl rfl rfl (.cons (incD hi21 hn21) .nil) .nil (At.kp [2,3,4,11,12,72,73,74] [4,11,512,35900,41900,47900] ?_)))
         refine At.zaA (At.kp [2,3,4,11,12,72,73,74] [4,11,512,35900,41900,47900] ?_)
         exact At.conv (.cons .qi (.cons .qi (.cons .q (.cons .q (.cons .qb (.cons .q (.cons .qi (.cons .qi .nil)))))))) (.cons .q (.cons (BSim.cells (.cons .q (.cons .qc (.cons .qc (.cons .qc .nil))))) (.cons .q (.cons .q (.cons .q (.cons .q .nil)))))) (hK21 hi21 (s21++([(p0.Mantles.getD i21 default).Lamp]:List Int)) H)
       · refine W.skip (At.inb (At.zab (W.region env [] [] rfl rfl rfl (.cons (incD hi21 hn21) .nil) .nil (At.kp [2,3,4,11,12,72,73,74] [4,11,512,35900,41900,47900] ?_))))
         refine At.zaA (At.kp [2,3,4,11,12,72,73,74] [4,11,512,35900,41900,47900] ?_)
         exact At.conv (.cons .qi (.cons .qi (.cons .q (.cons .q (.cons .qb (.cons .q (.cons .qi (.cons .qi .nil)))))))) (.cons .q (.cons (BSim.cells (.cons .q (.cons .qc (.cons .qc (.cons .qc .nil))))) (.cons .q (.cons .q (.cons .q (.cons .q .nil)))))) (hK21 hi21 s21 H)
     · have H:=H2 (geD hb22)
       refine W.exit (At.xthen (At.xthen (At.xhere (At.zab (W.seq ?_)))))
       obtain ⟨y29,hy30,H⟩:=zac H
       obtain ⟨hc31,H⟩:=zaa H
       refine W.region env [] [⟨.tup [],[(512,bufL 3 1 zad y29)],0,[512]⟩] rfl rfl (by kernel_rfl) .nil (.free (CtrO.sim (CtrO.ren (zeZ s21 hy30) [(90000,512)]) (.cons .qc .nil) (.cons (.refl _) .nil)) .nil) (At.kp [12] [512] ?_)
       refine At.zab (W.seq ?_)
       obtain ⟨y32,hy33,H⟩:=zac H
       refine W.region env [] [⟨.buf 900 y32.length,[(512,.dead),(900,bufL 3 1 zad y32)],114000,[]⟩] rfl rfl (by kernel_rfl) .nil (.free (CtrO.sim (CtrO.at (zgp fuel y29 hy33) rfl 512) (.cons .qc .nil) (.cons (.refl _) .nil)) .nil) (At.kp [8,9] [114900] ?_)
       refine At.zab (W.ret ?_)
       cases H
       exact At.ret env.ty rfl rfl (fun q hq=>by cases hq;exact (by first|rfl|(simp;done)|omega|(simp;omega))) (.refl _) hval
theorem za2 (p0:Int) (p1:Int) (p2:Int):Ctr Tryz.prog 83 [.int .i64 (p0),.int .i64 (p1),.int .i64 (p2)] (.bool ((zai p0 p1 p2))):=by
 obtain ⟨r,H⟩:∃ r,zai p0 p1 p2=r:=⟨_,rfl⟩
 rw [H]
 unfold zai at H
 refine Ctr.ob Tryz.func83 Tryz.ntmps83 (fun w0 h0 hval=>?_)
 refine W.rg env [0,1,2] [] ?_
 refine W.sr env [] [] [6] [] rfl rfl rfl (.cons id (.cons id (.cons id .nil))) .nil ?_
 refine W.ret ?_
 cases H
 exact At.rz env hval
theorem zeU (p0:Batch):Ctr Tryz.prog 20 [.agg [.int .i64 (p0.Id),.int .i64 (p0.Life.Lo),.int .i64 (p0.Life.Hi)]] (.int .i64 ((zaz p0))):=by
 obtain ⟨r,H⟩:∃ r,zaz p0=r:=⟨_,rfl⟩
 rw [H]
 unfold zaz at H
 refine Ctr.ob Tryz.func20 Tryz.ntmps20 (fun w0 h0 hval=>?_)
 refine W.rg env [1] [1] ?_
 refine W.seq (W.sr env [] [⟨.bool ((zai p0.Id 1 99)),[],0,[]⟩,⟨.bool ((zai p0.Life.Lo 0 p0.Life.Hi)),[],0,[]⟩] [22] [] rfl rfl rfl (.cons id (.cons id (.cons id (.cons id (.cons id (.cons id (.cons id (.cons (fun h=>by rw [h];rfl) (.cons id (.cons id (.cons id (.cons (fun h=>by rw [h];rfl) .nil)))))))))))) (.free (za2 p0.Id 1 99) (.on (fun hW=>za2 p0.Life.Lo 0 p0.Life.Hi) .nil)) ?_)
 refine W.co H rfl (fun hb1 H=>?_) (fun hb1 H=>?_)
 · refine W.rg env [2] [] ?_
   refine W.ret (At.rthen ?_)
   cases H
   exact At.rz env hval
 · refine W.skip (At.zab (W.rg env [2] [] ?_))
   refine W.ret ?_
   cases H
   exact At.rz env hval
theorem zbb (p0:Int):Ctr Tryz.prog 143 [.int .i64 (p0)] (.bool ((zaq p0))):=by
 obtain ⟨r,H⟩:∃ r,zaq p0=r:=⟨_,rfl⟩
 rw [H]
 unfold zaq at H
 refine Ctr.ob Tryz.func143 Tryz.ntmps143 (fun w0 h0 hval=>?_)
 refine W.rg env [0] [] ?_
 refine W.sr env [] [⟨.bool ((zai p0 0 100000)),[],0,[]⟩] [2] [] rfl rfl rfl .nil (.free (za2 p0 0 100000) .nil) ?_
 refine W.ret ?_
 cases H
 exact At.rz env hval
theorem zc0 (p0:(Arr5 Int)) {r:Bool} (H:zbe p0=some r):Ctr Tryz.prog 87 [.agg [.int .i64 (p0.x0),.int .i64 (p0.x1),.int .i64 (p0.x2),.int .i64 (p0.x3),.int .i64 (p0.x4)]] (.bool (r)):=by
 unfold zbe at H
 refine Ctr.ob Tryz.func87 Tryz.ntmps87 (fun w0 h0 hval=>?_)
 refine W.rg env [1] [1] ?_
 obtain ⟨hc1,H⟩:=zaa H
 refine W.sr env [] [⟨.bool ((zai p0.x0 1 99999)),[],0,[]⟩,⟨.bool ((zai p0.x1 1 999)),[],0,[]⟩,⟨.bool ((zaq p0.x2)),[],0,[]⟩,⟨.bool ((zaq p0.x3)),[],0,[]⟩,⟨.bool ((zai p0.x4 (p0.x3+1) 100000)),[],0,[]⟩] [2] [] rfl rfl rfl (.cons (by decide) (.cons (fun _=>by decide) (.cons id (.cons id (.cons id (.cons (fun _=>by decide) (.cons id (.cons id (.cons id (.cons (fun _=>by decide) (.cons id (.cons id (.cons id (.cons (fun _=>by decide) (.cons id (.cons id (.cons id (.cons (fun _=>by decide) (.cons id (.cons (fun _=>by decide) (.cons id (.cons hc1 (.cons id (.cons id (.cons id (.cons id (.cons (fun hW h=>by revert hW h;first|(simp +contextual;done)|grind) (.cons id .nil)))))))))))))))))))))))))))) (.free (za2 p0.x0 1 99999) (.on (fun hW=>za2 p0.x1 1 999) (.on (fun hW=>zbb p0.x2) (.on (fun hW=>zbb p0.x3) (.on (fun hW=>za2 p0.x4 (p0.x3+1) 100000) .nil))))) ?_
 refine W.ret ?_
 cases H
 exact At.rz env hval
theorem zeQ (p0:Mantle) {r:Int} (H:zbf p0=some r):Ctr Tryz.prog 22 [.agg [.int .i64 (p0.Source),.int .i64 (p0.Lamp),.int .i64 (p0.Batch),.int .i64 (p0.Night),.int .i64 (p0.Known),.int .i64 (p0.Until)]] (.int .i64 (r)):=by
 unfold zbf at H
 refine Ctr.ob Tryz.func22 Tryz.ntmps22 (fun w0 h0 hval=>?_)
 refine W.rg env [1] [1] ?_
 refine W.seq (W.seq ?_)
 obtain ⟨y1,hy2,H⟩:=zac H
 refine W.region env [] [⟨.bool (y1),[],0,[]⟩,⟨.bool ((zai p0.Batch 1 99)),[],0,[]⟩] rfl rfl rfl (.cons id (.cons id (.cons id (.cons (fun h=>by rw [h];rfl) .nil)))) (.free (zc0 (⟨p0.Source,p0.Lamp,p0.Night,p0.Known,p0.Until⟩:(Arr5 Int)) hy2) (.on (fun hW=>za2 p0.Batch 1 99) .nil)) (At.kp [21] [] ?_)
 refine At.zab (W.co H rfl (fun hb3 H=>?_) (fun hb3 H=>?_))
 · refine W.rg env [2] [] ?_
   refine W.ret (At.rthen ?_)
   cases H
   exact At.rz env hval
 · refine W.skip (At.zab (W.rg env [2] [] ?_))
   refine W.ret ?_
   cases H
   exact At.rz env hval
theorem zfo (fuel:Nat) (p0:Wear) (p1:Int) {r:Bool} (H:zbE fuel p0 p1=some r):Ctr Tryz.prog 80 [.agg (zaf p0),.int .i64 (p1)] (.bool (r)):=by
 unfold zbE at H
 refine Ctr.ob Tryz.func80 Tryz.ntmps80 (fun w0 h0 hval=>?_)
 refine W.rg env [1,2] [2] ?_
 refine W.seq (W.rg env [1,2,5] [2] ?_)
 refine W.block (At.kp [1,2,5] [2] ?_)
 refine W.loopGo H (fun (s1:Int)=>[(1,.int .i64 (p1)),(2,.lp 2 0),(5,.int .i64 (s1))]) (fun (s1:Int)=>[(2,.cells (zaf p0))]) (.cons .qi (.cons .q (.cons .qi .nil))) (.cons .q .nil) (fun k1 s1 H K0 hK1=>?_)
 refine W.seq (W.rg env [1,2,5,10] [2] ?_)
 refine W.co H rfl (fun hb2 H=>?_) (fun hb2 H=>?_)
 · refine W.skip (At.zab (W.seq (W.block ?_)))
   obtain ⟨hc3,H⟩:=zaa H
   refine W.sr env [] [] [1,2,5,20] [2] rfl rfl rfl (.cons hc3 .nil) .nil ?_
   refine W.co H rfl (fun hb4 H=>?_) (fun hb4 H=>?_)
   · refine W.rg env [4] [] ?_
     refine W.ret (At.rinb ?_)
     refine At.rthen ?_
     refine At.rthen ?_
     refine At.rinb ?_
     refine At.rthen ?_
     cases H
     exact At.rz env hval
   · refine W.skip (At.inb (At.zab ?_))
     obtain ⟨hc5,H⟩:=zaa H
     refine W.r1 env hc5 [1,2,5] [2] ?_
     refine At.zaA (At.kp [1,2,5] [2] ?_)
     exact At.conv (.cons .qi (.cons .q (.cons .qi .nil))) (.cons .q .nil) (hK1 (s1+1) H)
 · refine W.exit (At.xthen (At.xthen (At.xhere (At.zab (W.rg env [4] [] ?_)))))
   refine W.ret ?_
   cases H
   exact At.rz env hval
theorem zfc (p0:Burn) {r:Int} (H:zbu p0=some r):Ctr Tryz.prog 24 [.agg [.int .i64 (p0.Source),.int .i64 (p0.Lamp),.int .i64 (p0.Night),.int .i64 (p0.Minutes.Lo),.int .i64 (p0.Minutes.Hi),.int .i64 (p0.Known),.int .i64 (p0.Until)]] (.int .i64 (r)):=by
 unfold zbu at H
 refine Ctr.ob Tryz.func24 Tryz.ntmps24 (fun w0 h0 hval=>?_)
 refine W.rg env [1] [1] ?_
 refine W.seq (W.seq ?_)
 obtain ⟨y1,hy2,H⟩:=zac H
 refine W.region env [] [⟨.bool (y1),[],0,[]⟩,⟨.bool ((zai p0.Minutes.Lo 0 p0.Minutes.Hi)),[],0,[]⟩] rfl rfl rfl (.cons id (.cons id (.cons id (.cons id (.cons id (.cons id (.cons id (.cons (fun h=>by rw [h];rfl) (.cons id (.cons id (.cons id (.cons (fun h=>by rw [h];rfl) .nil)))))))))))) (.free (zc0 (⟨p0.Source,p0.Lamp,p0.Night,p0.Known,p0.Until⟩:(Arr5 Int)) hy2) (.on (fun hW=>za2 p0.Minutes.Lo 0 p0.Minutes.Hi) .nil)) (At.kp [31] [] ?_)
 refine At.zab (W.co H rfl (fun hb3 H=>?_) (fun hb3 H=>?_))
 · refine W.rg env [2] [] ?_
   refine W.ret (At.rthen ?_)
   cases H
   exact At.rz env hval
 · refine W.skip (At.zab (W.rg env [2] [] ?_))
   refine W.ret ?_
   cases H
   exact At.rz env hval
theorem zfb (p0:Look) {r:Int} (H:zbt p0=some r):Ctr Tryz.prog 26 [.agg [.int .i64 (p0.Source),.int .i64 (p0.Lamp),.int .i64 (p0.Night),.bool (p0.Bad),.int .i64 (p0.Known),.int .i64 (p0.Until)]] (.int .i64 (r)):=by
 unfold zbt at H
 refine Ctr.ob Tryz.func26 Tryz.ntmps26 (fun w0 h0 hval=>?_)
 refine W.rg env [1] [1] ?_
 refine W.seq (W.seq ?_)
 obtain ⟨y1,hy2,H⟩:=zac H
 refine W.region env [] [⟨.bool (y1),[],0,[]⟩] rfl rfl rfl .nil (.free (zc0 (⟨p0.Source,p0.Lamp,p0.Night,p0.Known,p0.Until⟩:(Arr5 Int)) hy2) .nil) (At.kp [15] [] ?_)
 refine At.zab (W.co H rfl (fun hb3 H=>?_) (fun hb3 H=>?_))
 · refine W.rg env [2] [] ?_
   refine W.ret (At.rthen ?_)
   cases H
   exact At.rz env hval
 · refine W.skip (At.zab (W.rg env [2] [] ?_))
   refine W.ret ?_
   cases H
   exact At.rz env hval
theorem zep (fuel:Nat) (p0:Wear) {r:Int} (H:za7 fuel p0=some r):Ctr Tryz.prog 18 [.agg (zaf p0)] (.int .i64 (r)):=by
 unfold za7 at H
 refine Ctr.ob Tryz.func18 Tryz.ntmps18 (fun w0 h0 hval=>?_)
 refine W.rg env [1] [1] ?_
 refine W.seq (W.sr env [] [] [1,28] [1] rfl rfl rfl (.cons id (.cons id (.cons id (.cons (fun h=>by rw [h];rfl) (.cons id (.cons id (.cons id (.cons (fun h=>by rw [h];rfl) (.cons id (.cons id (.cons id (.cons (fun h=>by rw [h];rfl) .nil)))))))))))) .nil ?_)
 refine W.co H rfl (fun hb1 H=>?_) (fun hb1 H=>?_)
 · refine W.rg env [2] [] ?_
   refine W.ret (At.rthen ?_)
   cases H
   exact At.rz env hval
 · refine W.skip (At.zab (W.seq (W.rg env [1,3] [1] ?_)))
   refine W.block (At.kp [1,3] [1] ?_)
   refine W.loopGo H (fun (s2:Int)=>[(1,.lp 1 0),(3,.int .i64 (s2))]) (fun (s2:Int)=>[(1,.cells (zaf p0))]) (.cons .q (.cons .qi .nil)) (.cons .q .nil) (fun k2 s2 H K0 hK2=>?_)
   refine W.seq (W.rg env [1,3,33] [1] ?_)
   refine W.co H rfl (fun hb3 H=>?_) (fun hb3 H=>?_)
   · refine W.skip (At.zab (W.seq (W.block ?_)))
     obtain ⟨hc4,H⟩:=zaa H
     obtain ⟨hc5,H⟩:=zaa H
     obtain ⟨hc6,H⟩:=zaa H
     obtain ⟨hc7,H⟩:=zaa H
     refine W.sr env [] [⟨.int .i64 ((zaz (p0.Batches.getD (s2).toNat default))),[],0,[]⟩] [1,3,62] [1] rfl rfl (by kernel_rfl) (.cons hc4 (.cons id (.cons id (.cons id (.cons hc5 (.cons id (.cons hc6 (.cons id (.cons id (.cons id (.cons id (.cons id (.cons hc7 (.cons id (.cons id (.cons id (.cons id (.cons id (.cons id (.cons id (.cons (fun hW h=>by revert hW h;first|(simp +contextual;done)|grind) (.cons (fun h=>by rw [h];rfl) .nil)))))))))))))))))))))) (.free (zeU (p0.Batches.getD (s2).toNat default)) .nil) ?_
     refine W.co H rfl (fun hb8 H=>?_) (fun hb8 H=>?_)
     · refine W.rg env [2] [] ?_
       refine W.ret (At.rinb ?_)
       refine At.rthen ?_
       refine At.rthen ?_
       refine At.rinb ?_
       refine At.rthen ?_
       cases H
       exact At.rz env hval
     · refine W.skip (At.inb (At.zab ?_))
       obtain ⟨hc9,H⟩:=zaa H
       refine W.r1 env hc9 [1,3] [1] ?_
       refine At.zaA (At.kp [1,3] [1] ?_)
       exact At.conv (.cons .q (.cons .qi .nil)) (.cons .q .nil) (hK2 (s2+1) H)
   · refine W.exit (At.xthen (At.xthen (At.xhere (At.zab (W.seq (W.rg env [1,4] [1] ?_))))))
     refine W.block (At.kp [1,4] [1] ?_)
     refine W.loopGo H (fun (s10:Int)=>[(1,.lp 1 0),(4,.int .i64 (s10))]) (fun (s10:Int)=>[(1,.cells (zaf p0))]) (.cons .q (.cons .qi .nil)) (.cons .q .nil) (fun k10 s10 H K0 hK10=>?_)
     refine W.seq (W.rg env [1,4,67] [1] ?_)
     refine W.co H rfl (fun hb11 H=>?_) (fun hb11 H=>?_)
     · refine W.skip (At.zab (W.seq (W.block (W.seq ?_))))
       obtain ⟨hc12,H⟩:=zaa H
       obtain ⟨y13,hy14,H⟩:=zac H
       obtain ⟨hc15,H⟩:=zaa H
       obtain ⟨y16,hy17,H⟩:=zac H
       obtain ⟨hc18,H⟩:=zaa H
       obtain ⟨hc19,H⟩:=zaa H
       obtain ⟨hc20,H⟩:=zaa H
       refine W.region env [] [⟨.int .i64 (y13),[],0,[]⟩,⟨.bool (y16),[],0,[]⟩] rfl rfl (by kernel_rfl) (.cons hc12 (.cons id (.cons hc15 (.cons id (.cons id (.cons id (.cons id (.cons id (.cons id (.cons id (.cons (fun h=>by rw [h];rfl) (.cons id (.cons id (.cons id (.cons hc18 (.cons id (.cons hc19 (.cons id (.cons id (.cons id (.cons id (.cons id (.cons hc20 (.cons id (.cons id (.cons id (.cons id (.cons id (.cons id (.cons id (.cons (fun hW h=>by revert hW h;first|(simp +contextual;done)|grind) (.cons (fun h=>by rw [h];rfl) .nil)))))))))))))))))))))))))))))))) (.free (zeQ (p0.Mantles.getD (s10).toNat default) hy14) (.on (fun hW=>zfo fuel p0 ((p0.Mantles.getD (s10).toNat default).Batch) (zbQ hy17 hW)) .nil)) (At.kp [1,4,107] [1] ?_)
       refine At.zab (W.co H rfl (fun hb21 H=>?_) (fun hb21 H=>?_))
       · refine W.rg env [2] [] ?_
         refine W.ret (At.rinb ?_)
         refine At.rthen ?_
         refine At.rthen ?_
         refine At.rinb ?_
         refine At.rthen ?_
         cases H
         exact At.rz env hval
       · refine W.skip (At.inb (At.zab ?_))
         obtain ⟨hc22,H⟩:=zaa H
         refine W.r1 env hc22 [1,4] [1] ?_
         refine At.zaA (At.kp [1,4] [1] ?_)
         exact At.conv (.cons .q (.cons .qi .nil)) (.cons .q .nil) (hK10 (s10+1) H)
     · refine W.exit (At.xthen (At.xthen (At.xhere (At.zab (W.seq (W.rg env [1,5] [1] ?_))))))
       refine W.block (At.kp [1,5] [1] ?_)
       refine W.loopGo H (fun (s23:Int)=>[(1,.lp 1 0),(5,.int .i64 (s23))]) (fun (s23:Int)=>[(1,.cells (zaf p0))]) (.cons .q (.cons .qi .nil)) (.cons .q .nil) (fun k23 s23 H K0 hK23=>?_)
       refine W.seq (W.rg env [1,5,112] [1] ?_)
       refine W.co H rfl (fun hb24 H=>?_) (fun hb24 H=>?_)
       · refine W.skip (At.zab (W.seq (W.block (W.seq ?_))))
         obtain ⟨hc25,H⟩:=zaa H
         obtain ⟨y26,hy27,H⟩:=zac H
         obtain ⟨hc28,H⟩:=zaa H
         obtain ⟨hc29,H⟩:=zaa H
         obtain ⟨hc30,H⟩:=zaa H
         refine W.region env [] [⟨.int .i64 (y26),[],0,[]⟩] rfl rfl (by kernel_rfl) (.cons hc25 (.cons id (.cons id (.cons id (.cons hc28 (.cons id (.cons hc29 (.cons id (.cons id (.cons id (.cons id (.cons id (.cons hc30 (.cons id (.cons id (.cons id (.cons id (.cons id (.cons id (.cons id (.cons (fun hW h=>by revert hW h;first|(simp +contextual;done)|grind) (.cons (fun h=>by rw [h];rfl) .nil)))))))))))))))))))))) (.free (zfc (p0.Burns.getD (s23).toNat default) hy27) .nil) (At.kp [1,5,141] [1] ?_)
         refine At.zab (W.co H rfl (fun hb31 H=>?_) (fun hb31 H=>?_))
         · refine W.rg env [2] [] ?_
           refine W.ret (At.rinb ?_)
           refine At.rthen ?_
           refine At.rthen ?_
           refine At.rinb ?_
           refine At.rthen ?_
           cases H
           exact At.rz env hval
         · refine W.skip (At.inb (At.zab ?_))
           obtain ⟨hc32,H⟩:=zaa H
           refine W.r1 env hc32 [1,5] [1] ?_
           refine At.zaA (At.kp [1,5] [1] ?_)
           exact At.conv (.cons .q (.cons .qi .nil)) (.cons .q .nil) (hK23 (s23+1) H)
       · refine W.exit (At.xthen (At.xthen (At.xhere (At.zab (W.seq (W.rg env [1,6] [1] ?_))))))
         refine W.block (At.kp [1,6] [1] ?_)
         refine W.loopGo H (fun (s33:Int)=>[(1,.lp 1 0),(6,.int .i64 (s33))]) (fun (s33:Int)=>[(1,.cells (zaf p0))]) (.cons .q (.cons .qi .nil)) (.cons .q .nil) (fun k33 s33 H K0 hK33=>?_)
         refine W.seq (W.rg env [1,6,146] [1] ?_)
         refine W.co H rfl (fun hb34 H=>?_) (fun hb34 H=>?_)
         · refine W.skip (At.zab (W.seq (W.block (W.seq ?_))))
           obtain ⟨hc35,H⟩:=zaa H
           obtain ⟨y36,hy37,H⟩:=zac H
           obtain ⟨hc38,H⟩:=zaa H
           obtain ⟨hc39,H⟩:=zaa H
           obtain ⟨hc40,H⟩:=zaa H
           refine W.region env [] [⟨.int .i64 (y36),[],0,[]⟩] rfl rfl (by kernel_rfl) (.cons hc35 (.cons id (.cons id (.cons id (.cons hc38 (.cons id (.cons hc39 (.cons id (.cons id (.cons id (.cons id (.cons id (.cons hc40 (.cons id (.cons id (.cons id (.cons id (.cons id (.cons id (.cons id (.cons (fun hW h=>by revert hW h;first|(simp +contextual;done)|grind) (.cons (fun h=>by rw [h];rfl) .nil)))))))))))))))))))))) (.free (zfb (p0.Looks.getD (s33).toNat default) hy37) .nil) (At.kp [1,6,175] [1] ?_)
           refine At.zab (W.co H rfl (fun hb41 H=>?_) (fun hb41 H=>?_))
           · refine W.rg env [2] [] ?_
             refine W.ret (At.rinb ?_)
             refine At.rthen ?_
             refine At.rthen ?_
             refine At.rinb ?_
             refine At.rthen ?_
             cases H
             exact At.rz env hval
           · refine W.skip (At.inb (At.zab ?_))
             obtain ⟨hc42,H⟩:=zaa H
             refine W.r1 env hc42 [1,6] [1] ?_
             refine At.zaA (At.kp [1,6] [1] ?_)
             exact At.conv (.cons .q (.cons .qi .nil)) (.cons .q .nil) (hK33 (s33+1) H)
         · refine W.exit (At.xthen (At.xthen (At.xhere (At.zab (W.rg env [2] [] ?_)))))
           refine W.ret ?_
           cases H
           exact At.rz env hval
theorem zgF (fuel:Nat) (p0:Wear) (p1:(Arr2 Int)) {r:Int} (H:za4 fuel p0 p1=some r):Ctr Tryz.prog 105 [.agg (zaf p0),.agg [.int .i64 (p1.x0),.int .i64 (p1.x1)]] (.int .i64 (r)):=by
 unfold za4 at H
 refine Ctr.ob Tryz.func105 Tryz.ntmps105 (fun w0 h0 hval=>?_)
 refine W.rg env [2,3] [2,3] ?_
 refine W.seq (W.seq ?_)
 obtain ⟨y1,hy2,H⟩:=zac H
 refine W.region env [] [⟨.int .i64 (y1),[],0,[]⟩] rfl rfl rfl .nil (.free (zep fuel p0 hy2) .nil) (At.kp [3,7] [3] ?_)
 refine At.zab (W.co H rfl (fun hb3 H=>?_) (fun hb3 H=>?_))
 · refine W.rg env [4] [] ?_
   refine W.ret (At.rthen ?_)
   cases H
   exact At.rz env hval
 · refine W.skip (At.zab (W.seq (W.sr env [] [⟨.bool ((zaq p1.x0)),[],0,[]⟩,⟨.bool ((zaq p1.x1)),[],0,[]⟩] [17] [] rfl rfl rfl (.cons (by decide) (.cons (fun _=>by decide) (.cons id (.cons id (.cons id (.cons (fun h=>by rw [h];rfl) .nil)))))) (.free (zbb p1.x0) (.on (fun hW=>zbb p1.x1) .nil)) ?_)))
   refine W.co H rfl (fun hb4 H=>?_) (fun hb4 H=>?_)
   · refine W.rg env [4] [] ?_
     refine W.ret (At.rthen ?_)
     cases H
     exact At.rz env hval
   · refine W.skip (At.zab (W.rg env [4] [] ?_))
     refine W.ret ?_
     cases H
     exact At.rz env hval
theorem zfN (fuel:Nat) (p0:Wear) (p1:Int) {r:(Wear×Bool)} (H:zbU fuel p0 p1=some r):Ctr Tryz.prog 49 [.agg (zaf p0),.int .i64 (p1)] (.tup [.agg (zaf r.1),.bool (r.2)]):=by
 unfold zbU at H
 refine Ctr.ob Tryz.func49 Tryz.ntmps49 (fun w0 h0 hval=>?_)
 refine W.rg env [1,2,4] [2,4] ?_
 refine W.seq ?_
 obtain ⟨hc1,H⟩:=zaa H
 refine W.region env [10] [] rfl rfl rfl (.cons (rmI hc1) .nil) .nil (At.kp [1,2,4,6] [2,4,6,10] ?_)
 refine At.za8 (.cons (.refl _) (.cons (.refl _) (.cons (.refl _) (.cons (y:=bufL 31 3 zaD (([]:List Batch)++p0.Batches)) (BSim.seg (Seg.push (Seg.lit (f:=zaD) (sz:=3) ([]:List Batch) rfl rfl (fun _=>rfl)) (Seg.refl zaD p0.Batches))) .nil)))) ?_
 refine At.zab (W.seq (W.rg env [1,2,4,6,7] [2,4,6,10] ?_))
 refine W.block (At.zfh 6 1 901 33 6 (e:=fun i=>zan (([]:List Mantle).getD i default)) rfl rfl rfl ?_)
 refine At.kp [1,2,4,6,7] [2,4,6,10,901] ?_
 refine W.loopGo H (fun (s2:Int×(List Mantle))=>[(1,.int .i64 (p1)),(2,.lp 2 0),(4,.lp 4 0),(6,.lp 6 0),(7,.int .i64 (s2.1))]) (fun (s2:Int×(List Mantle))=>[(2,.cells (zaf p0)),(4,.cells [.nilS,.nilS,.nilS,.nilS]),(6,.cells [.buf 10 ((([]:List Batch)++p0.Batches)).length,.buf 901 (s2.2).length,.nilS,.nilS]),(10,bufL 31 3 zaD (([]:List Batch)++p0.Batches)),(901,bufL 33 6 zan s2.2)]) (.cons .qi (.cons .q (.cons .q (.cons .q (.cons .qi .nil))))) (.cons .q (.cons (BSim.cells (.cons Sim.o (.cons Sim.o (.cons Sim.o (.cons Sim.o .nil))))) (.cons (BSim.cells (.cons .qc (.cons .qc (.cons Sim.o (.cons Sim.o .nil))))) (.cons .q (.cons .q .nil))))) (fun k2 s2 H K0 hK2=>?_)
 refine W.seq (W.rg env [1,2,4,6,7,19] [2,4,6,10,901] ?_)
 refine W.co H rfl (fun hb3 H=>?_) (fun hb3 H=>?_)
 · refine W.skip (At.zab (W.seq (W.block ?_)))
   obtain ⟨hc4,H⟩:=zaa H
   refine W.sr env [] [] [1,2,4,6,7,29] [2,4,6,10,901] rfl rfl rfl (.cons hc4 .nil) .nil ?_
   refine W.co H rfl (fun hb5 H=>?_) (fun hb5 H=>?_)
   · obtain ⟨hc6,H⟩:=zaa H
     obtain ⟨hc7,H⟩:=zaa H
     refine W.region env [] [] rfl rfl (by first|rfl|kernel_rfl) (.cons hc6 (.cons (rmI hc7) .nil)) .nil (At.kp [1,2,4,6,7] [2,4,6,10,901] ?_)
     refine At.za8 (.cons (.refl _) (.cons (.refl _) (.cons (.refl _) (.cons (.refl _) (.cons (y:=bufL 33 6 zan (s2.2++([(p0.Mantles.getD (s2.1).toNat default)]:List Mantle))) (BSim.seg (Seg.push (Seg.refl zan _) (Seg.lit (f:=zan) (sz:=6) ([(p0.Mantles.getD (s2.1).toNat default)]:List Mantle) rfl rfl (fun _=>rfl)))) .nil))))) ?_
     refine At.inb (At.zab ?_)
     obtain ⟨hc8,H⟩:=zaa H
     refine W.r1 env hc8 [1,2,4,6,7] [2,4,6,10,901] ?_
     refine At.zaA (At.kp [1,2,4,6,7] [2,4,6,10,901] ?_)
     exact At.conv (.cons .qi (.cons .q (.cons .q (.cons .q (.cons .qi .nil))))) (.cons .q (.cons (BSim.cells (.cons Sim.o (.cons Sim.o (.cons Sim.o (.cons Sim.o .nil))))) (.cons (BSim.cells (.cons .qc (.cons .qc (.cons Sim.o (.cons Sim.o .nil))))) (.cons .q (.cons .q .nil))))) (hK2 ((s2.1+1),(s2.2++([(p0.Mantles.getD (s2.1).toNat default)]:List Mantle))) H)
   · refine W.skip (At.inb (At.zab ?_))
     obtain ⟨hc9,H⟩:=zaa H
     refine W.r1 env hc9 [1,2,4,6,7] [2,4,6,10,901] ?_
     refine At.zaA (At.kp [1,2,4,6,7] [2,4,6,10,901] ?_)
     exact At.conv (.cons .qi (.cons .q (.cons .q (.cons .q (.cons .qi .nil))))) (.cons .q (.cons (BSim.cells (.cons Sim.o (.cons Sim.o (.cons Sim.o (.cons Sim.o .nil))))) (.cons (BSim.cells (.cons .qc (.cons .qc (.cons Sim.o (.cons Sim.o .nil))))) (.cons .q (.cons .q .nil))))) (hK2 ((s2.1+1),s2.2) H)
 · refine W.exit (At.xthen (At.xthen (At.xhere (At.zab (W.seq (W.rg env [1,2,4,6,8] [2,4,6,10,901] ?_))))))
   refine W.block (At.zfh 6 2 902 35 7 (e:=fun i=>zax (([]:List Burn).getD i default)) rfl rfl rfl ?_)
   refine At.kp [1,2,4,6,8] [2,4,6,10,901,902] ?_
   refine W.loopGo H (fun (s10:Int×(List Burn))=>[(1,.int .i64 (p1)),(2,.lp 2 0),(4,.lp 4 0),(6,.lp 6 0),(8,.int .i64 (s10.1))]) (fun (s10:Int×(List Burn))=>[(2,.cells (zaf p0)),(4,.cells [.nilS,.nilS,.nilS,.nilS]),(6,.cells [.buf 10 ((([]:List Batch)++p0.Batches)).length,.buf 901 (s2.2).length,.buf 902 (s10.2).length,.nilS]),(10,bufL 31 3 zaD (([]:List Batch)++p0.Batches)),(901,bufL 33 6 zan s2.2),(902,bufL 35 7 zax s10.2)]) (.cons .qi (.cons .q (.cons .q (.cons .q (.cons .qi .nil))))) (.cons .q (.cons (BSim.cells (.cons Sim.o (.cons Sim.o (.cons Sim.o (.cons Sim.o .nil))))) (.cons (BSim.cells (.cons .qc (.cons .qc (.cons .qc (.cons Sim.o .nil))))) (.cons .q (.cons .q (.cons .q .nil)))))) (fun k10 s10 H K0 hK10=>?_)
   refine W.seq (W.rg env [1,2,4,6,8,44] [2,4,6,10,901,902] ?_)
   refine W.co H rfl (fun hb11 H=>?_) (fun hb11 H=>?_)
   · refine W.skip (At.zab (W.seq (W.block ?_)))
     obtain ⟨hc12,H⟩:=zaa H
     refine W.sr env [] [] [1,2,4,6,8,54] [2,4,6,10,901,902] rfl rfl rfl (.cons hc12 .nil) .nil ?_
     refine W.co H rfl (fun hb13 H=>?_) (fun hb13 H=>?_)
     · obtain ⟨hc14,H⟩:=zaa H
       obtain ⟨hc15,H⟩:=zaa H
       refine W.region env [] [] rfl rfl (by first|rfl|kernel_rfl) (.cons hc14 (.cons (rmI hc15) .nil)) .nil (At.kp [1,2,4,6,8] [2,4,6,10,901,902] ?_)
       refine At.za8 (.cons (.refl _) (.cons (.refl _) (.cons (.refl _) (.cons (.refl _) (.cons (.refl _) (.cons (y:=bufL 35 7 zax (s10.2++([(p0.Burns.getD (s10.1).toNat default)]:List Burn))) (BSim.seg (Seg.push (Seg.refl zax _) (Seg.lit (f:=zax) (sz:=7) ([(p0.Burns.getD (s10.1).toNat default)]:List Burn) rfl rfl (fun _=>rfl)))) .nil)))))) ?_
       refine At.inb (At.zab ?_)
       obtain ⟨hc16,H⟩:=zaa H
       refine W.r1 env hc16 [1,2,4,6,8] [2,4,6,10,901,902] ?_
       refine At.zaA (At.kp [1,2,4,6,8] [2,4,6,10,901,902] ?_)
       exact At.conv (.cons .qi (.cons .q (.cons .q (.cons .q (.cons .qi .nil))))) (.cons .q (.cons (BSim.cells (.cons Sim.o (.cons Sim.o (.cons Sim.o (.cons Sim.o .nil))))) (.cons (BSim.cells (.cons .qc (.cons .qc (.cons .qc (.cons Sim.o .nil))))) (.cons .q (.cons .q (.cons .q .nil)))))) (hK10 ((s10.1+1),(s10.2++([(p0.Burns.getD (s10.1).toNat default)]:List Burn))) H)
     · refine W.skip (At.inb (At.zab ?_))
       obtain ⟨hc17,H⟩:=zaa H
       refine W.r1 env hc17 [1,2,4,6,8] [2,4,6,10,901,902] ?_
       refine At.zaA (At.kp [1,2,4,6,8] [2,4,6,10,901,902] ?_)
       exact At.conv (.cons .qi (.cons .q (.cons .q (.cons .q (.cons .qi .nil))))) (.cons .q (.cons (BSim.cells (.cons Sim.o (.cons Sim.o (.cons Sim.o (.cons Sim.o .nil))))) (.cons (BSim.cells (.cons .qc (.cons .qc (.cons .qc (.cons Sim.o .nil))))) (.cons .q (.cons .q (.cons .q .nil)))))) (hK10 ((s10.1+1),s10.2) H)
   · refine W.exit (At.xthen (At.xthen (At.xhere (At.zab (W.seq (W.rg env [1,2,4,6,9] [2,4,6,10,901,902] ?_))))))
     refine W.block (At.zfh 6 3 903 37 6 (e:=fun i=>zah (([]:List Look).getD i default)) rfl rfl rfl ?_)
     refine At.kp [1,2,4,6,9] [2,4,6,10,901,902,903] ?_
     refine W.loopGo H (fun (s18:Int×(List Look))=>[(1,.int .i64 (p1)),(2,.lp 2 0),(4,.lp 4 0),(6,.lp 6 0),(9,.int .i64 (s18.1))]) (fun (s18:Int×(List Look))=>[(2,.cells (zaf p0)),(4,.cells [.nilS,.nilS,.nilS,.nilS]),(6,.cells [.buf 10 ((([]:List Batch)++p0.Batches)).length,.buf 901 (s2.2).length,.buf 902 (s10.2).length,.buf 903 (s18.2).length]),(10,bufL 31 3 zaD (([]:List Batch)++p0.Batches)),(901,bufL 33 6 zan s2.2),(902,bufL 35 7 zax s10.2),(903,bufL 37 6 zah s18.2)]) (.cons .qi (.cons .q (.cons .q (.cons .q (.cons .qi .nil))))) (.cons .q (.cons (BSim.cells (.cons Sim.o (.cons Sim.o (.cons Sim.o (.cons Sim.o .nil))))) (.cons (BSim.cells (.cons .qc (.cons .qc (.cons .qc (.cons .qc .nil))))) (.cons .q (.cons .q (.cons .q (.cons .q .nil))))))) (fun k18 s18 H K0 hK18=>?_)
     refine W.seq (W.rg env [1,2,4,6,9,69] [2,4,6,10,901,902,903] ?_)
     refine W.co H rfl (fun hb19 H=>?_) (fun hb19 H=>?_)
     · refine W.skip (At.zab (W.seq (W.block ?_)))
       obtain ⟨hc20,H⟩:=zaa H
       refine W.sr env [] [] [1,2,4,6,9,79] [2,4,6,10,901,902,903] rfl rfl rfl (.cons hc20 .nil) .nil ?_
       refine W.co H rfl (fun hb21 H=>?_) (fun hb21 H=>?_)
       · obtain ⟨hc22,H⟩:=zaa H
         obtain ⟨hc23,H⟩:=zaa H
         refine W.region env [] [] rfl rfl (by first|rfl|kernel_rfl) (.cons hc22 (.cons (rmI hc23) .nil)) .nil (At.kp [1,2,4,6,9] [2,4,6,10,901,902,903] ?_)
         refine At.za8 (.cons (.refl _) (.cons (.refl _) (.cons (.refl _) (.cons (.refl _) (.cons (.refl _) (.cons (.refl _) (.cons (y:=bufL 37 6 zah (s18.2++([(p0.Looks.getD (s18.1).toNat default)]:List Look))) (BSim.seg (Seg.push (Seg.refl zah _) (Seg.lit (f:=zah) (sz:=6) ([(p0.Looks.getD (s18.1).toNat default)]:List Look) rfl rfl (fun _=>rfl)))) .nil))))))) ?_
         refine At.inb (At.zab ?_)
         obtain ⟨hc24,H⟩:=zaa H
         refine W.r1 env hc24 [1,2,4,6,9] [2,4,6,10,901,902,903] ?_
         refine At.zaA (At.kp [1,2,4,6,9] [2,4,6,10,901,902,903] ?_)
         exact At.conv (.cons .qi (.cons .q (.cons .q (.cons .q (.cons .qi .nil))))) (.cons .q (.cons (BSim.cells (.cons Sim.o (.cons Sim.o (.cons Sim.o (.cons Sim.o .nil))))) (.cons (BSim.cells (.cons .qc (.cons .qc (.cons .qc (.cons .qc .nil))))) (.cons .q (.cons .q (.cons .q (.cons .q .nil))))))) (hK18 ((s18.1+1),(s18.2++([(p0.Looks.getD (s18.1).toNat default)]:List Look))) H)
       · refine W.skip (At.inb (At.zab ?_))
         obtain ⟨hc25,H⟩:=zaa H
         refine W.r1 env hc25 [1,2,4,6,9] [2,4,6,10,901,902,903] ?_
         refine At.zaA (At.kp [1,2,4,6,9] [2,4,6,10,901,902,903] ?_)
         exact At.conv (.cons .qi (.cons .q (.cons .q (.cons .q (.cons .qi .nil))))) (.cons .q (.cons (BSim.cells (.cons Sim.o (.cons Sim.o (.cons Sim.o (.cons Sim.o .nil))))) (.cons (BSim.cells (.cons .qc (.cons .qc (.cons .qc (.cons .qc .nil))))) (.cons .q (.cons .q (.cons .q (.cons .q .nil))))))) (hK18 ((s18.1+1),s18.2) H)
     · refine W.exit (At.xthen (At.xthen (At.xhere (At.zab ?_))))
       obtain ⟨hc26,H⟩:=zaa H
       obtain ⟨hc27,H⟩:=zaa H
       obtain ⟨hc28,H⟩:=zaa H
       obtain ⟨hc29,H⟩:=zaa H
       refine W.sr env [] [] [4,5] [4,10,901,902,903] rfl rfl (by first|rfl|kernel_rfl) (.cons (by first|rfl|(simp;done)|omega|(simp;omega)) (.cons (by first|rfl|(simp;done)|omega|(simp;omega)) (.cons hc26 (.cons (by first|rfl|(simp;done)|omega|(simp;omega)) (.cons hc27 (.cons hc28 (.cons hc29 .nil))))))) .nil ?_
       refine W.ret ?_
       cases H
       exact At.ret env.ty rfl rfl (fun q hq=>by cases hq;exact (by (repeat' apply And.intro) <;> first|rfl|(simp;done)|omega|(simp;omega))) (.refl _) hval
theorem zgH (fuel:Nat) (p0:Wear) {r:(List Int)} (H:zch fuel p0=some r):Ctr Tryz.prog 50 [.agg (zaf p0)] (roL 1 zad r):=by
 unfold zch at H
 refine Ctr.ob Tryz.func50 Tryz.ntmps50 (fun w0 h0 hval=>?_)
 refine W.rg env [1] [1] ?_
 refine W.rg env [1,3] [1] ?_
 refine W.seq (W.rg env [1,3,4] [1] ?_)
 refine W.block (At.zev 3 503 3 1 (e:=fun i=>zad (([]:List Int).getD i default)) rfl rfl ?_)
 refine At.zmy 503 (K:=[1]) (ts:=[1,3,4]) rfl rfl rfl rfl (.cons (by first|rfl|(simp;done)|omega|(simp;omega)) .nil) .nil (fun _ h=>h) ?_
 refine At.kp [1,3,4] [1] ?_
 refine W.loopGo H (fun (s1:Int×(List Int))=>[(1,.lp 1 0),(3,roL 1 zad s1.2),(4,.int .i64 (s1.1))]) (fun (s1:Int×(List Int))=>[(1,.cells (zaf p0))]) (.cons .q (.cons .q (.cons .qi .nil))) (.cons .q .nil) (fun k1 s1 H K0 hK1=>?_)
 refine W.seq (W.rg env [1,3,4,10] [1] ?_)
 refine W.co H rfl (fun hb2 H=>?_) (fun hb2 H=>?_)
 · refine W.skip (At.zab (W.seq (W.block (W.rg env [1,3,4,5] [1] ?_))))
   refine W.seq (W.block (At.kp [1,3,4,5] [1] ?_))
   refine W.loopGo H (fun (s3:Int)=>[(1,.lp 1 0),(3,roL 1 zad s1.2),(4,.int .i64 (s1.1)),(5,.int .i64 (s3))]) (fun (s3:Int)=>[(1,.cells (zaf p0))]) (.cons .q (.cons .q (.cons .qi (.cons .qi .nil)))) (.cons .q .nil) (fun k3 s3 H K0 hK3=>?_)
   refine W.seq ?_
   obtain ⟨hc4,H⟩:=zaa H
   obtain ⟨hc5,H⟩:=zaa H
   refine W.sr env [] [] [1,3,4,5,29] [1] rfl rfl (by first|rfl|kernel_rfl) (.cons hc4 (.cons id (.cons id (.cons id (.cons id (.cons hc5 (.cons id (.cons id (.cons id (.cons id (.cons id (.cons id (.cons id .nil))))))))))))) .nil ?_
   refine W.co H rfl (fun hb6 H=>?_) (fun hb6 H=>?_)
   · refine W.skip (At.zab (W.block ?_))
     obtain ⟨hc7,H⟩:=zaa H
     refine W.r1 env hc7 [1,3,4,5] [1] ?_
     refine At.inb (At.zaA (At.kp [1,3,4,5] [1] ?_))
     exact At.conv (.cons .q (.cons .q (.cons .qi (.cons .qi .nil)))) (.cons .q .nil) (hK3 (s3+1) H)
   · refine W.exit (At.xthen (At.xthen (At.xhere (At.zab ?_))))
     obtain ⟨hc8,H⟩:=zaa H
     obtain ⟨hc9,H⟩:=zaa H
     refine W.sr env [] [] [1,3,4,5,48] [1] rfl rfl (by first|rfl|kernel_rfl) (.cons hc8 (.cons id (.cons id (.cons id (.cons id (.cons hc9 (.cons id (.cons id (.cons id (.cons id (.cons id (.cons id (.cons (fun h=>by rw [h];rfl) .nil))))))))))))) .nil ?_
     refine W.co H rfl (fun hb10 H=>?_) (fun hb10 H=>?_)
     · obtain ⟨hc11,H⟩:=zaa H
       obtain ⟨hc12,H⟩:=zaa H
       obtain ⟨hc13,H⟩:=zaa H
       obtain ⟨hc14,H⟩:=zaa H
       obtain ⟨hc15,H⟩:=zaa H
       obtain ⟨hc16,H⟩:=zaa H
       refine W.region env [49] [] rfl rfl (by first|rfl|kernel_rfl) (.cons hc11 (.cons (rmI hc12) (.cons hc13 (.cons (rmI hc14) (.cons hc15 (.cons (rmI hc16) .nil)))))) .nil (At.kp [1,3,4] [1,49] ?_)
       refine At.za8 (.cons (.refl _) (.cons (y:=bufL 3 1 zad (((([]:List Int)++(s1.2.take (s3).toNat))++([(p0.Mantles.getD (s1.1).toNat default).Lamp]:List Int))++(s1.2.drop (s3).toNat))) (BSim.seg (Seg.push (Seg.push (Seg.push (Seg.lit (f:=zad) (sz:=1) ([]:List Int) rfl rfl (fun _=>rfl)) (Seg.take zad s1.2 ((s3).toNat) (by omega))) (Seg.lit (f:=zad) (sz:=1) ([(p0.Mantles.getD (s1.1).toNat default).Lamp]:List Int) rfl rfl (fun _=>rfl))) (Seg.drop zad s1.2 ((s3).toNat)))) .nil)) ?_
       refine At.inb (At.zab ?_)
       obtain ⟨hc17,H⟩:=zaa H
       refine W.r1 env hc17 [1,3,4] [1,49] ?_
       refine At.zmy 49 (K:=[1]) (ts:=[1,3,4]) rfl rfl rfl rfl (.cons (by first|rfl|(simp;done)|omega|(simp;omega)) .nil) .nil (fun _ h=>h) ?_
       refine At.zaA (At.kp [1,3,4] [1] ?_)
       exact At.conv (.cons .q (.cons .q (.cons .qi .nil))) (.cons .q .nil) (hK1 ((s1.1+1),(((([]:List Int)++(s1.2.take (s3).toNat))++([(p0.Mantles.getD (s1.1).toNat default).Lamp]:List Int))++(s1.2.drop (s3).toNat))) H)
     · refine W.skip (At.inb (At.zab ?_))
       obtain ⟨hc18,H⟩:=zaa H
       refine W.r1 env hc18 [1,3,4] [1] ?_
       refine At.zaA (At.kp [1,3,4] [1] ?_)
       exact At.conv (.cons .q (.cons .q (.cons .qi .nil))) (.cons .q .nil) (hK1 ((s1.1+1),s1.2) H)
 · refine W.exit (At.xthen (At.xthen (At.xhere (At.zab (W.rg env [2] [] ?_)))))
   refine W.ret ?_
   cases H
   exact At.rz env hval
theorem zbG (p0:Int) (p1:Int) (p2:Int):Ctr Tryz.prog 153 [.int .i64 (p0),.int .i64 (p1),.int .i64 (p2)] (.bool ((zaw p0 p1 p2))):=by
 obtain ⟨r,H⟩:∃ r,zaw p0 p1 p2=r:=⟨_,rfl⟩
 rw [H]
 unfold zaw at H
 refine Ctr.ob Tryz.func153 Tryz.ntmps153 (fun w0 h0 hval=>?_)
 refine W.rg env [0,1,2] [] ?_
 refine W.sr env [] [] [6] [] rfl rfl rfl (.cons id (.cons id (.cons id (.cons id (.cons id (.cons (fun hW h=>by revert hW h;first|(simp +contextual;done)|grind) (.cons id .nil))))))) .nil ?_
 refine W.ret ?_
 cases H
 exact At.rz env hval
theorem zc4 (fuel:Nat) (p0:Wear) (p1:Int) (p2:Int) (p3:Int) {r:(Mantle×Bool)} (H:zbx fuel p0 p1 p2 p3=some r):Ctr Tryz.prog 94 [.agg (zaf p0),.int .i64 (p1),.int .i64 (p2),.int .i64 (p3)] (.tup [.agg [.int .i64 (r.1.Source),.int .i64 (r.1.Lamp),.int .i64 (r.1.Batch),.int .i64 (r.1.Night),.int .i64 (r.1.Known),.int .i64 (r.1.Until)],.bool (r.2)]):=by
 unfold zbx at H
 refine Ctr.ob Tryz.func94 Tryz.ntmps94 (fun w0 h0 hval=>?_)
 refine W.rg env [1,2,3,4,8] [4,8] ?_
 refine W.rg env [1,2,3,4,8,10] [4,8,10] ?_
 refine W.rg env [1,2,3,4,8,10,11] [4,8,10] ?_
 refine W.seq (W.rg env [1,2,3,4,8,10,11,12] [4,8,10] ?_)
 refine W.block (At.kp [1,2,3,4,8,10,11,12] [4,8,10] ?_)
 refine W.loopGo H (fun (s1:Bool×Int×Mantle)=>[(1,.int .i64 (p1)),(2,.int .i64 (p2)),(3,.int .i64 (p3)),(4,.lp 4 0),(8,.lp 8 0),(10,.lp 10 0),(11,.bool (s1.1)),(12,.int .i64 (s1.2.1))]) (fun (s1:Bool×Int×Mantle)=>[(4,.cells (zaf p0)),(8,.cells [.int .i64 (0),.int .i64 (0),.int .i64 (0),.int .i64 (0),.int .i64 (0),.int .i64 (0)]),(10,.cells [.int .i64 (s1.2.2.Source),.int .i64 (s1.2.2.Lamp),.int .i64 (s1.2.2.Batch),.int .i64 (s1.2.2.Night),.int .i64 (s1.2.2.Known),.int .i64 (s1.2.2.Until)])]) (.cons .qi (.cons .qi (.cons .qi (.cons .q (.cons .q (.cons .q (.cons .q (.cons .qi .nil)))))))) (.cons .q (.cons .q (.cons .q .nil))) (fun k1 s1 H K0 hK1=>?_)
 refine W.seq (W.rg env [1,2,3,4,8,10,11,12,18] [4,8,10] ?_)
 refine W.co H rfl (fun hb2 H=>?_) (fun hb2 H=>?_)
 · refine W.skip (At.zab (W.seq (W.block ?_)))
   obtain ⟨hc3,H⟩:=zaa H
   refine W.sr env [] [] [1,2,3,4,8,10,11,12,13] [4,8,10,13] rfl rfl rfl (.cons hc3 .nil) .nil ?_
   refine W.sr env [] [⟨.bool ((zaw ((p0.Mantles.getD (s1.2.1).toNat default).Known) ((p0.Mantles.getD (s1.2.1).toNat default).Until) p3)),[],0,[]⟩] [1,2,3,4,8,10,11,12,13,54] [4,8,10,13] rfl rfl rfl (.cons id (.cons id (.cons id (.cons id (.cons id (.cons id (.cons id (.cons id (.cons id (.cons id (.cons id (.cons id (.cons id (.cons id (.cons id (.cons id (.cons id (.cons (fun hW h=>by revert hW h;first|(simp +contextual;done)|grind) (.cons id .nil))))))))))))))))))) (.on (fun hW=>zbG ((p0.Mantles.getD (s1.2.1).toNat default).Known) ((p0.Mantles.getD (s1.2.1).toNat default).Until) p3) .nil) ?_
   refine W.co H rfl (fun hb4 H=>?_) (fun hb4 H=>?_)
   · refine W.rg env [1,2,3,4,8,10,12] [4,8,10] ?_
     refine W.region env [] [] rfl rfl rfl .nil .nil (At.kp [1,2,3,4,8,10,11,12] [4,8,10] ?_)
     refine At.inb (At.zab ?_)
     obtain ⟨hc5,H⟩:=zaa H
     refine W.r1 env hc5 [1,2,3,4,8,10,11,12] [4,8,10] ?_
     refine At.zaA (At.kp [1,2,3,4,8,10,11,12] [4,8,10] ?_)
     exact At.conv (.cons .qi (.cons .qi (.cons .qi (.cons .q (.cons .q (.cons .q (.cons .q (.cons .qi .nil)))))))) (.cons .q (.cons .q (.cons .q .nil))) (hK1 (true,(s1.2.1+1),(p0.Mantles.getD (s1.2.1).toNat default)) H)
   · refine W.skip (At.inb (At.zab ?_))
     obtain ⟨hc6,H⟩:=zaa H
     refine W.r1 env hc6 [1,2,3,4,8,10,11,12] [4,8,10] ?_
     refine At.zaA (At.kp [1,2,3,4,8,10,11,12] [4,8,10] ?_)
     exact At.conv (.cons .qi (.cons .qi (.cons .qi (.cons .q (.cons .q (.cons .q (.cons .q (.cons .qi .nil)))))))) (.cons .q (.cons .q (.cons .q .nil))) (hK1 (s1.1,(s1.2.1+1),s1.2.2) H)
 · refine W.exit (At.xthen (At.xthen (At.xhere (At.zab (W.rg env [8,9] [8] ?_)))))
   refine W.ret ?_
   cases H
   exact At.rz env hval
theorem zfY (fuel:Nat) (p0:Wear) (p1:gasolierref06_When) {r:(Mantle×Int)} (H:zb3 fuel p0 p1=some r):Ctr Tryz.prog 99 [.agg (zaf p0),.agg [.int .i64 (p1.Lamp),.int .i64 (p1.Night),.int .i64 (p1.Known)]] (.tup [.agg [.int .i64 (r.1.Source),.int .i64 (r.1.Lamp),.int .i64 (r.1.Batch),.int .i64 (r.1.Night),.int .i64 (r.1.Known),.int .i64 (r.1.Until)],.int .i64 (r.2)]):=by
 unfold zb3 at H
 refine Ctr.ob Tryz.func99 Tryz.ntmps99 (fun w0 h0 hval=>?_)
 refine W.rg env [2,3,4] [2,3,4] ?_
 refine W.seq (W.seq ?_)
 obtain ⟨y1,hy2,H⟩:=zac H
 refine W.region env [] [⟨.int .i64 (y1),[],0,[]⟩] rfl rfl rfl .nil (.free (zep fuel p0 hy2) .nil) (At.kp [2,3,4,10] [2,3,4] ?_)
 refine At.zab (W.co H rfl (fun hb3 H=>?_) (fun hb3 H=>?_))
 · refine W.rg env [4,5] [4] ?_
   refine W.ret (At.rthen ?_)
   cases H
   exact At.rz env hval
 · refine W.skip (At.zab (W.seq (W.sr env [] [⟨.bool ((zai p1.Lamp 1 999)),[],0,[]⟩] [2,3,4,15] [2,3,4] rfl rfl rfl .nil (.free (za2 p1.Lamp 1 999) .nil) ?_)))
   refine W.co H rfl (fun hb4 H=>?_) (fun hb4 H=>?_)
   · refine W.rg env [4,5] [4] ?_
     refine W.ret (At.rthen ?_)
     cases H
     exact At.rz env hval
   · refine W.skip (At.zab (W.seq (W.sr env [] [⟨.bool ((zaq p1.Night)),[],0,[]⟩,⟨.bool ((zaq p1.Known)),[],0,[]⟩] [2,3,4,26] [2,3,4] rfl rfl rfl (.cons id (.cons id (.cons id (.cons (fun h=>by rw [h];rfl) .nil)))) (.free (zbb p1.Night) (.on (fun hW=>zbb p1.Known) .nil)) ?_)))
     refine W.co H rfl (fun hb5 H=>?_) (fun hb5 H=>?_)
     · refine W.rg env [4,5] [4] ?_
       refine W.ret (At.rthen ?_)
       cases H
       exact At.rz env hval
     · refine W.skip (At.zab (W.seq ?_))
       obtain ⟨y6,hy7,H⟩:=zac H
       refine W.region env [] [⟨.tup [.agg [.int .i64 (y6.1.Source),.int .i64 (y6.1.Lamp),.int .i64 (y6.1.Batch),.int .i64 (y6.1.Night),.int .i64 (y6.1.Known),.int .i64 (y6.1.Until)],.bool (y6.2)],[],0,[]⟩] rfl rfl rfl .nil (.free (zc4 fuel p0 p1.Lamp p1.Night p1.Known hy7) .nil) (At.kp [4,6,7] [4,6] ?_)
       refine At.zab (W.seq (W.rg env [4,6,40] [4,6] ?_))
       refine W.co H rfl (fun hb8 H=>?_) (fun hb8 H=>?_)
       · refine W.rg env [4,5] [4] ?_
         refine W.ret (At.rthen ?_)
         cases H
         exact At.rz env hval
       · refine W.skip (At.zab (W.rg env [4,5] [4] ?_))
         refine W.ret ?_
         cases H
         exact At.rz env hval
theorem zgD (fuel:Nat) (p0:Wear) (p1:Int) {r:(List Look)} (H:zce fuel p0 p1=some r):Ctr Tryz.prog 110 [.agg (zaf p0),.int .i64 (p1)] (roL 6 zah r):=by
 unfold zce at H
 refine Ctr.ob Tryz.func110 Tryz.ntmps110 (fun w0 h0 hval=>?_)
 refine W.rg env [1,2] [2] ?_
 refine W.rg env [1,2,5] [2] ?_
 refine W.seq (W.rg env [1,2,5,6] [2] ?_)
 refine W.block (At.zev 5 505 37 6 (e:=fun i=>zah (([]:List Look).getD i default)) rfl rfl ?_)
 refine At.kp [1,2,5,6] [2,505] ?_
 refine W.loopGo H (fun (s1:Int×(List Look))=>[(1,.int .i64 (p1)),(2,.lp 2 0),(5,.buf 505 (s1.2).length),(6,.int .i64 (s1.1))]) (fun (s1:Int×(List Look))=>[(2,.cells (zaf p0)),(505,bufL 37 6 zah s1.2)]) (.cons .qi (.cons .q (.cons .qb (.cons .qi .nil)))) (.cons .q (.cons .q .nil)) (fun k1 s1 H K0 hK1=>?_)
 refine W.seq (W.rg env [1,2,5,6,14] [2,505] ?_)
 refine W.co H rfl (fun hb2 H=>?_) (fun hb2 H=>?_)
 · refine W.skip (At.zab (W.seq (W.block ?_)))
   obtain ⟨hc3,H⟩:=zaa H
   refine W.sr env [] [] [1,2,5,6,7] [2,7,505] rfl rfl rfl (.cons hc3 .nil) .nil ?_
   refine W.seq ?_
   obtain ⟨y4,hy5,H⟩:=zac H
   refine W.region env [] [⟨.tup [.agg [.int .i64 (y4.1.Source),.int .i64 (y4.1.Lamp),.int .i64 (y4.1.Batch),.int .i64 (y4.1.Night),.int .i64 (y4.1.Known),.int .i64 (y4.1.Until)],.bool (y4.2)],[],0,[]⟩] rfl rfl rfl .nil (.free (zc4 fuel p0 ((p0.Looks.getD (s1.1).toNat default).Lamp) ((p0.Looks.getD (s1.1).toNat default).Night) p1 hy5) .nil) (At.kp [1,2,5,6,7,9] [2,7,505] ?_)
   refine At.zab (W.sr env [] [⟨.bool ((zaw ((p0.Looks.getD (s1.1).toNat default).Known) ((p0.Looks.getD (s1.1).toNat default).Until) p1)),[],0,[]⟩] [1,2,5,6,7,40] [2,7,505] rfl rfl rfl (.cons id (.cons id (.cons id (.cons id (.cons id (.cons id .nil)))))) (.on (fun hW=>zbG ((p0.Looks.getD (s1.1).toNat default).Known) ((p0.Looks.getD (s1.1).toNat default).Until) p1) .nil) ?_)
   refine W.co H rfl (fun hb6 H=>?_) (fun hb6 H=>?_)
   · obtain ⟨hc7,H⟩:=zaa H
     refine W.region env [] [] rfl rfl rfl (.cons (rmI hc7) .nil) .nil (At.kp [1,2,5,6] [2,505] ?_)
     refine At.za8 (.cons (.refl _) (.cons (y:=bufL 37 6 zah (s1.2++([(p0.Looks.getD (s1.1).toNat default)]:List Look))) (BSim.seg (Seg.push (Seg.refl zah _) (Seg.lit (f:=zah) (sz:=6) ([(p0.Looks.getD (s1.1).toNat default)]:List Look) rfl rfl (fun _=>rfl)))) .nil)) ?_
     refine At.inb (At.zab ?_)
     obtain ⟨hc8,H⟩:=zaa H
     refine W.r1 env hc8 [1,2,5,6] [2,505] ?_
     refine At.zaA (At.kp [1,2,5,6] [2,505] ?_)
     exact At.conv (.cons .qi (.cons .q (.cons .qb (.cons .qi .nil)))) (.cons .q (.cons .q .nil)) (hK1 ((s1.1+1),(s1.2++([(p0.Looks.getD (s1.1).toNat default)]:List Look))) H)
   · refine W.skip (At.inb (At.zab ?_))
     obtain ⟨hc9,H⟩:=zaa H
     refine W.r1 env hc9 [1,2,5,6] [2,505] ?_
     refine At.zaA (At.kp [1,2,5,6] [2,505] ?_)
     exact At.conv (.cons .qi (.cons .q (.cons .qb (.cons .qi .nil)))) (.cons .q (.cons .q .nil)) (hK1 ((s1.1+1),s1.2) H)
 · refine W.exit (At.xthen (At.xthen (At.xhere (At.zab (W.rg env [4] [505] ?_)))))
   refine W.ret ?_
   cases H
   exact At.ret env.ty rfl rfl (fun q hq=>by cases hq;exact (by first|rfl|(simp;done)|omega|(simp;omega))) (.refl _) hval
theorem zha (fuel:Nat) (p0:Wear) (p1:Int) {r:gasolierref06_Told} (H:zcw fuel p0 p1=some r):Ctr Tryz.prog 102 [.agg (zaf p0),.int .i64 (p1)] (.agg [roL 6 zah r.Looks,.int .i64 (r.Known)]):=by
 unfold zcw at H
 refine Ctr.ob Tryz.func102 Tryz.ntmps102 (fun w0 h0 hval=>?_)
 refine W.rg env [1,2,4] [2,4] ?_
 refine W.seq ?_
 obtain ⟨y1,hy2,H⟩:=zac H
 refine W.region env [] [⟨roL 6 zah y1,[],0,[]⟩] rfl rfl rfl .nil (.free (zgD fuel p0 p1 hy2) .nil) (At.kp [4] [4] ?_)
 refine At.zab (W.ret ?_)
 cases H
 exact At.rz env hval
theorem zez (fuel:Nat) (p0:Wear) (p1:Mantle) (p2:gasolierref06_Told) {r:gasolierref06_Seen} (H:zb0 fuel p0 p1 p2=some r):Ctr Tryz.prog 155 [.agg (zaf p0),.agg [.int .i64 (p1.Source),.int .i64 (p1.Lamp),.int .i64 (p1.Batch),.int .i64 (p1.Night),.int .i64 (p1.Known),.int .i64 (p1.Until)],.agg [roL 6 zah p2.Looks,.int .i64 (p2.Known)]] (.agg [.int .i64 (r.Good),.int .i64 (r.Bad)]):=by
 unfold zb0 at H
 refine Ctr.ob Tryz.func155 Tryz.ntmps155 (fun w0 h0 hval=>?_)
 refine W.rg env [3,4,5,6] [3,4,5,6] ?_
 refine W.rg env [3,4,5,6,7] [3,4,5,6,7] ?_
 refine W.seq (W.rg env [3,4,5,6,7,8] [3,4,5,6,7] ?_)
 refine W.block (At.kp [3,4,5,6,7,8] [3,4,5,6,7] ?_)
 refine W.loopGo H (fun (s1:Int×gasolierref06_Seen)=>[(3,.lp 3 0),(4,.lp 4 0),(5,.lp 5 0),(6,.lp 6 0),(7,.lp 7 0),(8,.int .i64 (s1.1))]) (fun (s1:Int×gasolierref06_Seen)=>[(3,.cells (zaf p0)),(4,.cells [.int .i64 (p1.Source),.int .i64 (p1.Lamp),.int .i64 (p1.Batch),.int .i64 (p1.Night),.int .i64 (p1.Known),.int .i64 (p1.Until)]),(5,.cells [roL 6 zah p2.Looks,.int .i64 (p2.Known)]),(6,.cells [.int .i64 (0),.int .i64 (0)]),(7,.cells [.int .i64 (s1.2.Good),.int .i64 (s1.2.Bad)])]) (.cons .q (.cons .q (.cons .q (.cons .q (.cons .q (.cons .qi .nil)))))) (.cons .q (.cons .q (.cons .q (.cons .q (.cons .q .nil))))) (fun k1 s1 H K0 hK1=>?_)
 refine W.seq (W.rg env [3,4,5,6,7,8,17] [3,4,5,6,7] ?_)
 refine W.co H rfl (fun hb2 H=>?_) (fun hb2 H=>?_)
 · refine W.skip (At.zab (W.seq (W.zhP H (fun (s3:gasolierref06_Seen)=>[(3,.lp 3 0),(4,.lp 4 0),(5,.lp 5 0),(6,.lp 6 0),(7,.lp 7 0),(8,.int .i64 (s1.1))]) (fun (s3:gasolierref06_Seen)=>[(3,.cells (zaf p0)),(4,.cells [.int .i64 (p1.Source),.int .i64 (p1.Lamp),.int .i64 (p1.Batch),.int .i64 (p1.Night),.int .i64 (p1.Known),.int .i64 (p1.Until)]),(5,.cells [roL 6 zah p2.Looks,.int .i64 (p2.Known)]),(6,.cells [.int .i64 (0),.int .i64 (0)]),(7,.cells [.int .i64 (s3.Good),.int .i64 (s3.Bad)])]) (fun s3 H=>?_) (fun k3 H hK3=>?_))))
   · obtain ⟨hc4,H⟩:=zaa H
     refine W.r1 env hc4 [3,4,5,6,7,8] [3,4,5,6,7] ?_
     refine At.zaA (At.kp [3,4,5,6,7,8] [3,4,5,6,7] ?_)
     exact At.conv (.cons .q (.cons .q (.cons .q (.cons .q (.cons .q (.cons .qi .nil)))))) (.cons .q (.cons .q (.cons .q (.cons .q (.cons .q .nil))))) (hK1 ((s1.1+1),s3) H)
   · refine W.block ?_
     obtain ⟨hc5,H⟩:=zaa H
     refine W.sr env [] [] [3,4,5,6,7,8,9] [3,4,5,6,7,9] rfl rfl rfl (.cons hc5 .nil) .nil ?_
     refine W.seq ?_
     obtain ⟨y6,hy7,H⟩:=zac H
     refine W.region env [] [⟨.tup [.agg [.int .i64 (y6.1.Source),.int .i64 (y6.1.Lamp),.int .i64 (y6.1.Batch),.int .i64 (y6.1.Night),.int .i64 (y6.1.Known),.int .i64 (y6.1.Until)],.bool (y6.2)],[],0,[]⟩] rfl rfl rfl .nil (.free (zc4 fuel p0 ((p2.Looks.getD (s1.1).toNat default).Lamp) ((p2.Looks.getD (s1.1).toNat default).Night) p2.Known hy7) .nil) (At.kp [3,4,5,6,7,8,9,10,11] [3,4,5,6,7,9,10] ?_)
     refine At.zab (W.seq (W.sr env [] [] [3,4,5,6,7,8,9,44] [3,4,5,6,7,9] rfl rfl rfl (.cons id (.cons id (.cons id (.cons id (.cons (fun h=>by rw [h];rfl) .nil))))) .nil ?_))
     refine W.co H rfl (fun hb8 H=>?_) (fun hb8 H=>?_)
     · refine W.exit (At.xthen (At.xhere (At.zaA (At.kp [3,4,5,6,7,8] [3,4,5,6,7] ?_))))
       exact At.conv (.cons .q (.cons .q (.cons .q (.cons .q (.cons .q (.cons .qi .nil)))))) (.cons .q (.cons .q (.cons .q (.cons .q (.cons .q .nil))))) (hK3 s1.2 H)
     · refine W.skip (At.zab (W.seq (W.sr env [] [] [3,4,5,6,7,8,9,54] [3,4,5,6,7,9] rfl rfl rfl (.cons id (.cons id (.cons id (.cons id (.cons id .nil))))) .nil ?_)))
       refine W.zhP H (fun (s9:Int)=>[(3,.lp 3 0),(4,.lp 4 0),(5,.lp 5 0),(6,.lp 6 0),(7,.lp 7 0),(8,.int .i64 (s1.1)),(9,.lp 9 0)]) (fun (s9:Int)=>[(3,.cells (zaf p0)),(4,.cells [.int .i64 (p1.Source),.int .i64 (p1.Lamp),.int .i64 (p1.Batch),.int .i64 (p1.Night),.int .i64 (p1.Known),.int .i64 (p1.Until)]),(5,.cells [roL 6 zah p2.Looks,.int .i64 (p2.Known)]),(6,.cells [.int .i64 (0),.int .i64 (0)]),(7,.cells [.int .i64 (s9),.int .i64 (s1.2.Bad)]),(9,.cells [.int .i64 ((p2.Looks.getD (s1.1).toNat default).Source),.int .i64 ((p2.Looks.getD (s1.1).toNat default).Lamp),.int .i64 ((p2.Looks.getD (s1.1).toNat default).Night),.bool ((p2.Looks.getD (s1.1).toNat default).Bad),.int .i64 ((p2.Looks.getD (s1.1).toNat default).Known),.int .i64 ((p2.Looks.getD (s1.1).toNat default).Until)])]) (fun s9 H=>?_) (fun k9 H hK9=>?_)
       · refine W.sr env [] [] [3,4,5,6,7,8,9,71] [3,4,5,6,7,9] rfl rfl rfl (.cons id (.cons id (.cons id (.cons id (.cons id (.cons id (.cons id (.cons id (.cons (fun hW h=>by revert hW h;first|(simp +contextual;done)|grind) (.cons id .nil)))))))))) .nil ?_
         refine W.co H rfl (fun hb10 H=>?_) (fun hb10 H=>?_)
         · refine W.region env [] [] rfl rfl rfl .nil .nil (At.kp [3,4,5,6,7,8] [3,4,5,6,7] ?_)
           refine At.inb (At.zaA (At.kp [3,4,5,6,7,8] [3,4,5,6,7] ?_))
           exact At.conv (.cons .q (.cons .q (.cons .q (.cons .q (.cons .q (.cons .qi .nil)))))) (.cons .q (.cons .q (.cons .q (.cons .q (.cons .q .nil))))) (hK3 (⟨s9,(p2.Looks.getD (s1.1).toNat default).Night⟩:gasolierref06_Seen) H)
         · refine W.skip (At.inb (At.zaA (At.kp [3,4,5,6,7,8] [3,4,5,6,7] ?_)))
           exact At.conv (.cons .q (.cons .q (.cons .q (.cons .q (.cons .q (.cons .qi .nil)))))) (.cons .q (.cons .q (.cons .q (.cons .q (.cons .q .nil))))) (hK3 (⟨s9,s1.2.Bad⟩:gasolierref06_Seen) H)
       · refine W.co H rfl (fun hb11 H=>?_) (fun hb11 H=>?_)
         · refine W.region env [] [] rfl rfl rfl .nil .nil (At.kp [3,4,5,6,7,8,9] [3,4,5,6,7,9] ?_)
           refine At.zaA (At.kp [3,4,5,6,7,8,9] [3,4,5,6,7,9] ?_)
           exact At.conv (.cons .q (.cons .q (.cons .q (.cons .q (.cons .q (.cons .qi (.cons .q .nil))))))) (.cons .q (.cons .q (.cons .q (.cons .q (.cons .q (.cons .q .nil)))))) (hK9 (p2.Looks.getD (s1.1).toNat default).Night H)
         · refine W.skip (At.zaA (At.kp [3,4,5,6,7,8,9] [3,4,5,6,7,9] ?_))
           exact At.conv (.cons .q (.cons .q (.cons .q (.cons .q (.cons .q (.cons .qi (.cons .q .nil))))))) (.cons .q (.cons .q (.cons .q (.cons .q (.cons .q (.cons .q .nil)))))) (hK9 s1.2.Good H)
 · refine W.exit (At.xthen (At.xthen (At.xhere (At.zab (W.rg env [6] [6] ?_)))))
   refine W.ret ?_
   cases H
   exact At.rz env hval
theorem zfO (fuel:Nat) (p0:Wear) (p1:Int) {r:(List Bool)} (H:zbV fuel p0 p1=some r):Ctr Tryz.prog 144 [.agg (zaf p0),.int .i64 (p1)] (roL 1 zeD r):=by
 unfold zbV at H
 refine Ctr.ob Tryz.func144 Tryz.ntmps144 (fun w0 h0 hval=>?_)
 refine W.rg env [1,2] [2] ?_
 refine W.rg env [1,2,5] [2] ?_
 refine W.seq (W.rg env [1,2,5,6] [2] ?_)
 refine W.block (At.zev 5 505 4 1 (e:=fun i=>zeD (([]:List Bool).getD i default)) rfl rfl ?_)
 refine At.kp [1,2,5,6] [2,505] ?_
 refine W.loopGo H (fun (s1:Int×(List Bool))=>[(1,.int .i64 (p1)),(2,.lp 2 0),(5,.buf 505 (s1.2).length),(6,.int .i64 (s1.1))]) (fun (s1:Int×(List Bool))=>[(2,.cells (zaf p0)),(505,bufL 4 1 zeD s1.2)]) (.cons .qi (.cons .q (.cons .qb (.cons .qi .nil)))) (.cons .q (.cons .q .nil)) (fun k1 s1 H K0 hK1=>?_)
 refine W.seq (W.rg env [1,2,5,6,16] [2,505] ?_)
 refine W.co H rfl (fun hb2 H=>?_) (fun hb2 H=>?_)
 · refine W.skip (At.zab (W.seq (W.block ?_)))
   obtain ⟨hc3,H⟩:=zaa H
   refine W.sr env [] [] [1,2,5,6,7] [2,7,505] rfl rfl rfl (.cons hc3 .nil) .nil ?_
   refine W.seq ?_
   obtain ⟨y4,hy5,H⟩:=zac H
   refine W.region env [] [⟨.tup [.agg [.int .i64 (y4.1.Source),.int .i64 (y4.1.Lamp),.int .i64 (y4.1.Batch),.int .i64 (y4.1.Night),.int .i64 (y4.1.Known),.int .i64 (y4.1.Until)],.bool (y4.2)],[],0,[]⟩] rfl rfl rfl .nil (.free (zc4 fuel p0 ((p0.Burns.getD (s1.1).toNat default).Lamp) ((p0.Burns.getD (s1.1).toNat default).Night) p1 hy5) .nil) (At.kp [1,2,5,6,7,9] [2,7,505] ?_)
   refine At.zab (W.sr env [] [⟨.bool ((zaw ((p0.Burns.getD (s1.1).toNat default).Known) ((p0.Burns.getD (s1.1).toNat default).Until) p1)),[],0,[]⟩] [1,2,5,6,7,9] [2,7,505] rfl rfl rfl (.cons id (.cons id (.cons id (.cons id (.cons id (.cons id .nil)))))) (.on (fun hW=>zbG ((p0.Burns.getD (s1.1).toNat default).Known) ((p0.Burns.getD (s1.1).toNat default).Until) p1) .nil) ?_)
   refine W.seq ?_
   obtain ⟨hc6,H⟩:=zaa H
   refine W.sr env [] [] [1,2,5,6,7,9,10] [2,7,505] rfl rfl rfl (.cons hc6 .nil) .nil ?_
   refine W.block (At.kp [1,2,5,6,7,9,10] [2,7,505] ?_)
   refine W.loopGo H (fun (s7:Int×Bool)=>[(1,.int .i64 (p1)),(2,.lp 2 0),(5,.buf 505 (s1.2).length),(6,.int .i64 (s1.1)),(7,.lp 7 0),(9,.bool (s7.2)),(10,.int .i64 (s7.1))]) (fun (s7:Int×Bool)=>[(2,.cells (zaf p0)),(7,.cells [.int .i64 ((p0.Burns.getD (s1.1).toNat default).Source),.int .i64 ((p0.Burns.getD (s1.1).toNat default).Lamp),.int .i64 ((p0.Burns.getD (s1.1).toNat default).Night),.int .i64 ((p0.Burns.getD (s1.1).toNat default).Minutes.Lo),.int .i64 ((p0.Burns.getD (s1.1).toNat default).Minutes.Hi),.int .i64 ((p0.Burns.getD (s1.1).toNat default).Known),.int .i64 ((p0.Burns.getD (s1.1).toNat default).Until)]),(505,bufL 4 1 zeD s1.2)]) (.cons .qi (.cons .q (.cons .qb (.cons .qi (.cons .q (.cons .q (.cons .qi .nil))))))) (.cons .q (.cons .q (.cons .q .nil))) (fun k7 s7 H K0 hK7=>?_)
   refine W.seq (W.rg env [1,2,5,6,7,9,10,49] [2,7,505] ?_)
   refine W.co H rfl (fun hb8 H=>?_) (fun hb8 H=>?_)
   · refine W.skip (At.zab (W.seq (W.block ?_)))
     obtain ⟨hc9,H⟩:=zaa H
     refine W.sr env [] [] [1,2,5,6,7,9,10,11] [2,7,11,505] rfl rfl rfl (.cons hc9 .nil) .nil ?_
     refine W.region env [] [⟨.bool ((zaw ((p0.Burns.getD (s7.1).toNat default).Known) ((p0.Burns.getD (s7.1).toNat default).Until) p1)),[],0,[]⟩] rfl rfl rfl (.cons id (.cons id (.cons id (.cons id (.cons id (.cons id (.cons id (.cons id (.cons id (.cons id (.cons (fun hW h=>by revert hW h;first|(simp +contextual;done)|grind) (.cons id (.cons id (.cons id (.cons id (.cons id (.cons id (.cons id (.cons id (.cons (fun hW h=>by revert hW h;first|(simp +contextual;done)|grind) (.cons id .nil))))))))))))))))))))) (.on (fun hW=>zbG ((p0.Burns.getD (s7.1).toNat default).Known) ((p0.Burns.getD (s7.1).toNat default).Until) p1) .nil) (At.kp [1,2,5,6,7,9,10] [2,7,505] ?_)
     refine At.inb (At.zab ?_)
     obtain ⟨hc10,H⟩:=zaa H
     refine W.r1 env hc10 [1,2,5,6,7,9,10] [2,7,505] ?_
     refine At.zaA (At.kp [1,2,5,6,7,9,10] [2,7,505] ?_)
     exact At.conv (.cons .qi (.cons .q (.cons .qb (.cons .qi (.cons .q (.cons .q (.cons .qi .nil))))))) (.cons .q (.cons .q (.cons .q .nil))) (hK7 ((s7.1+1),(s7.2 && (((!decide ((p0.Burns.getD (s7.1).toNat default).Lamp=(p0.Burns.getD (s1.1).toNat default).Lamp)) || (!decide ((p0.Burns.getD (s7.1).toNat default).Night=(p0.Burns.getD (s1.1).toNat default).Night))) || (!(zaw ((p0.Burns.getD (s7.1).toNat default).Known) ((p0.Burns.getD (s7.1).toNat default).Until) p1))))) H)
   · refine W.exit (At.xthen (At.xthen (At.xhere (At.zab ?_))))
     obtain ⟨hc11,H⟩:=zaa H
     refine W.region env [] [] rfl rfl rfl (.cons (rmI hc11) .nil) .nil (At.kp [1,2,5,6] [2,505] ?_)
     refine At.za8 (.cons (.refl _) (.cons (y:=bufL 4 1 zeD (s1.2++([s7.2]:List Bool))) (BSim.seg (Seg.push (Seg.refl zeD _) (Seg.lit (f:=zeD) (sz:=1) ([s7.2]:List Bool) rfl rfl (fun _=>rfl)))) .nil)) ?_
     refine At.inb (At.zab ?_)
     obtain ⟨hc12,H⟩:=zaa H
     refine W.r1 env hc12 [1,2,5,6] [2,505] ?_
     refine At.zaA (At.kp [1,2,5,6] [2,505] ?_)
     exact At.conv (.cons .qi (.cons .q (.cons .qb (.cons .qi .nil)))) (.cons .q (.cons .q .nil)) (hK1 ((s1.1+1),(s1.2++([s7.2]:List Bool))) H)
 · refine W.exit (At.xthen (At.xthen (At.xhere (At.zab (W.rg env [4] [505] ?_)))))
   refine W.ret ?_
   cases H
   exact At.ret env.ty rfl rfl (fun q hq=>by cases hq;exact (by first|rfl|(simp;done)|omega|(simp;omega))) (.refl _) hval
theorem zcj (fuel:Nat) (p0:Wear) (p1:Mantle) (p2:(Arr2 Int)) {r:Range} (H:zaV fuel p0 p1 p2=some r):Ctr Tryz.prog 101 [.agg (zaf p0),.agg [.int .i64 (p1.Source),.int .i64 (p1.Lamp),.int .i64 (p1.Batch),.int .i64 (p1.Night),.int .i64 (p1.Known),.int .i64 (p1.Until)],.agg [.int .i64 (p2.x0),.int .i64 (p2.x1)]] (.agg [.int .i64 (r.Lo),.int .i64 (r.Hi)]):=by
 unfold zaV at H
 refine Ctr.ob Tryz.func101 Tryz.ntmps101 (fun w0 h0 hval=>?_)
 refine W.rg env [3,4,5,6] [3,4,5,6] ?_
 refine W.seq ?_
 obtain ⟨y1,hy2,H⟩:=zac H
 refine W.region env [] [⟨roL 1 zeD y1,[],0,[]⟩] rfl rfl rfl (.cons (by decide) .nil) (.free (zfO fuel p0 p2.x1 hy2) .nil) (At.kp [3,4,5,6,7] [3,4,5,6] ?_)
 refine At.zab (W.rg env [3,4,5,6,7,8] [3,4,5,6,8] ?_)
 refine W.seq (W.rg env [3,4,5,6,7,8,9] [3,4,5,6,8] ?_)
 refine W.block (At.kp [3,4,5,6,7,8,9] [3,4,5,6,8] ?_)
 refine W.loopGo H (fun (s3:Int×Range)=>[(3,.lp 3 0),(4,.lp 4 0),(5,.lp 5 0),(6,.lp 6 0),(7,roL 1 zeD y1),(8,.lp 8 0),(9,.int .i64 (s3.1))]) (fun (s3:Int×Range)=>[(3,.cells (zaf p0)),(4,.cells [.int .i64 (p1.Source),.int .i64 (p1.Lamp),.int .i64 (p1.Batch),.int .i64 (p1.Night),.int .i64 (p1.Known),.int .i64 (p1.Until)]),(5,.cells [.int .i64 (p2.x0),.int .i64 (p2.x1)]),(6,.cells [.int .i64 (0),.int .i64 (0)]),(8,.cells [.int .i64 (s3.2.Lo),.int .i64 (s3.2.Hi)])]) (.cons .q (.cons .q (.cons .q (.cons .q (.cons .q (.cons .q (.cons .qi .nil))))))) (.cons .q (.cons .q (.cons .q (.cons .q (.cons .q .nil))))) (fun k3 s3 H K0 hK3=>?_)
 refine W.seq (W.rg env [3,4,5,6,7,8,9,19] [3,4,5,6,8] ?_)
 refine W.co H rfl (fun hb4 H=>?_) (fun hb4 H=>?_)
 · refine W.skip (At.zab (W.seq (W.block ?_)))
   obtain ⟨hc5,H⟩:=zaa H
   refine W.sr env [] [] [3,4,5,6,7,8,9,10] [3,4,5,6,8,10] rfl rfl rfl (.cons hc5 .nil) .nil ?_
   obtain ⟨hc6,H⟩:=zaa H
   refine W.sr env [] [⟨.bool ((zai ((p0.Burns.getD (s3.1).toNat default).Night) p1.Night p2.x0)),[],0,[]⟩] [3,4,5,6,7,8,9,10,46] [3,4,5,6,8,10] rfl rfl rfl (.cons hc6 (.cons id (.cons id (.cons id (.cons id (.cons id (.cons id (.cons id (.cons (fun _=>by decide) (.cons id (.cons id (.cons id (.cons id (.cons id .nil)))))))))))))) (.on (fun hW=>za2 ((p0.Burns.getD (s3.1).toNat default).Night) p1.Night p2.x0) .nil) ?_
   refine W.co H rfl (fun hb7 H=>?_) (fun hb7 H=>?_)
   · obtain ⟨hc8,H⟩:=zaa H
     obtain ⟨hc9,H⟩:=zaa H
     refine W.region env [] [] rfl rfl rfl (.cons hc8 (.cons hc9 .nil)) .nil (At.kp [3,4,5,6,7,8,9] [3,4,5,6,8] ?_)
     refine At.inb (At.zab ?_)
     obtain ⟨hc10,H⟩:=zaa H
     refine W.r1 env hc10 [3,4,5,6,7,8,9] [3,4,5,6,8] ?_
     refine At.zaA (At.kp [3,4,5,6,7,8,9] [3,4,5,6,8] ?_)
     exact At.conv (.cons .q (.cons .q (.cons .q (.cons .q (.cons .q (.cons .q (.cons .qi .nil))))))) (.cons .q (.cons .q (.cons .q (.cons .q (.cons .q .nil))))) (hK3 ((s3.1+1),(⟨(s3.2.Lo+(p0.Burns.getD (s3.1).toNat default).Minutes.Lo),(s3.2.Hi+(p0.Burns.getD (s3.1).toNat default).Minutes.Hi)⟩:Range)) H)
   · refine W.skip (At.inb (At.zab ?_))
     obtain ⟨hc11,H⟩:=zaa H
     refine W.r1 env hc11 [3,4,5,6,7,8,9] [3,4,5,6,8] ?_
     refine At.zaA (At.kp [3,4,5,6,7,8,9] [3,4,5,6,8] ?_)
     exact At.conv (.cons .q (.cons .q (.cons .q (.cons .q (.cons .q (.cons .q (.cons .qi .nil))))))) (.cons .q (.cons .q (.cons .q (.cons .q (.cons .q .nil))))) (hK3 ((s3.1+1),s3.2) H)
 · refine W.exit (At.xthen (At.xthen (At.xhere (At.zab (W.rg env [6] [6] ?_)))))
   refine W.ret ?_
   cases H
   exact At.rz env hval
theorem zgE (fuel:Nat) (p0:Wear) (p1:Mantle) (p2:gasolierref06_Told) {r:Range} (H:zcf fuel p0 p1 p2=some r):Ctr Tryz.prog 156 [.agg (zaf p0),.agg [.int .i64 (p1.Source),.int .i64 (p1.Lamp),.int .i64 (p1.Batch),.int .i64 (p1.Night),.int .i64 (p1.Known),.int .i64 (p1.Until)],.agg [roL 6 zah p2.Looks,.int .i64 (p2.Known)]] (.agg [.int .i64 (r.Lo),.int .i64 (r.Hi)]):=by
 unfold zcf at H
 refine Ctr.ob Tryz.func156 Tryz.ntmps156 (fun w0 h0 hval=>?_)
 refine W.rg env [3,4,5,6] [3,4,5,6] ?_
 refine W.seq ?_
 obtain ⟨y1,hy2,H⟩:=zac H
 refine W.region env [] [⟨.agg [.int .i64 (y1.Good),.int .i64 (y1.Bad)],[],0,[]⟩] rfl rfl rfl .nil (.free (zez fuel p0 p1 p2 hy2) .nil) (At.kp [3,4,5,6,7] [3,4,5,6,7] ?_)
 refine At.zab (W.rg env [3,4,5,6,7,8] [3,4,5,6,7,8] ?_)
 refine W.rg env [3,4,5,6,7,8,9] [3,4,5,6,7,8,9] ?_
 refine W.seq (W.rg env [3,4,5,6,7,8,9,18] [3,4,5,6,7,8,9] ?_)
 refine W.zhP H (fun (s3:Int×Range)=>[(3,.lp 3 0),(4,.lp 4 0),(5,.lp 5 0),(6,.lp 6 0),(7,.lp 7 0),(8,.lp 8 0),(9,.lp 9 0)]) (fun (s3:Int×Range)=>[(3,.cells (zaf p0)),(4,.cells [.int .i64 (p1.Source),.int .i64 (p1.Lamp),.int .i64 (p1.Batch),.int .i64 (p1.Night),.int .i64 (p1.Known),.int .i64 (p1.Until)]),(5,.cells [roL 6 zah p2.Looks,.int .i64 (p2.Known)]),(6,.cells [.int .i64 (0),.int .i64 (0)]),(7,.cells [.int .i64 (y1.Good),.int .i64 (y1.Bad)]),(8,.cells [.int .i64 (s3.1),.int .i64 (1000000)]),(9,.cells [.int .i64 (s3.2.Lo),.int .i64 (s3.2.Hi)])]) (fun s3 H=>?_) (fun k3 H hK3=>?_)
 · refine W.seq (W.rg env [3,4,5,6,7,8,9,32] [3,4,5,6,7,8,9] ?_)
   refine W.zhP H (fun (s4:Int)=>[(6,.lp 6 0),(8,.lp 8 0)]) (fun (s4:Int)=>[(6,.cells [.int .i64 (0),.int .i64 (0)]),(8,.cells [.int .i64 (s3.1),.int .i64 (s4)])]) (fun s4 H=>?_) (fun k4 H hK4=>?_)
   · refine W.rg env [6] [6] ?_
     refine W.ret ?_
     cases H
     exact At.rz env hval
   · refine W.co H rfl (fun hb5 H=>?_) (fun hb5 H=>?_)
     · refine W.seq ?_
       obtain ⟨y6,hy7,H⟩:=zac H
       refine W.region env [] [⟨.agg [.int .i64 (y6.Lo),.int .i64 (y6.Hi)],[],0,[]⟩] rfl rfl rfl .nil (.free (zcj fuel p0 p1 (⟨y1.Bad,p2.Known⟩:(Arr2 Int)) hy7) .nil) (At.kp [6,7,8,9,10] [6,7,8,9,10] ?_)
       refine At.zab ?_
       obtain ⟨hc8,H⟩:=zaa H
       refine W.sr env [] [] [6,7,8,9,10] [6,7,8,9,10] rfl rfl rfl (.cons hc8 .nil) .nil ?_
       refine W.sr env [] [] [6,8,56] [6,8] rfl rfl rfl (.cons id (.cons id (.cons id (.cons id (.cons (fun h=>by rw [h];rfl) .nil))))) .nil ?_
       refine W.co H rfl (fun hb9 H=>?_) (fun hb9 H=>?_)
       · refine W.rg env [6] [6] ?_
         refine W.ret (At.rthen ?_)
         cases H
         exact At.rz env hval
       · refine W.skip (At.zaA (At.kp [6,8] [6,8] ?_))
         exact At.conv (.cons .q (.cons .q .nil)) (.cons .q (.cons .q .nil)) (hK4 (y6.Hi - 1) H)
     · refine W.skip (At.zaA (At.kp [6,8] [6,8] ?_))
       exact At.conv (.cons .q (.cons .q .nil)) (.cons .q (.cons .q .nil)) (hK4 1000000 H)
 · refine W.co H rfl (fun hb10 H=>?_) (fun hb10 H=>?_)
   · refine W.seq ?_
     obtain ⟨y11,hy12,H⟩:=zac H
     refine W.region env [] [⟨.agg [.int .i64 (y11.Lo),.int .i64 (y11.Hi)],[],0,[]⟩] rfl rfl rfl .nil (.free (zcj fuel p0 p1 (⟨y1.Good,p2.Known⟩:(Arr2 Int)) hy12) .nil) (At.kp [3,4,5,6,7,8,9] [3,4,5,6,7,8,9] ?_)
     refine At.zab (W.region env [] [] rfl rfl rfl .nil .nil (At.kp [3,4,5,6,7,8,9] [3,4,5,6,7,8,9] ?_))
     refine At.zaA (At.kp [3,4,5,6,7,8,9] [3,4,5,6,7,8,9] ?_)
     exact At.conv (.cons .q (.cons .q (.cons .q (.cons .q (.cons .q (.cons .q (.cons .q .nil))))))) (.cons .q (.cons .q (.cons .q (.cons .q (.cons .q (.cons .q (.cons .q .nil))))))) (hK3 (y11.Lo,y11) H)
   · refine W.skip (At.zaA (At.kp [3,4,5,6,7,8,9] [3,4,5,6,7,8,9] ?_))
     exact At.conv (.cons .q (.cons .q (.cons .q (.cons .q (.cons .q (.cons .q (.cons .q .nil))))))) (.cons .q (.cons .q (.cons .q (.cons .q (.cons .q (.cons .q (.cons .q .nil))))))) (hK3 (0,(⟨0,0⟩:Range)) H)
theorem zeA (fuel:Nat) (p0:Wear) (p1:Batch) (p2:gasolierref06_Told) {r:Range} (H:zb1 fuel p0 p1 p2=some r):Ctr Tryz.prog 107 [.agg (zaf p0),.agg [.int .i64 (p1.Id),.int .i64 (p1.Life.Lo),.int .i64 (p1.Life.Hi)],.agg [roL 6 zah p2.Looks,.int .i64 (p2.Known)]] (.agg [.int .i64 (r.Lo),.int .i64 (r.Hi)]):=by
 unfold zb1 at H
 refine Ctr.ob Tryz.func107 Tryz.ntmps107 (fun w0 h0 hval=>?_)
 refine W.rg env [3,4,5,6] [3,4,5,6] ?_
 refine W.rg env [3,4,5,6,7] [3,4,5,6,7] ?_
 refine W.seq (W.rg env [3,4,5,6,7,8] [3,4,5,6,7] ?_)
 refine W.block (At.kp [3,4,5,6,7,8] [3,4,5,6,7] ?_)
 refine W.loopGo H (fun (s1:Int×Range)=>[(3,.lp 3 0),(4,.lp 4 0),(5,.lp 5 0),(6,.lp 6 0),(7,.lp 7 0),(8,.int .i64 (s1.1))]) (fun (s1:Int×Range)=>[(3,.cells (zaf p0)),(4,.cells [.int .i64 (p1.Id),.int .i64 (p1.Life.Lo),.int .i64 (p1.Life.Hi)]),(5,.cells [roL 6 zah p2.Looks,.int .i64 (p2.Known)]),(6,.cells [.int .i64 (0),.int .i64 (0)]),(7,.cells [.int .i64 (s1.2.Lo),.int .i64 (s1.2.Hi)])]) (.cons .q (.cons .q (.cons .q (.cons .q (.cons .q (.cons .qi .nil)))))) (.cons .q (.cons .q (.cons .q (.cons .q (.cons .q .nil))))) (fun k1 s1 H K0 hK1=>?_)
 refine W.seq (W.rg env [3,4,5,6,7,8,17] [3,4,5,6,7] ?_)
 refine W.co H rfl (fun hb2 H=>?_) (fun hb2 H=>?_)
 · refine W.skip (At.zab (W.seq (W.block ?_)))
   obtain ⟨hc3,H⟩:=zaa H
   refine W.sr env [] [] [3,4,5,6,7,8,9] [3,4,5,6,7,9] rfl rfl rfl (.cons hc3 .nil) .nil ?_
   refine W.sr env [] [⟨.bool ((zaw ((p0.Mantles.getD (s1.1).toNat default).Known) ((p0.Mantles.getD (s1.1).toNat default).Until) p2.Known)),[],0,[]⟩] [3,4,5,6,7,8,9,38] [3,4,5,6,7,9] rfl rfl rfl (.cons id (.cons id (.cons id (.cons id (.cons id (.cons id (.cons id .nil))))))) (.on (fun hW=>zbG ((p0.Mantles.getD (s1.1).toNat default).Known) ((p0.Mantles.getD (s1.1).toNat default).Until) p2.Known) .nil) ?_
   refine W.co H rfl (fun hb4 H=>?_) (fun hb4 H=>?_)
   · refine W.seq ?_
     obtain ⟨y5,hy6,H⟩:=zac H
     refine W.region env [] [⟨.agg [.int .i64 (y5.Lo),.int .i64 (y5.Hi)],[],0,[]⟩] rfl rfl rfl .nil (.free (zgE fuel p0 (p0.Mantles.getD (s1.1).toNat default) p2 hy6) .nil) (At.kp [3,4,5,6,7,8,10] [3,4,5,6,7,10] ?_)
     refine At.zab (W.rg env [3,4,5,6,7,8,10] [3,4,5,6,7,10] ?_)
     refine W.rg env [3,4,5,6,7,8,10,58] [3,4,5,6,7,10] ?_
     refine W.co H rfl (fun hb7 H=>?_) (fun hb7 H=>?_)
     · refine W.rg env [6] [6] ?_
       refine W.ret (At.rinb ?_)
       refine At.rthen ?_
       refine At.rthen ?_
       refine At.rinb ?_
       refine At.rthen ?_
       cases H
       exact At.rz env hval
     · refine W.skip (At.inb (At.zab ?_))
       obtain ⟨hc8,H⟩:=zaa H
       refine W.r1 env hc8 [3,4,5,6,7,8] [3,4,5,6,7] ?_
       refine At.zaA (At.kp [3,4,5,6,7,8] [3,4,5,6,7] ?_)
       exact At.conv (.cons .q (.cons .q (.cons .q (.cons .q (.cons .q (.cons .qi .nil)))))) (.cons .q (.cons .q (.cons .q (.cons .q (.cons .q .nil))))) (hK1 ((s1.1+1),(⟨(max s1.2.Lo y5.Lo),(min s1.2.Hi y5.Hi)⟩:Range)) H)
   · refine W.skip (At.inb (At.zab ?_))
     obtain ⟨hc9,H⟩:=zaa H
     refine W.r1 env hc9 [3,4,5,6,7,8] [3,4,5,6,7] ?_
     refine At.zaA (At.kp [3,4,5,6,7,8] [3,4,5,6,7] ?_)
     exact At.conv (.cons .q (.cons .q (.cons .q (.cons .q (.cons .q (.cons .qi .nil)))))) (.cons .q (.cons .q (.cons .q (.cons .q (.cons .q .nil))))) (hK1 ((s1.1+1),s1.2) H)
 · refine W.exit (At.xthen (At.xthen (At.xhere (At.zab (W.rg env [6] [6] ?_)))))
   refine W.ret ?_
   cases H
   exact At.rz env hval
theorem zgC (fuel:Nat) (p0:Wear) (p1:gasolierref06_Told) {r:Bool} (H:zcd fuel p0 p1=some r):Ctr Tryz.prog 103 [.agg (zaf p0),.agg [roL 6 zah p1.Looks,.int .i64 (p1.Known)]] (.bool (r)):=by
 unfold zcd at H
 refine Ctr.ob Tryz.func103 Tryz.ntmps103 (fun w0 h0 hval=>?_)
 refine W.rg env [2,3] [2,3] ?_
 refine W.seq (W.rg env [2,3,5] [2,3] ?_)
 refine W.block (At.kp [2,3,5] [2,3] ?_)
 refine W.loopGo H (fun (s1:Int)=>[(2,.lp 2 0),(3,.lp 3 0),(5,.int .i64 (s1))]) (fun (s1:Int)=>[(2,.cells (zaf p0)),(3,.cells [roL 6 zah p1.Looks,.int .i64 (p1.Known)])]) (.cons .q (.cons .q (.cons .qi .nil))) (.cons .q (.cons .q .nil)) (fun k1 s1 H K0 hK1=>?_)
 refine W.seq (W.rg env [2,3,5,11] [2,3] ?_)
 refine W.co H rfl (fun hb2 H=>?_) (fun hb2 H=>?_)
 · refine W.skip (At.zab (W.seq (W.block (W.seq ?_))))
   obtain ⟨hc3,H⟩:=zaa H
   obtain ⟨y4,hy5,H⟩:=zac H
   refine W.region env [] [⟨.agg [.int .i64 (y4.Lo),.int .i64 (y4.Hi)],[],0,[]⟩] rfl rfl (by kernel_rfl) (.cons hc3 .nil) (.free (zeA fuel p0 (p0.Batches.getD (s1).toNat default) p1 hy5) .nil) (At.kp [2,3,5,6] [2,3,6] ?_)
   refine At.zab (W.rg env [2,3,5,26] [2,3] ?_)
   refine W.co H rfl (fun hb6 H=>?_) (fun hb6 H=>?_)
   · refine W.rg env [4] [] ?_
     refine W.ret (At.rinb ?_)
     refine At.rthen ?_
     refine At.rthen ?_
     refine At.rinb ?_
     refine At.rthen ?_
     cases H
     exact At.rz env hval
   · refine W.skip (At.inb (At.zab ?_))
     obtain ⟨hc7,H⟩:=zaa H
     refine W.r1 env hc7 [2,3,5] [2,3] ?_
     refine At.zaA (At.kp [2,3,5] [2,3] ?_)
     exact At.conv (.cons .q (.cons .q (.cons .qi .nil))) (.cons .q (.cons .q .nil)) (hK1 (s1+1) H)
 · refine W.exit (At.xthen (At.xthen (At.xhere (At.zab (W.rg env [4] [] ?_)))))
   refine W.ret ?_
   cases H
   exact At.rz env hval
theorem zfM (fuel:Nat) (p0:Wear) (p1:Int) {r:(Batch×Bool)} (H:zbT fuel p0 p1=some r):Ctr Tryz.prog 106 [.agg (zaf p0),.int .i64 (p1)] (.tup [.agg [.int .i64 (r.1.Id),.int .i64 (r.1.Life.Lo),.int .i64 (r.1.Life.Hi)],.bool (r.2)]):=by
 unfold zbT at H
 refine Ctr.ob Tryz.func106 Tryz.ntmps106 (fun w0 h0 hval=>?_)
 refine W.rg env [1,2,4] [2,4] ?_
 refine W.seq (W.rg env [1,2,4,6] [2,4] ?_)
 refine W.block (At.kp [1,2,4,6] [2,4] ?_)
 refine W.loopGo H (fun (s1:Int)=>[(1,.int .i64 (p1)),(2,.lp 2 0),(4,.lp 4 0),(6,.int .i64 (s1))]) (fun (s1:Int)=>[(2,.cells (zaf p0)),(4,.cells [.int .i64 (0),.int .i64 (0),.int .i64 (0)])]) (.cons .qi (.cons .q (.cons .q (.cons .qi .nil)))) (.cons .q (.cons .q .nil)) (fun k1 s1 H K0 hK1=>?_)
 refine W.seq (W.rg env [1,2,4,6,11] [2,4] ?_)
 refine W.co H rfl (fun hb2 H=>?_) (fun hb2 H=>?_)
 · refine W.skip (At.zab (W.seq (W.block ?_)))
   obtain ⟨hc3,H⟩:=zaa H
   refine W.sr env [] [] [1,2,4,6,21] [2,4] rfl rfl rfl (.cons hc3 .nil) .nil ?_
   refine W.co H rfl (fun hb4 H=>?_) (fun hb4 H=>?_)
   · obtain ⟨hc5,H⟩:=zaa H
     refine W.sr env [] [] [4,5] [4] rfl rfl rfl (.cons hc5 .nil) .nil ?_
     refine W.ret (At.rinb ?_)
     refine At.rthen ?_
     refine At.rthen ?_
     refine At.rinb ?_
     refine At.rthen ?_
     cases H
     exact At.rz env hval
   · refine W.skip (At.inb (At.zab ?_))
     obtain ⟨hc6,H⟩:=zaa H
     refine W.r1 env hc6 [1,2,4,6] [2,4] ?_
     refine At.zaA (At.kp [1,2,4,6] [2,4] ?_)
     exact At.conv (.cons .qi (.cons .q (.cons .q (.cons .qi .nil)))) (.cons .q (.cons .q .nil)) (hK1 (s1+1) H)
 · refine W.exit (At.xthen (At.xthen (At.xhere (At.zab (W.rg env [4,5] [4] ?_)))))
   refine W.ret ?_
   cases H
   exact At.rz env hval
theorem zgB (fuel:Nat) (p0:Wear) (p1:Mantle) (p2:Int) (p3:gasolierref06_Told) {r:Int} (H:zcc fuel p0 p1 p2 p3=some r):Ctr Tryz.prog 104 [.agg (zaf p0),.agg [.int .i64 (p1.Source),.int .i64 (p1.Lamp),.int .i64 (p1.Batch),.int .i64 (p1.Night),.int .i64 (p1.Known),.int .i64 (p1.Until)],.int .i64 (p2),.agg [roL 6 zah p3.Looks,.int .i64 (p3.Known)]] (.int .i64 (r)):=by
 unfold zcc at H
 refine Ctr.ob Tryz.func104 Tryz.ntmps104 (fun w0 h0 hval=>?_)
 refine W.rg env [2,4,5,7] [4,5,7] ?_
 refine W.seq ?_
 obtain ⟨y1,hy2,H⟩:=zac H
 refine W.region env [] [⟨.agg [.int .i64 (y1.Good),.int .i64 (y1.Bad)],[],0,[]⟩] rfl rfl rfl .nil (.free (zez fuel p0 p1 p3 hy2) .nil) (At.kp [2,4,5,7,9] [4,5,7,9] ?_)
 refine At.zab (W.seq (W.rg env [2,4,5,7,9,23] [4,5,7,9] ?_))
 refine W.co H rfl (fun hb3 H=>?_) (fun hb3 H=>?_)
 · refine W.rg env [8] [] ?_
   refine W.ret (At.rthen ?_)
   cases H
   exact At.rz env hval
 · refine W.skip (At.zab (W.seq (W.sr env [] [] [2,4,5,7,9,32] [4,5,7,9] rfl rfl rfl (.cons id (.cons id (.cons id (.cons id .nil)))) .nil ?_)))
   refine W.co H rfl (fun hb4 H=>?_) (fun hb4 H=>?_)
   · refine W.rg env [8] [] ?_
     refine W.ret (At.rthen ?_)
     cases H
     exact At.rz env hval
   · refine W.skip (At.zab (W.seq ?_))
     obtain ⟨y5,hy6,H⟩:=zac H
     refine W.region env [] [⟨.tup [.agg [.int .i64 (y5.1.Id),.int .i64 (y5.1.Life.Lo),.int .i64 (y5.1.Life.Hi)],.bool (y5.2)],[],0,[]⟩] rfl rfl rfl .nil (.free (zfM fuel p0 p1.Batch hy6) .nil) (At.kp [2,4,5,7,9,10] [4,5,7,9,10] ?_)
     refine At.zab (W.seq ?_)
     obtain ⟨y7,hy8,H⟩:=zac H
     refine W.region env [] [⟨.agg [.int .i64 (y7.Lo),.int .i64 (y7.Hi)],[],0,[]⟩] rfl rfl rfl .nil (.free (zeA fuel p0 y5.1 p3 hy8) .nil) (At.kp [2,4,5,7,9,12] [4,5,7,9,12] ?_)
     refine At.zab (W.seq ?_)
     obtain ⟨y9,hy10,H⟩:=zac H
     refine W.region env [] [⟨.agg [.int .i64 (y9.Lo),.int .i64 (y9.Hi)],[],0,[]⟩] rfl rfl rfl .nil (.free (zcj fuel p0 p1 (⟨p2,p3.Known⟩:(Arr2 Int)) hy10) .nil) (At.kp [4,5,7,9,12,13] [4,5,7,9,12,13] ?_)
     refine At.zab (W.rg env [4,5,7,9,12,13,14] [4,5,7,9,12,13] ?_)
     refine W.seq (W.rg env [4,5,7,9,12,13,14,58] [4,5,7,9,12,13] ?_)
     refine W.zhP H (fun (s11:Bool)=>[(4,.lp 4 0),(5,.lp 5 0),(7,.lp 7 0),(9,.lp 9 0),(12,.lp 12 0),(13,.lp 13 0),(14,.bool (s11))]) (fun (s11:Bool)=>[(4,.cells (zaf p0)),(5,.cells [.int .i64 (p1.Source),.int .i64 (p1.Lamp),.int .i64 (p1.Batch),.int .i64 (p1.Night),.int .i64 (p1.Known),.int .i64 (p1.Until)]),(7,.cells [roL 6 zah p3.Looks,.int .i64 (p3.Known)]),(9,.cells [.int .i64 (y1.Good),.int .i64 (y1.Bad)]),(12,.cells [.int .i64 (y7.Lo),.int .i64 (y7.Hi)]),(13,.cells [.int .i64 (y9.Lo),.int .i64 (y9.Hi)])]) (fun s11 H=>?_) (fun k11 H hK11=>?_)
     · refine W.rg env [4,5,7,9,13,14,15] [4,5,7,9,13] ?_
       refine W.seq (W.rg env [4,5,7,9,13,14,15,81] [4,5,7,9,13] ?_)
       refine W.zhP H (fun (s12:Bool)=>[(14,.bool (s11)),(15,.bool (s12))]) (fun (s12:Bool)=>[]) (fun s12 H=>?_) (fun k12 H hK12=>?_)
       · refine W.seq (W.sr env [] [] [14,100] [] rfl rfl rfl (.cons id .nil) .nil ?_)
         refine W.co H rfl (fun hb13 H=>?_) (fun hb13 H=>?_)
         · refine W.rg env [8] [] ?_
           refine W.ret (At.rthen ?_)
           cases H
           exact At.rz env hval
         · refine W.skip (At.zab (W.seq (W.rg env [101] [] ?_)))
           refine W.co H rfl (fun hb14 H=>?_) (fun hb14 H=>?_)
           · refine W.rg env [8] [] ?_
             refine W.ret (At.rthen ?_)
             cases H
             exact At.rz env hval
           · refine W.skip (At.zab (W.rg env [8] [] ?_))
             refine W.ret ?_
             cases H
             exact At.rz env hval
       · refine W.co H rfl (fun hb15 H=>?_) (fun hb15 H=>?_)
         · obtain ⟨y16,hy17,H⟩:=zac H
           refine W.region env [] [⟨.agg [.int .i64 (y16.Lo),.int .i64 (y16.Hi)],[],0,[]⟩] rfl rfl (by kernel_rfl) (.cons id (.cons id (.cons id (.cons id (.cons id (.cons id (.cons id (.cons id (.cons id (.cons id (.cons id (.cons id .nil)))))))))))) (.on (fun hW=>zcj fuel p0 p1 (⟨y1.Bad,p3.Known⟩:(Arr2 Int)) (zbQ hy17 hW)) .nil) (At.kp [14,15] [] ?_)
           refine At.zaA (At.kp [14,15] [] ?_)
           exact At.conv (.cons .q (.cons .q .nil)) .nil (hK12 ((decide (y9.Lo≤y7.Hi)) && (decide (y9.Hi<y16.Hi))) H)
         · refine W.skip (At.zaA (At.kp [14,15] [] ?_))
           exact At.conv (.cons .q (.cons .q .nil)) .nil (hK12 (decide (y9.Lo≤y7.Hi)) H)
     · refine W.co H rfl (fun hb18 H=>?_) (fun hb18 H=>?_)
       · obtain ⟨y19,hy20,H⟩:=zac H
         refine W.region env [] [⟨.agg [.int .i64 (y19.Lo),.int .i64 (y19.Hi)],[],0,[]⟩] rfl rfl (by kernel_rfl) (.cons id (.cons id (.cons id (.cons id (.cons id (.cons id (.cons id (.cons id (.cons id (.cons id (.cons id (.cons id .nil)))))))))))) (.on (fun hW=>zcj fuel p0 p1 (⟨y1.Good,p3.Known⟩:(Arr2 Int)) (zbQ hy20 hW)) .nil) (At.kp [4,5,7,9,12,13,14] [4,5,7,9,12,13] ?_)
         refine At.zaA (At.kp [4,5,7,9,12,13,14] [4,5,7,9,12,13] ?_)
         exact At.conv (.cons .q (.cons .q (.cons .q (.cons .q (.cons .q (.cons .q (.cons .q .nil))))))) (.cons .q (.cons .q (.cons .q (.cons .q (.cons .q (.cons .q .nil)))))) (hK11 ((decide (y7.Lo<y9.Hi)) && (decide (y19.Hi<y9.Hi))) H)
       · refine W.skip (At.zaA (At.kp [4,5,7,9,12,13,14] [4,5,7,9,12,13] ?_))
         exact At.conv (.cons .q (.cons .q (.cons .q (.cons .q (.cons .q (.cons .q (.cons .q .nil))))))) (.cons .q (.cons .q (.cons .q (.cons .q (.cons .q (.cons .q .nil)))))) (hK11 (decide (y7.Lo<y9.Hi)) H)
theorem zeo (fuel:Nat) (p0:Wear) (p1:gasolierref06_When) {r:(Int×Int)} (H:zbL fuel p0 p1=some r):Ctr Tryz.prog 39 [.agg (zaf p0),.agg [.int .i64 (p1.Lamp),.int .i64 (p1.Night),.int .i64 (p1.Known)]] (.tup [.int .i64 (r.1),.int .i64 (r.2)]):=by
 unfold zbL at H
 refine Ctr.ob Tryz.func39 Tryz.ntmps39 (fun w0 h0 hval=>?_)
 refine W.rg env [2,3] [2,3] ?_
 refine W.seq ?_
 obtain ⟨y1,hy2,H⟩:=zac H
 refine W.region env [] [⟨.tup [.agg [.int .i64 (y1.1.Source),.int .i64 (y1.1.Lamp),.int .i64 (y1.1.Batch),.int .i64 (y1.1.Night),.int .i64 (y1.1.Known),.int .i64 (y1.1.Until)],.int .i64 (y1.2)],[],0,[]⟩] rfl rfl rfl .nil (.free (zfY fuel p0 p1 hy2) .nil) (At.kp [2,3,6,7] [2,3,6] ?_)
 refine At.zab (W.seq (W.rg env [2,3,6,7,16] [2,3,6] ?_))
 refine W.co H rfl (fun hb3 H=>?_) (fun hb3 H=>?_)
 · refine W.rg env [4,5] [] ?_
   refine W.ret (At.rthen ?_)
   cases H
   exact At.rz env hval
 · refine W.skip (At.zab (W.seq ?_))
   obtain ⟨y4,hy5,H⟩:=zac H
   refine W.region env [] [⟨.agg [roL 6 zah y4.Looks,.int .i64 (y4.Known)],[],0,[]⟩] rfl rfl rfl .nil (.free (zha fuel p0 p1.Known hy5) .nil) (At.kp [2,3,6,8] [2,3,6,8] ?_)
   refine At.zab (W.seq (W.seq ?_))
   obtain ⟨y6,hy7,H⟩:=zac H
   refine W.region env [] [⟨.bool (y6),[],0,[]⟩] rfl rfl rfl .nil (.free (zgC fuel p0 y4 hy7) .nil) (At.kp [2,3,6,8,25] [2,3,6,8] ?_)
   refine At.zab (W.co H rfl (fun hb8 H=>?_) (fun hb8 H=>?_))
   · refine W.rg env [4,5] [] ?_
     refine W.ret (At.rthen ?_)
     cases H
     exact At.rz env hval
   · refine W.skip (At.zab (W.seq ?_))
     obtain ⟨y9,hy10,H⟩:=zac H
     refine W.region env [] [⟨.int .i64 (y9),[],0,[]⟩] rfl rfl rfl .nil (.free (zgB fuel p0 y1.1 p1.Night y4 hy10) .nil) (At.kp [4,5] [] ?_)
     refine At.zab (W.ret ?_)
     cases H
     exact At.rz env hval
theorem zgG (fuel:Nat) (p0:Wear) (p1:Int) (p2:(Arr2 Int)) {r:((List Int)×Int)} (H:zcg fuel p0 p1 p2=some r):Ctr Tryz.prog 48 [.agg (zaf p0),.int .i64 (p1),.agg [.int .i64 (p2.x0),.int .i64 (p2.x1)]] (.tup [roL 1 zad r.1,.int .i64 (r.2)]):=by
 unfold zcg at H
 refine Ctr.ob Tryz.func48 Tryz.ntmps48 (fun w0 h0 hval=>?_)
 refine W.rg env [1,3,5] [3,5] ?_
 refine W.seq ?_
 obtain ⟨y1,hy2,H⟩:=zac H
 refine W.region env [] [⟨.int .i64 (y1),[],0,[]⟩] rfl rfl rfl .nil (.free (zgF fuel p0 p2 hy2) .nil) (At.kp [1,3,5,8] [3,5] ?_)
 refine At.zab (W.seq (W.rg env [1,3,5,8,22] [3,5] ?_))
 refine W.co H rfl (fun hb3 H=>?_) (fun hb3 H=>?_)
 · refine W.rg env [6,7] [] ?_
   refine W.ret (At.rthen ?_)
   cases H
   exact At.ret env.ty rfl rfl nofun (Sim.tupL (.cons (Sim.nil _ _) (.cons (.refl _) .nil))) hval
 · refine W.skip (At.zab (W.seq ?_))
   obtain ⟨y4,hy5,H⟩:=zac H
   refine W.region env [] [⟨.tup [.agg (zaf y4.1),.bool (y4.2)],[],0,[]⟩] rfl rfl rfl .nil (.free (zfN fuel p0 p1 hy5) .nil) (At.kp [3,5,9,10] [3,5,9] ?_)
   refine At.zab (W.seq (W.rg env [3,5,9,31] [3,5,9] ?_))
   refine W.co H rfl (fun hb6 H=>?_) (fun hb6 H=>?_)
   · refine W.rg env [6,7] [] ?_
     refine W.ret (At.rthen ?_)
     cases H
     exact At.ret env.ty rfl rfl nofun (Sim.tupL (.cons (Sim.nil _ _) (.cons (.refl _) .nil))) hval
   · refine W.skip (At.zab (W.seq ?_))
     obtain ⟨y7,hy8,H⟩:=zac H
     refine W.region env [] [⟨roL 1 zad y7,[],0,[]⟩] rfl rfl rfl .nil (.free (zgH fuel p0 hy8) .nil) (At.kp [3,5,9,11] [3,5,9] ?_)
     refine At.zab (W.rg env [3,5,9,11,12] [3,5,9] ?_)
     refine W.seq (W.rg env [3,5,9,11,12,13] [3,5,9] ?_)
     refine W.block (At.zev 12 512 3 1 (e:=fun i=>zad (([]:List Int).getD i default)) rfl rfl ?_)
     refine At.kp [3,5,9,11,12,13] [3,5,9,512] ?_
     refine W.loopGo H (fun (s9:Int×(List Int))=>[(3,.lp 3 0),(5,.lp 5 0),(9,.lp 9 0),(11,roL 1 zad y7),(12,.buf 512 (s9.2).length),(13,.int .i64 (s9.1))]) (fun (s9:Int×(List Int))=>[(3,.cells (zaf p0)),(5,.cells [.int .i64 (p2.x0),.int .i64 (p2.x1)]),(9,.cells (zaf y4.1)),(512,bufL 3 1 zad s9.2)]) (.cons .q (.cons .q (.cons .q (.cons .q (.cons .qb (.cons .qi .nil)))))) (.cons .q (.cons .q (.cons .q (.cons .q .nil)))) (fun k9 s9 H K0 hK9=>?_)
     refine W.seq (W.rg env [3,5,9,11,12,13,37] [3,5,9,512] ?_)
     refine W.co H rfl (fun hb10 H=>?_) (fun hb10 H=>?_)
     · refine W.skip (At.zab (W.seq (W.block (W.seq ?_))))
       obtain ⟨hc11,H⟩:=zaa H
       obtain ⟨y12,hy13,H⟩:=zac H
       refine W.region env [] [⟨.tup [.int .i64 (y12.1),.int .i64 (y12.2)],[],0,[]⟩] rfl rfl (by kernel_rfl) (.cons hc11 (.cons (by decide) (.cons (by decide) .nil))) (.free (zeo fuel p0 (⟨(y7.getD (s9.1).toNat default),p2.x0,p2.x1⟩:gasolierref06_When) hy13) .nil) (At.kp [3,5,9,11,12,13,14,15] [3,5,9,512] ?_)
       refine At.zab (W.seq ?_)
       obtain ⟨hc14,H⟩:=zaa H
       obtain ⟨y15,hy16,H⟩:=zac H
       refine W.region env [] [⟨.tup [.int .i64 (y15.1),.int .i64 (y15.2)],[],0,[]⟩] rfl rfl (by kernel_rfl) (.cons hc14 (.cons (by decide) (.cons (by decide) .nil))) (.free (zeo fuel y4.1 (⟨(y7.getD (s9.1).toNat default),p2.x0,p2.x1⟩:gasolierref06_When) hy16) .nil) (At.kp [3,5,9,11,12,13,14,15,16,17] [3,5,9,512] ?_)
       refine At.zab (W.sr env [] [] [3,5,9,11,12,13,75] [3,5,9,512] rfl rfl rfl (.cons id (.cons id (.cons (fun h=>by rw [h];rfl) .nil))) .nil ?_)
       refine W.co H rfl (fun hb17 H=>?_) (fun hb17 H=>?_)
       · obtain ⟨hc18,H⟩:=zaa H
         obtain ⟨hc19,H⟩:=zaa H
         refine W.region env [] [] rfl rfl rfl (.cons hc18 (.cons (rmI hc19) .nil)) .nil (At.kp [3,5,9,11,12,13] [3,5,9,512] ?_)
         refine At.za8 (.cons (.refl _) (.cons (.refl _) (.cons (.refl _) (.cons (y:=bufL 3 1 zad (s9.2++([(y7.getD (s9.1).toNat default)]:List Int))) (BSim.seg (Seg.push (Seg.refl zad _) (Seg.lit (f:=zad) (sz:=1) ([(y7.getD (s9.1).toNat default)]:List Int) rfl rfl (fun _=>rfl)))) .nil)))) ?_
         refine At.inb (At.zab ?_)
         obtain ⟨hc20,H⟩:=zaa H
         refine W.r1 env hc20 [3,5,9,11,12,13] [3,5,9,512] ?_
         refine At.zaA (At.kp [3,5,9,11,12,13] [3,5,9,512] ?_)
         exact At.conv (.cons .q (.cons .q (.cons .q (.cons .q (.cons .qb (.cons .qi .nil)))))) (.cons .q (.cons .q (.cons .q (.cons .q .nil)))) (hK9 ((s9.1+1),(s9.2++([(y7.getD (s9.1).toNat default)]:List Int))) H)
       · refine W.skip (At.inb (At.zab ?_))
         obtain ⟨hc21,H⟩:=zaa H
         refine W.r1 env hc21 [3,5,9,11,12,13] [3,5,9,512] ?_
         refine At.zaA (At.kp [3,5,9,11,12,13] [3,5,9,512] ?_)
         exact At.conv (.cons .q (.cons .q (.cons .q (.cons .q (.cons .qb (.cons .qi .nil)))))) (.cons .q (.cons .q (.cons .q (.cons .q .nil)))) (hK9 ((s9.1+1),s9.2) H)
     · refine W.exit (At.xthen (At.xthen (At.xhere (At.zab (W.rg env [6,7] [512] ?_)))))
       refine W.ret ?_
       cases H
       exact At.ret env.ty rfl rfl (fun q hq=>by cases hq;exact (by first|rfl|(simp;done)|omega|(simp;omega))) (.refl _) hval
theorem zeR (fuel:Nat) (p0:Wear) (p1:Int) (p2:(Arr2 Int)) {r:Bool} (H:za5 fuel p0 p1 p2=some r):Ctr Tryz.prog 9 [.agg (zaf p0),.int .i64 (p1),.agg [.int .i64 (p2.x0),.int .i64 (p2.x1)]] (.bool (r)):=by
 unfold za5 at H
 refine Ctr.ob Tryz.func9 Tryz.ntmps9 (fun w0 h0 hval=>?_)
 refine W.rg env [1,3,5] [3,5] ?_
 refine W.seq ?_
 obtain ⟨y1,hy2,H⟩:=zac H
 refine W.region env [] [⟨.bool (y1),[],0,[]⟩] rfl rfl rfl .nil (.free (zhb 20000 hy2) .nil) (At.kp [1,3,5,7] [3,5] ?_)
 refine At.zab (W.seq ?_)
 obtain ⟨y3,hy4,H⟩:=zac H
 refine W.region env [] [⟨.tup [roL 1 zad y3.1,.int .i64 (y3.2)],[],0,[]⟩] rfl rfl rfl (.cons (by decide) (.cons (by decide) .nil)) (.free (zj0 fuel p0 p1 p2.x0 p2.x1 hy4) .nil) (At.kp [1,3,5,7,8,9] [3,5] ?_)
 refine At.zab (W.seq ?_)
 obtain ⟨y5,hy6,H⟩:=zac H
 refine W.region env [] [⟨.tup [roL 1 zad y5.1,.int .i64 (y5.2)],[],0,[]⟩] rfl rfl rfl .nil (.free (zgG fuel p0 p1 p2 hy6) .nil) (At.kp [7,8,9,10,11] [] ?_)
 refine At.zab (W.seq ?_)
 obtain ⟨y7,hy8,H⟩:=zac H
 refine W.region env [] [⟨.bool (y7),[],0,[]⟩] rfl rfl rfl .nil (.free (zdr fuel y3.1 y5.1 hy8) .nil) (At.kp [7,9,11,12] [] ?_)
 refine At.zab (W.sr env [] [] [6] [] rfl rfl rfl (.cons id (.cons id (.cons id (.cons id .nil)))) .nil ?_)
 refine W.ret ?_
 cases H
 exact At.rz env hval
end Go.Sp
