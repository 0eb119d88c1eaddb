/- Printed by gen.py: contracts, part 3. -/
import Derived.Test.YtakjeajlmlmkeaaGreatCtr2
set_option linter.all false
set_option maxRecDepth 100000
set_option maxHeartbeats 1000000
namespace Go.Sp
open Go Go.Av Go.Proofs
theorem zgj (fuel:Nat) (p0:Wear) (p1:Mantle) (p2:gasolierref06_Told) {r:Range} (H:zb7 fuel p0 p1 p2=some r):Ctr Tryz.prog 156 [.agg [roL 3 zac p0.Batches,roL 6 zaa p0.Mantles,roL 7 zaf p0.Burns,roL 6 zab p0.Looks],.agg [.int .i64 (p1.Source),.int .i64 (p1.Lamp),.int .i64 (p1.Batch),.int .i64 (p1.Night),.int .i64 (p1.Known),.int .i64 (p1.Until)],.agg [roL 6 zab p2.Looks,.int .i64 (p2.Known)]] (.agg [.int .i64 (r.Lo),.int .i64 (r.Hi)]):=by
 unfold zb7 at H
 refine Ctr.zao (N:=59) Tryz.func156 (by kernel_rfl) (c:=_) rfl Tryz.ntmps156 rfl (fun w0 h0 hval=>?_)
 refine W.rg env [3,4,5,6] [3,4,5,6] ?_
 refine W.seq ?_
 obtain ⟨y1,hy2,H⟩:=zah H
 refine W.region env [] [⟨.agg [.int .i64 (y1.Good),.int .i64 (y1.Bad)],[],0,[]⟩] rfl rfl rfl .nil (.free (zee fuel p0 p1 p2 hy2) .nil) (At.keep (ts:=[3,4,5,6,7]) (ids:=[3,4,5,6,7]) rfl rfl ?_)
 refine At.zai ?_
 refine W.rg env [3,4,5,6,7,8] [3,4,5,6,7,8] ?_
 refine W.rg env [3,4,5,6,7,8,9] [3,4,5,6,7,8,9] ?_
 refine W.seq ?_
 refine W.rg env [3,4,5,6,7,8,9,18] [3,4,5,6,7,8,9] ?_
 refine W.zhn H (fun (s3:Int×Range)=>[(3,.lp 3 0),(4,.lp 4 0),(5,.lp 5 0),(6,.lp 6 0),(7,.lp 7 0),(8,.lp 8 0),(9,.lp 9 0)]) (fun (s3:Int×Range)=>[(3,.cells [roL 3 zac p0.Batches,roL 6 zaa p0.Mantles,roL 7 zaf p0.Burns,roL 6 zab p0.Looks]),(4,.cells [.int .i64 (p1.Source),.int .i64 (p1.Lamp),.int .i64 (p1.Batch),.int .i64 (p1.Night),.int .i64 (p1.Known),.int .i64 (p1.Until)]),(5,.cells [roL 6 zab p2.Looks,.int .i64 (p2.Known)]),(6,.cells [.int .i64 (0),.int .i64 (0)]),(7,.cells [.int .i64 (y1.Good),.int .i64 (y1.Bad)]),(8,.cells [.int .i64 (s3.1),.int .i64 (1000000)]),(9,.cells [.int .i64 (s3.2.Lo),.int .i64 (s3.2.Hi)])]) (fun s3 H=>?_) (fun k3 H hK3=>?_)
 · refine W.seq ?_
   refine W.rg env [3,4,5,6,7,8,9,32] [3,4,5,6,7,8,9] ?_
   refine W.zhn H (fun (s4:Int)=>[(6,.lp 6 0),(8,.lp 8 0)]) (fun (s4:Int)=>[(6,.cells [.int .i64 (0),.int .i64 (0)]),(8,.cells [.int .i64 (s3.1),.int .i64 (s4)])]) (fun s4 H=>?_) (fun k4 H hK4=>?_)
   · refine W.rg env [6] [6] ?_
     refine W.ret ?_
     cases H
     exact At.ret env.ty rfl rfl nofun (.refl _) hval
   · refine W.cond rfl (fun hb5=>?_) (fun hb5=>?_)
     · have H:=zal H hb5
       refine W.seq ?_
       obtain ⟨y6,hy7,H⟩:=zah H
       refine W.region env [] [⟨.agg [.int .i64 (y6.Lo),.int .i64 (y6.Hi)],[],0,[]⟩] rfl rfl rfl .nil (.free (zbD fuel p0 p1 (⟨y1.Bad,p2.Known⟩:(Arr2 Int)) hy7) .nil) (At.keep (ts:=[6,7,8,9,10]) (ids:=[6,7,8,9,10]) rfl rfl ?_)
       refine At.zai ?_
       obtain ⟨hc8,H⟩:=zag H
       refine W.sr env [] [] [6,7,8,9,10] [6,7,8,9,10] rfl rfl rfl (.cons hc8 .nil) .nil ?_
       refine W.sr env [] [] [6,8,56] [6,8] rfl rfl rfl (.cons id (.cons id (.cons id (.cons id (.cons (fun h=>by rw [h];rfl) .nil))))) .nil ?_
       refine W.cond rfl (fun hb9=>?_) (fun hb9=>?_)
       · have H:=zal H hb9
         refine W.rg env [6] [6] ?_
         refine W.ret ?_
         refine At.rthen ?_
         cases H
         exact At.ret env.ty rfl rfl nofun (.refl _) hval
       · have H:=zaj H hb9
         refine W.skip ?_
         refine At.zaE (At.keep (ts:=[6,8]) (ids:=[6,8]) rfl rfl ?_)
         exact At.conv (.cons .q (.cons .q .nil)) (.cons .q (.cons .q .nil)) (hK4 (y6.Hi - 1) H)
     · have H:=zaj H hb5
       refine W.skip ?_
       refine At.zaE (At.keep (ts:=[6,8]) (ids:=[6,8]) rfl rfl ?_)
       exact At.conv (.cons .q (.cons .q .nil)) (.cons .q (.cons .q .nil)) (hK4 1000000 H)
 · refine W.cond rfl (fun hb10=>?_) (fun hb10=>?_)
   · have H:=zal H hb10
     refine W.seq ?_
     obtain ⟨y11,hy12,H⟩:=zah H
     refine W.region env [] [⟨.agg [.int .i64 (y11.Lo),.int .i64 (y11.Hi)],[],0,[]⟩] rfl rfl rfl .nil (.free (zbD fuel p0 p1 (⟨y1.Good,p2.Known⟩:(Arr2 Int)) hy12) .nil) (At.keep (ts:=[3,4,5,6,7,8,9]) (ids:=[3,4,5,6,7,8,9]) rfl rfl ?_)
     refine At.zai ?_
     refine W.region env [] [] rfl rfl rfl .nil .nil (At.keep (ts:=[3,4,5,6,7,8,9]) (ids:=[3,4,5,6,7,8,9]) rfl rfl ?_)
     refine At.zaE (At.keep (ts:=[3,4,5,6,7,8,9]) (ids:=[3,4,5,6,7,8,9]) rfl rfl ?_)
     exact At.conv (.cons .q (.cons .q (.cons .q (.cons .q (.cons .q (.cons .q (.cons .q .nil))))))) (.cons .q (.cons .q (.cons .q (.cons .q (.cons .q (.cons .q (.cons .q .nil))))))) (hK3 (y11.Lo,y11) H)
   · have H:=zaj H hb10
     refine W.skip ?_
     refine At.zaE (At.keep (ts:=[3,4,5,6,7,8,9]) (ids:=[3,4,5,6,7,8,9]) rfl rfl ?_)
     exact At.conv (.cons .q (.cons .q (.cons .q (.cons .q (.cons .q (.cons .q (.cons .q .nil))))))) (.cons .q (.cons .q (.cons .q (.cons .q (.cons .q (.cons .q (.cons .q .nil))))))) (hK3 (0,(⟨0,0⟩:Range)) H)
theorem zef (fuel:Nat) (p0:Wear) (p1:Batch) (p2:gasolierref06_Told) {r:Range} (H:zbO fuel p0 p1 p2=some r):Ctr Tryz.prog 107 [.agg [roL 3 zac p0.Batches,roL 6 zaa p0.Mantles,roL 7 zaf p0.Burns,roL 6 zab p0.Looks],.agg [.int .i64 (p1.Id),.int .i64 (p1.Life.Lo),.int .i64 (p1.Life.Hi)],.agg [roL 6 zab p2.Looks,.int .i64 (p2.Known)]] (.agg [.int .i64 (r.Lo),.int .i64 (r.Hi)]):=by
 unfold zbO at H
 refine Ctr.zao (N:=61) Tryz.func107 (by kernel_rfl) (c:=_) rfl Tryz.ntmps107 rfl (fun w0 h0 hval=>?_)
 refine W.rg env [3,4,5,6] [3,4,5,6] ?_
 refine W.rg env [3,4,5,6,7] [3,4,5,6,7] ?_
 refine W.seq ?_
 refine W.rg env [3,4,5,6,7,8] [3,4,5,6,7] ?_
 refine W.block ?_
 refine At.keep (ts:=[3,4,5,6,7,8]) (ids:=[3,4,5,6,7]) rfl rfl ?_
 refine W.loopGo H (fun (s1:Int×Range)=>[(3,.lp 3 0),(4,.lp 4 0),(5,.lp 5 0),(6,.lp 6 0),(7,.lp 7 0),(8,.int .i64 (s1.1))]) (fun (s1:Int×Range)=>[(3,.cells [roL 3 zac p0.Batches,roL 6 zaa p0.Mantles,roL 7 zaf p0.Burns,roL 6 zab p0.Looks]),(4,.cells [.int .i64 (p1.Id),.int .i64 (p1.Life.Lo),.int .i64 (p1.Life.Hi)]),(5,.cells [roL 6 zab p2.Looks,.int .i64 (p2.Known)]),(6,.cells [.int .i64 (0),.int .i64 (0)]),(7,.cells [.int .i64 (s1.2.Lo),.int .i64 (s1.2.Hi)])]) (.cons .q (.cons .q (.cons .q (.cons .q (.cons .q (.cons .qi .nil)))))) (.cons .q (.cons .q (.cons .q (.cons .q (.cons .q .nil))))) (fun k1 s1 H K0 hK1=>?_)
 refine W.seq ?_
 refine W.rg env [3,4,5,6,7,8,17] [3,4,5,6,7] ?_
 refine W.cond rfl (fun hb2=>?_) (fun hb2=>?_)
 · have H:=zal H hb2
   refine W.skip ?_
   refine At.zai ?_
   refine W.seq ?_
   refine W.block ?_
   obtain ⟨hc3,H⟩:=zag H
   refine W.sr env [] [] [3,4,5,6,7,8,9] [3,4,5,6,7,9] rfl rfl rfl (.cons hc3 .nil) .nil ?_
   refine W.sr env [] [⟨.bool ((zaz ((p0.Mantles.getD (s1.1).toNat default).Known) ((p0.Mantles.getD (s1.1).toNat default).Until) p2.Known)),[],0,[]⟩] [3,4,5,6,7,8,9,38] [3,4,5,6,7,9] rfl rfl rfl (.cons id (.cons id (.cons id (.cons id (.cons id (.cons id (.cons id .nil))))))) (.on (fun hW=>zbz ((p0.Mantles.getD (s1.1).toNat default).Known) ((p0.Mantles.getD (s1.1).toNat default).Until) p2.Known) .nil) ?_
   refine W.cond rfl (fun hb4=>?_) (fun hb4=>?_)
   · have H:=zal H hb4
     refine W.seq ?_
     obtain ⟨y5,hy6,H⟩:=zah H
     refine W.region env [] [⟨.agg [.int .i64 (y5.Lo),.int .i64 (y5.Hi)],[],0,[]⟩] rfl rfl rfl .nil (.free (zgj fuel p0 (p0.Mantles.getD (s1.1).toNat default) p2 hy6) .nil) (At.keep (ts:=[3,4,5,6,7,8,10]) (ids:=[3,4,5,6,7,10]) rfl rfl ?_)
     refine At.zai ?_
     refine W.rg env [3,4,5,6,7,8,10] [3,4,5,6,7,10] ?_
     refine W.rg env [3,4,5,6,7,8,10,58] [3,4,5,6,7,10] ?_
     refine W.cond rfl (fun hb7=>?_) (fun hb7=>?_)
     · have H:=zal H hb7
       refine W.rg env [6] [6] ?_
       refine W.ret ?_
       refine At.rinb ?_
       refine At.rthen ?_
       refine At.rthen ?_
       refine At.rinb ?_
       refine At.rthen ?_
       cases H
       exact At.ret env.ty rfl rfl nofun (.refl _) hval
     · have H:=zaj H hb7
       refine W.skip ?_
       refine At.inb ?_
       refine At.zai ?_
       obtain ⟨hc8,H⟩:=zag H
       refine W.region env [] [] rfl rfl rfl (.cons hc8 .nil) .nil (At.keep (ts:=[3,4,5,6,7,8]) (ids:=[3,4,5,6,7]) rfl rfl ?_)
       refine At.zaE (At.keep (ts:=[3,4,5,6,7,8]) (ids:=[3,4,5,6,7]) rfl rfl ?_)
       exact At.conv (.cons .q (.cons .q (.cons .q (.cons .q (.cons .q (.cons .qi .nil)))))) (.cons .q (.cons .q (.cons .q (.cons .q (.cons .q .nil))))) (hK1 ((s1.1+1),(⟨(max s1.2.Lo y5.Lo),(min s1.2.Hi y5.Hi)⟩:Range)) H)
   · have H:=zaj H hb4
     refine W.skip ?_
     refine At.inb ?_
     refine At.zai ?_
     obtain ⟨hc9,H⟩:=zag H
     refine W.region env [] [] rfl rfl rfl (.cons hc9 .nil) .nil (At.keep (ts:=[3,4,5,6,7,8]) (ids:=[3,4,5,6,7]) rfl rfl ?_)
     refine At.zaE (At.keep (ts:=[3,4,5,6,7,8]) (ids:=[3,4,5,6,7]) rfl rfl ?_)
     exact At.conv (.cons .q (.cons .q (.cons .q (.cons .q (.cons .q (.cons .qi .nil)))))) (.cons .q (.cons .q (.cons .q (.cons .q (.cons .q .nil))))) (hK1 ((s1.1+1),s1.2) H)
 · have H:=zaj H hb2
   refine W.exit ?_
   refine At.xthen ?_
   refine At.xthen ?_
   refine At.xhere ?_
   refine At.zai ?_
   refine W.rg env [6] [6] ?_
   refine W.ret ?_
   cases H
   exact At.ret env.ty rfl rfl nofun (.refl _) hval
theorem zgh (fuel:Nat) (p0:Wear) (p1:gasolierref06_Told) {r:Bool} (H:zb5 fuel p0 p1=some r):Ctr Tryz.prog 103 [.agg [roL 3 zac p0.Batches,roL 6 zaa p0.Mantles,roL 7 zaf p0.Burns,roL 6 zab p0.Looks],.agg [roL 6 zab p1.Looks,.int .i64 (p1.Known)]] (.bool (r)):=by
 unfold zb5 at H
 refine Ctr.zao (N:=27) Tryz.func103 (by kernel_rfl) (c:=_) rfl Tryz.ntmps103 rfl (fun w0 h0 hval=>?_)
 refine W.rg env [2,3] [2,3] ?_
 refine W.seq ?_
 refine W.rg env [2,3,5] [2,3] ?_
 refine W.block ?_
 refine At.keep (ts:=[2,3,5]) (ids:=[2,3]) rfl rfl ?_
 refine W.loopGo H (fun (s1:Int)=>[(2,.lp 2 0),(3,.lp 3 0),(5,.int .i64 (s1))]) (fun (s1:Int)=>[(2,.cells [roL 3 zac p0.Batches,roL 6 zaa p0.Mantles,roL 7 zaf p0.Burns,roL 6 zab p0.Looks]),(3,.cells [roL 6 zab p1.Looks,.int .i64 (p1.Known)])]) (.cons .q (.cons .q (.cons .qi .nil))) (.cons .q (.cons .q .nil)) (fun k1 s1 H K0 hK1=>?_)
 refine W.seq ?_
 refine W.rg env [2,3,5,11] [2,3] ?_
 refine W.cond rfl (fun hb2=>?_) (fun hb2=>?_)
 · have H:=zal H hb2
   refine W.skip ?_
   refine At.zai ?_
   refine W.seq ?_
   refine W.block ?_
   refine W.seq ?_
   obtain ⟨hc3,H⟩:=zag H
   obtain ⟨y4,hy5,H⟩:=zah H
   refine W.region env [] [⟨.agg [.int .i64 (y4.Lo),.int .i64 (y4.Hi)],[],0,[]⟩] rfl rfl (by kernel_rfl) (.cons hc3 .nil) (.free (zef fuel p0 (p0.Batches.getD (s1).toNat default) p1 hy5) .nil) (At.keep (ts:=[2,3,5,6]) (ids:=[2,3,6]) rfl rfl ?_)
   refine At.zai ?_
   refine W.rg env [2,3,5,26] [2,3] ?_
   refine W.cond rfl (fun hb6=>?_) (fun hb6=>?_)
   · have H:=zal H hb6
     refine W.rg env [4] [] ?_
     refine W.ret ?_
     refine At.rinb ?_
     refine At.rthen ?_
     refine At.rthen ?_
     refine At.rinb ?_
     refine At.rthen ?_
     cases H
     exact At.ret env.ty rfl rfl nofun (.refl _) hval
   · have H:=zaj H hb6
     refine W.skip ?_
     refine At.inb ?_
     refine At.zai ?_
     obtain ⟨hc7,H⟩:=zag H
     refine W.region env [] [] rfl rfl rfl (.cons hc7 .nil) .nil (At.keep (ts:=[2,3,5]) (ids:=[2,3]) rfl rfl ?_)
     refine At.zaE (At.keep (ts:=[2,3,5]) (ids:=[2,3]) rfl rfl ?_)
     exact At.conv (.cons .q (.cons .q (.cons .qi .nil))) (.cons .q (.cons .q .nil)) (hK1 (s1+1) H)
 · have H:=zaj H hb2
   refine W.exit ?_
   refine At.xthen ?_
   refine At.xthen ?_
   refine At.xhere ?_
   refine At.zai ?_
   refine W.rg env [4] [] ?_
   refine W.ret ?_
   cases H
   exact At.ret env.ty rfl rfl nofun (.refl _) hval
theorem zfw (fuel:Nat) (p0:Wear) (p1:Int) {r:(Batch×Bool)} (H:zbH fuel p0 p1=some r):Ctr Tryz.prog 106 [.agg [roL 3 zac p0.Batches,roL 6 zaa p0.Mantles,roL 7 zaf p0.Burns,roL 6 zab p0.Looks],.int .i64 (p1)] (.tup [.agg [.int .i64 (r.1.Id),.int .i64 (r.1.Life.Lo),.int .i64 (r.1.Life.Hi)],.bool (r.2)]):=by
 unfold zbH at H
 refine Ctr.zao (N:=28) Tryz.func106 (by kernel_rfl) (c:=_) rfl Tryz.ntmps106 rfl (fun w0 h0 hval=>?_)
 refine W.rg env [1,2,4] [2,4] ?_
 refine W.seq ?_
 refine W.rg env [1,2,4,6] [2,4] ?_
 refine W.block ?_
 refine At.keep (ts:=[1,2,4,6]) (ids:=[2,4]) rfl rfl ?_
 refine W.loopGo H (fun (s1:Int)=>[(1,.int .i64 (p1)),(2,.lp 2 0),(4,.lp 4 0),(6,.int .i64 (s1))]) (fun (s1:Int)=>[(2,.cells [roL 3 zac p0.Batches,roL 6 zaa p0.Mantles,roL 7 zaf p0.Burns,roL 6 zab p0.Looks]),(4,.cells [.int .i64 (0),.int .i64 (0),.int .i64 (0)])]) (.cons .qi (.cons .q (.cons .q (.cons .qi .nil)))) (.cons .q (.cons .q .nil)) (fun k1 s1 H K0 hK1=>?_)
 refine W.seq ?_
 refine W.rg env [1,2,4,6,11] [2,4] ?_
 refine W.cond rfl (fun hb2=>?_) (fun hb2=>?_)
 · have H:=zal H hb2
   refine W.skip ?_
   refine At.zai ?_
   refine W.seq ?_
   refine W.block ?_
   obtain ⟨hc3,H⟩:=zag H
   refine W.sr env [] [] [1,2,4,6,21] [2,4] rfl rfl rfl (.cons hc3 .nil) .nil ?_
   refine W.cond rfl (fun hb4=>?_) (fun hb4=>?_)
   · have H:=zal H hb4
     obtain ⟨hc5,H⟩:=zag H
     refine W.sr env [] [] [4,5] [4] rfl rfl rfl (.cons hc5 .nil) .nil ?_
     refine W.ret ?_
     refine At.rinb ?_
     refine At.rthen ?_
     refine At.rthen ?_
     refine At.rinb ?_
     refine At.rthen ?_
     cases H
     exact At.ret env.ty rfl rfl nofun (.refl _) hval
   · have H:=zaj H hb4
     refine W.skip ?_
     refine At.inb ?_
     refine At.zai ?_
     obtain ⟨hc6,H⟩:=zag H
     refine W.region env [] [] rfl rfl rfl (.cons hc6 .nil) .nil (At.keep (ts:=[1,2,4,6]) (ids:=[2,4]) rfl rfl ?_)
     refine At.zaE (At.keep (ts:=[1,2,4,6]) (ids:=[2,4]) rfl rfl ?_)
     exact At.conv (.cons .qi (.cons .q (.cons .q (.cons .qi .nil)))) (.cons .q (.cons .q .nil)) (hK1 (s1+1) H)
 · have H:=zaj H hb2
   refine W.exit ?_
   refine At.xthen ?_
   refine At.xthen ?_
   refine At.xhere ?_
   refine At.zai ?_
   refine W.rg env [4,5] [4] ?_
   refine W.ret ?_
   cases H
   exact At.ret env.ty rfl rfl nofun (.refl _) hval
theorem zgg (fuel:Nat) (p0:Wear) (p1:Mantle) (p2:Int) (p3:gasolierref06_Told) {r:Int} (H:zb4 fuel p0 p1 p2 p3=some r):Ctr Tryz.prog 104 [.agg [roL 3 zac p0.Batches,roL 6 zaa p0.Mantles,roL 7 zaf p0.Burns,roL 6 zab p0.Looks],.agg [.int .i64 (p1.Source),.int .i64 (p1.Lamp),.int .i64 (p1.Batch),.int .i64 (p1.Night),.int .i64 (p1.Known),.int .i64 (p1.Until)],.int .i64 (p2),.agg [roL 6 zab p3.Looks,.int .i64 (p3.Known)]] (.int .i64 (r)):=by
 unfold zb4 at H
 refine Ctr.zao (N:=102) Tryz.func104 (by kernel_rfl) (c:=_) rfl Tryz.ntmps104 rfl (fun w0 h0 hval=>?_)
 refine W.rg env [2,4,5,7] [4,5,7] ?_
 refine W.seq ?_
 obtain ⟨y1,hy2,H⟩:=zah H
 refine W.region env [] [⟨.agg [.int .i64 (y1.Good),.int .i64 (y1.Bad)],[],0,[]⟩] rfl rfl rfl .nil (.free (zee fuel p0 p1 p3 hy2) .nil) (At.keep (ts:=[2,4,5,7,9]) (ids:=[4,5,7,9]) rfl rfl ?_)
 refine At.zai ?_
 refine W.seq ?_
 refine W.rg env [2,4,5,7,9,23] [4,5,7,9] ?_
 refine W.cond rfl (fun hb3=>?_) (fun hb3=>?_)
 · have H:=zal H hb3
   refine W.rg env [8] [] ?_
   refine W.ret ?_
   refine At.rthen ?_
   cases H
   exact At.ret env.ty rfl rfl nofun (.refl _) hval
 · have H:=zaj H hb3
   refine W.skip ?_
   refine At.zai ?_
   refine W.seq ?_
   refine W.sr env [] [] [2,4,5,7,9,32] [4,5,7,9] rfl rfl rfl (.cons id (.cons id (.cons id (.cons id .nil)))) .nil ?_
   refine W.cond rfl (fun hb4=>?_) (fun hb4=>?_)
   · have H:=zal H hb4
     refine W.rg env [8] [] ?_
     refine W.ret ?_
     refine At.rthen ?_
     cases H
     exact At.ret env.ty rfl rfl nofun (.refl _) hval
   · have H:=zaj H hb4
     refine W.skip ?_
     refine At.zai ?_
     refine W.seq ?_
     obtain ⟨y5,hy6,H⟩:=zah H
     refine W.region env [] [⟨.tup [.agg [.int .i64 (y5.1.Id),.int .i64 (y5.1.Life.Lo),.int .i64 (y5.1.Life.Hi)],.bool (y5.2)],[],0,[]⟩] rfl rfl rfl .nil (.free (zfw fuel p0 p1.Batch hy6) .nil) (At.keep (ts:=[2,4,5,7,9,10]) (ids:=[4,5,7,9,10]) rfl rfl ?_)
     refine At.zai ?_
     refine W.seq ?_
     obtain ⟨y7,hy8,H⟩:=zah H
     refine W.region env [] [⟨.agg [.int .i64 (y7.Lo),.int .i64 (y7.Hi)],[],0,[]⟩] rfl rfl rfl .nil (.free (zef fuel p0 y5.1 p3 hy8) .nil) (At.keep (ts:=[2,4,5,7,9,12]) (ids:=[4,5,7,9,12]) rfl rfl ?_)
     refine At.zai ?_
     refine W.seq ?_
     obtain ⟨y9,hy10,H⟩:=zah H
     refine W.region env [] [⟨.agg [.int .i64 (y9.Lo),.int .i64 (y9.Hi)],[],0,[]⟩] rfl rfl rfl .nil (.free (zbD fuel p0 p1 (⟨p2,p3.Known⟩:(Arr2 Int)) hy10) .nil) (At.keep (ts:=[4,5,7,9,12,13]) (ids:=[4,5,7,9,12,13]) rfl rfl ?_)
     refine At.zai ?_
     refine W.rg env [4,5,7,9,12,13,14] [4,5,7,9,12,13] ?_
     refine W.seq ?_
     refine W.rg env [4,5,7,9,12,13,14,58] [4,5,7,9,12,13] ?_
     refine W.zhn H (fun (s11:Bool)=>[(4,.lp 4 0),(5,.lp 5 0),(7,.lp 7 0),(9,.lp 9 0),(12,.lp 12 0),(13,.lp 13 0),(14,.bool (s11))]) (fun (s11:Bool)=>[(4,.cells [roL 3 zac p0.Batches,roL 6 zaa p0.Mantles,roL 7 zaf p0.Burns,roL 6 zab p0.Looks]),(5,.cells [.int .i64 (p1.Source),.int .i64 (p1.Lamp),.int .i64 (p1.Batch),.int .i64 (p1.Night),.int .i64 (p1.Known),.int .i64 (p1.Until)]),(7,.cells [roL 6 zab p3.Looks,.int .i64 (p3.Known)]),(9,.cells [.int .i64 (y1.Good),.int .i64 (y1.Bad)]),(12,.cells [.int .i64 (y7.Lo),.int .i64 (y7.Hi)]),(13,.cells [.int .i64 (y9.Lo),.int .i64 (y9.Hi)])]) (fun s11 H=>?_) (fun k11 H hK11=>?_)
     · refine W.rg env [4,5,7,9,13,14,15] [4,5,7,9,13] ?_
       refine W.seq ?_
       refine W.rg env [4,5,7,9,13,14,15,81] [4,5,7,9,13] ?_
       refine W.zhn H (fun (s12:Bool)=>[(14,.bool (s11)),(15,.bool (s12))]) (fun (s12:Bool)=>[]) (fun s12 H=>?_) (fun k12 H hK12=>?_)
       · refine W.seq ?_
         refine W.sr env [] [] [14,100] [] rfl rfl rfl (.cons id .nil) .nil ?_
         refine W.cond rfl (fun hb13=>?_) (fun hb13=>?_)
         · have H:=zal H hb13
           refine W.rg env [8] [] ?_
           refine W.ret ?_
           refine At.rthen ?_
           cases H
           exact At.ret env.ty rfl rfl nofun (.refl _) hval
         · have H:=zaj H hb13
           refine W.skip ?_
           refine At.zai ?_
           refine W.seq ?_
           refine W.rg env [101] [] ?_
           refine W.cond rfl (fun hb14=>?_) (fun hb14=>?_)
           · have H:=zal H hb14
             refine W.rg env [8] [] ?_
             refine W.ret ?_
             refine At.rthen ?_
             cases H
             exact At.ret env.ty rfl rfl nofun (.refl _) hval
           · have H:=zaj H hb14
             refine W.skip ?_
             refine At.zai ?_
             refine W.rg env [8] [] ?_
             refine W.ret ?_
             cases H
             exact At.ret env.ty rfl rfl nofun (.refl _) hval
       · refine W.cond rfl (fun hb15=>?_) (fun hb15=>?_)
         · have H:=zal H hb15
           obtain ⟨y16,hy17,H⟩:=zah H
           refine W.region env [] [⟨.agg [.int .i64 (y16.Lo),.int .i64 (y16.Hi)],[],0,[]⟩] rfl rfl (by kernel_rfl) (.cons id (.cons id (.cons id (.cons id (.cons id (.cons id (.cons id (.cons id (.cons id (.cons id (.cons id (.cons id .nil)))))))))))) (.on (fun hW=>zbD fuel p0 p1 (⟨y1.Bad,p3.Known⟩:(Arr2 Int)) (zal hy17 hW)) .nil) (At.keep (ts:=[14,15]) (ids:=[]) rfl rfl ?_)
           refine At.zaE (At.keep (ts:=[14,15]) (ids:=[]) rfl rfl ?_)
           exact At.conv (.cons .q (.cons .q .nil)) .nil (hK12 ((decide (y9.Lo≤y7.Hi)) && (decide (y9.Hi<y16.Hi))) H)
         · have H:=zaj H hb15
           refine W.skip ?_
           refine At.zaE (At.keep (ts:=[14,15]) (ids:=[]) rfl rfl ?_)
           exact At.conv (.cons .q (.cons .q .nil)) .nil (hK12 (decide (y9.Lo≤y7.Hi)) H)
     · refine W.cond rfl (fun hb18=>?_) (fun hb18=>?_)
       · have H:=zal H hb18
         obtain ⟨y19,hy20,H⟩:=zah H
         refine W.region env [] [⟨.agg [.int .i64 (y19.Lo),.int .i64 (y19.Hi)],[],0,[]⟩] rfl rfl (by kernel_rfl) (.cons id (.cons id (.cons id (.cons id (.cons id (.cons id (.cons id (.cons id (.cons id (.cons id (.cons id (.cons id .nil)))))))))))) (.on (fun hW=>zbD fuel p0 p1 (⟨y1.Good,p3.Known⟩:(Arr2 Int)) (zal hy20 hW)) .nil) (At.keep (ts:=[4,5,7,9,12,13,14]) (ids:=[4,5,7,9,12,13]) rfl rfl ?_)
         refine At.zaE (At.keep (ts:=[4,5,7,9,12,13,14]) (ids:=[4,5,7,9,12,13]) rfl rfl ?_)
         exact At.conv (.cons .q (.cons .q (.cons .q (.cons .q (.cons .q (.cons .q (.cons .q .nil))))))) (.cons .q (.cons .q (.cons .q (.cons .q (.cons .q (.cons .q .nil)))))) (hK11 ((decide (y7.Lo<y9.Hi)) && (decide (y19.Hi<y9.Hi))) H)
       · have H:=zaj H hb18
         refine W.skip ?_
         refine At.zaE (At.keep (ts:=[4,5,7,9,12,13,14]) (ids:=[4,5,7,9,12,13]) rfl rfl ?_)
         exact At.conv (.cons .q (.cons .q (.cons .q (.cons .q (.cons .q (.cons .q (.cons .q .nil))))))) (.cons .q (.cons .q (.cons .q (.cons .q (.cons .q (.cons .q .nil)))))) (hK11 (decide (y7.Lo<y9.Hi)) H)
theorem zgk (fuel:Nat) (p0:Wear) (p1:gasolierref06_When) {r:(Int×Int)} (H:zbc fuel p0 p1=some r):Ctr Tryz.prog 39 [.agg [roL 3 zac p0.Batches,roL 6 zaa p0.Mantles,roL 7 zaf p0.Burns,roL 6 zab p0.Looks],.agg [.int .i64 (p1.Lamp),.int .i64 (p1.Night),.int .i64 (p1.Known)]] (.tup [.int .i64 (r.1),.int .i64 (r.2)]):=by
 unfold zbc at H
 refine Ctr.zao (N:=32) Tryz.func39 (by kernel_rfl) (c:=_) rfl Tryz.ntmps39 rfl (fun w0 h0 hval=>?_)
 refine W.rg env [2,3] [2,3] ?_
 refine W.seq ?_
 obtain ⟨y1,hy2,H⟩:=zah H
 refine W.region env [] [⟨.tup [.agg [.int .i64 (y1.1.Source),.int .i64 (y1.1.Lamp),.int .i64 (y1.1.Batch),.int .i64 (y1.1.Night),.int .i64 (y1.1.Known),.int .i64 (y1.1.Until)],.int .i64 (y1.2)],[],0,[]⟩] rfl rfl rfl .nil (.free (zcK fuel p0 p1 hy2) .nil) (At.keep (ts:=[2,3,6,7]) (ids:=[2,3,6]) rfl rfl ?_)
 refine At.zai ?_
 refine W.seq ?_
 refine W.rg env [2,3,6,7,16] [2,3,6] ?_
 refine W.cond rfl (fun hb3=>?_) (fun hb3=>?_)
 · have H:=zal H hb3
   refine W.rg env [4,5] [] ?_
   refine W.ret ?_
   refine At.rthen ?_
   cases H
   exact At.ret env.ty rfl rfl nofun (.refl _) hval
 · have H:=zaj H hb3
   refine W.skip ?_
   refine At.zai ?_
   refine W.seq ?_
   obtain ⟨y4,hy5,H⟩:=zah H
   refine W.region env [] [⟨.agg [roL 6 zab y4.Looks,.int .i64 (y4.Known)],[],0,[]⟩] rfl rfl rfl .nil (.free (zgL fuel p0 p1.Known hy5) .nil) (At.keep (ts:=[2,3,6,8]) (ids:=[2,3,6,8]) rfl rfl ?_)
   refine At.zai ?_
   refine W.seq ?_
   refine W.seq ?_
   obtain ⟨y6,hy7,H⟩:=zah H
   refine W.region env [] [⟨.bool (y6),[],0,[]⟩] rfl rfl rfl .nil (.free (zgh fuel p0 y4 hy7) .nil) (At.keep (ts:=[2,3,6,8,25]) (ids:=[2,3,6,8]) rfl rfl ?_)
   refine At.zai ?_
   refine W.cond rfl (fun hb8=>?_) (fun hb8=>?_)
   · have H:=zal H hb8
     refine W.rg env [4,5] [] ?_
     refine W.ret ?_
     refine At.rthen ?_
     cases H
     exact At.ret env.ty rfl rfl nofun (.refl _) hval
   · have H:=zaj H hb8
     refine W.skip ?_
     refine At.zai ?_
     refine W.seq ?_
     obtain ⟨y9,hy10,H⟩:=zah H
     refine W.region env [] [⟨.int .i64 (y9),[],0,[]⟩] rfl rfl rfl .nil (.free (zgg fuel p0 y1.1 p1.Night y4 hy10) .nil) (At.keep (ts:=[4,5]) (ids:=[]) rfl rfl ?_)
     refine At.zai ?_
     refine W.ret ?_
     cases H
     exact At.ret env.ty rfl rfl nofun (.refl _) hval
theorem zeE (fuel:Nat) (p0:Wear) (p1:gasolierref06_When) {r:Bool} (H:za0 fuel p0 p1=some r):Ctr Tryz.prog 5 [.agg [roL 3 zac p0.Batches,roL 6 zaa p0.Mantles,roL 7 zaf p0.Burns,roL 6 zab p0.Looks],.agg [.int .i64 (p1.Lamp),.int .i64 (p1.Night),.int .i64 (p1.Known)]] (.bool (r)):=by
 unfold za0 at H
 refine Ctr.zao (N:=101) Tryz.func5 (by kernel_rfl) (c:=_) rfl Tryz.ntmps5 rfl (fun w0 h0 hval=>?_)
 refine W.rg env [2,3] [2,3] ?_
 refine W.seq ?_
 obtain ⟨y1,hy2,H⟩:=zah H
 refine W.region env [] [⟨.bool (y1),[],0,[]⟩] rfl rfl rfl .nil (.free (zgM 20000 hy2) .nil) (At.keep (ts:=[2,3,5]) (ids:=[2,3]) rfl rfl ?_)
 refine At.zai ?_
 refine W.seq ?_
 obtain ⟨y3,hy4,H⟩:=zah H
 refine W.region env [] [⟨.tup [.int .i64 (y3.1),.int .i64 (y3.2)],[],0,[]⟩] rfl rfl rfl .nil (.free (zjq p0 p1.Lamp p1.Night p1.Known hy4) .nil) (At.keep (ts:=[2,3,5,6,7]) (ids:=[2,3]) rfl rfl ?_)
 refine At.zai ?_
 refine W.seq ?_
 obtain ⟨y5,hy6,H⟩:=zah H
 refine W.region env [] [⟨.tup [.int .i64 (y5.1),.int .i64 (y5.2)],[],0,[]⟩] rfl rfl rfl .nil (.free (zfF fuel p0 p1 hy6) .nil) (At.keep (ts:=[2,3,5,6,7,8,9]) (ids:=[2,3]) rfl rfl ?_)
 refine At.zai ?_
 refine W.seq ?_
 obtain ⟨y7,hy8,H⟩:=zah H
 refine W.region env [] [⟨.tup [.agg [.int .i64 (y7.1.Lo),.int .i64 (y7.1.Hi)],.int .i64 (y7.2)],[],0,[]⟩] rfl rfl rfl .nil (.free (zih fuel p0 p1.Lamp p1.Night p1.Known hy8) .nil) (At.keep (ts:=[2,3,5,6,7,8,9,10,11]) (ids:=[2,3,10]) rfl rfl ?_)
 refine At.zai ?_
 refine W.seq ?_
 obtain ⟨y9,hy10,H⟩:=zah H
 refine W.region env [] [⟨.tup [.agg [.int .i64 (y9.1.Lo),.int .i64 (y9.1.Hi)],.int .i64 (y9.2)],[],0,[]⟩] rfl rfl rfl .nil (.free (zhb fuel p0 p1 hy10) .nil) (At.keep (ts:=[2,3,5,6,7,8,9,10,11,12,13]) (ids:=[2,3,10,12]) rfl rfl ?_)
 refine At.zai ?_
 refine W.seq ?_
 obtain ⟨y11,hy12,H⟩:=zah H
 refine W.region env [] [⟨.tup [.int .i64 (y11.1),.int .i64 (y11.2)],[],0,[]⟩] rfl rfl rfl .nil (.free (zeS fuel p0 p1.Lamp p1.Night p1.Known hy12) .nil) (At.keep (ts:=[2,3,5,6,7,8,9,10,11,12,13,14,15]) (ids:=[2,3,10,12]) rfl rfl ?_)
 refine At.zai ?_
 refine W.seq ?_
 obtain ⟨y13,hy14,H⟩:=zah H
 refine W.region env [] [⟨.tup [.int .i64 (y13.1),.int .i64 (y13.2)],[],0,[]⟩] rfl rfl rfl .nil (.free (zgk fuel p0 p1 hy14) .nil) (At.keep (ts:=[5,6,7,8,9,10,11,12,13,14,15,16,17]) (ids:=[10,12]) rfl rfl ?_)
 refine At.zai ?_
 refine W.sr env [] [] [4] [] rfl rfl rfl (.cons id (.cons id (.cons id (.cons id (.cons id (.cons id (.cons id (.cons id (.cons id (.cons id (.cons id (.cons id (.cons id (.cons id (.cons id (.cons id (.cons id (.cons id .nil)))))))))))))))))) .nil ?_
 refine W.ret ?_
 cases H
 exact At.ret env.ty rfl rfl nofun (.refl _) hval
end Go.Sp
