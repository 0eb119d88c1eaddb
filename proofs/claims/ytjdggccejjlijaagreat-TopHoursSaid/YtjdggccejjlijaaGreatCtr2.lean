/- Printed by gen.py: contracts, part 2. -/
import Derived.Test.YtjdggccejjlijaaGreatCtr1
set_option linter.all false
set_option maxRecDepth 100000
set_option maxHeartbeats 1000000
namespace Go.Sp
open Go Go.Av Go.Proofs
theorem zgp (fuel:Nat) (p0:gasoliertop_Winter) {r:(Wear×Lives×Bool)} (H:zb7 fuel p0=some r):Ctr Tryz.prog 5 [.agg [roL 2 za0 p0.Nights,roL 1 zaa p0.Batch,roL 3 zcD p0.Lives,roL 1 zaa p0.Burnt,roL 2 za0 p0.Looks,.int .i64 (p0.Many)]] (.tup [.agg (zav r.1),.agg [roL 1 zaa r.2.1.Lives,roL 1 zaa r.2.1.Minutes],.bool (r.2.2)]):=by
 unfold zb7 at H
 refine Ctr.ob Tryz.func5 Tryz.ntmps5 (fun w0 h0 hval=>?_)
 refine W.rg env [1,2,3] [1,2,3] ?_
 refine W.rg env [1,2,3,5] [1,2,3,5] ?_
 refine W.rg env [1,2,3,5,6] [1,2,3,5,6] ?_
 refine W.seq (W.rg env [1,2,3,5,6,7] [1,2,3,5,6] ?_)
 refine W.block (At.zer 5 0 850 63 3 (e:=fun i=>zaA (([]:List Batch).getD i default)) rfl rfl rfl ?_)
 refine At.zer 6 0 900 3 1 (e:=fun i=>zaa (([]:List Int).getD i default)) rfl rfl rfl ?_
 refine At.kp [1,2,3,5,6,7] [1,2,3,5,6,850,900] ?_
 refine W.loopGo H (fun (s1:Int×(List Batch)×(List Int))=>[(1,.lp 1 0),(2,.lp 2 0),(3,.lp 3 0),(5,.lp 5 0),(6,.lp 6 0),(7,.int .i64 (s1.1))]) (fun (s1:Int×(List Batch)×(List Int))=>[(1,.cells [roL 2 za0 p0.Nights,roL 1 zaa p0.Batch,roL 3 zcD p0.Lives,roL 1 zaa p0.Burnt,roL 2 za0 p0.Looks,.int .i64 (p0.Many)]),(2,.cells [.nilS,.nilS,.nilS,.nilS]),(3,.cells [.nilS,.nilS]),(5,.cells [.buf 850 (s1.2.1).length,.nilS,.nilS,.nilS]),(6,.cells [.buf 900 (s1.2.2).length,.nilS]),(850,bufL 63 3 zaA s1.2.1),(900,bufL 3 1 zaa s1.2.2)]) (.cons .q (.cons .q (.cons .q (.cons .q (.cons .q (.cons .qi .nil)))))) (.cons .q (.cons (BSim.cells (.cons Sim.o (.cons Sim.o (.cons Sim.o (.cons Sim.o .nil))))) (.cons (BSim.cells (.cons Sim.o (.cons Sim.o .nil))) (.cons (BSim.cells (.cons .qc (.cons Sim.o (.cons Sim.o (.cons Sim.o .nil))))) (.cons (BSim.cells (.cons .qc (.cons Sim.o .nil))) (.cons .q (.cons .q .nil))))))) (fun k1 s1 H K0 hK1=>?_)
 refine W.seq (W.rg env [1,2,3,5,6,7,28] [1,2,3,5,6,850,900] ?_)
 refine W.co H rfl (fun hb2 H=>?_) (fun hb2 H=>?_)
 · refine W.skip (At.zad (W.seq (W.block (W.rg env [1,2,3,5,6,7,8] [1,2,3,5,6,8,850,900] ?_))))
   refine W.seq (W.rg env [1,2,3,5,6,7,8,36] [1,2,3,5,6,8,850,900] ?_)
   refine W.zkK H (fun (s3:(Arr3 Int))=>[(1,.lp 1 0),(2,.lp 2 0),(3,.lp 3 0),(5,.lp 5 0),(6,.lp 6 0),(7,.int .i64 (s1.1)),(8,.lp 8 0)]) (fun (s3:(Arr3 Int))=>[(1,.cells [roL 2 za0 p0.Nights,roL 1 zaa p0.Batch,roL 3 zcD p0.Lives,roL 1 zaa p0.Burnt,roL 2 za0 p0.Looks,.int .i64 (p0.Many)]),(2,.cells [.nilS,.nilS,.nilS,.nilS]),(3,.cells [.nilS,.nilS]),(5,.cells [.buf 850 (s1.2.1).length,.nilS,.nilS,.nilS]),(6,.cells [.buf 900 (s1.2.2).length,.nilS]),(8,.cells [.int .i64 (s3.x0),.int .i64 (s3.x1),.int .i64 (s3.x2)]),(850,bufL 63 3 zaA s1.2.1),(900,bufL 3 1 zaa s1.2.2)]) (fun s3 H=>?_) (fun k3 H hK3=>?_)
   · refine W.seq ?_
     obtain ⟨y4,hy5,H⟩:=zac H
     refine W.region env [] [⟨.int .i64 (y4),[],0,[]⟩] rfl rfl rfl (.cons (by decide) .nil) (.free (zaF s3.x0 3000 hy5) .nil) (At.kp [1,2,3,5,6,7,8,9] [1,2,3,5,6,8,850,900] ?_)
     refine At.zad (W.seq ?_)
     obtain ⟨y6,hy7,H⟩:=zac H
     obtain ⟨hc8,H⟩:=zab H
     refine W.region env [] [⟨.int .i64 (y6),[],0,[]⟩] rfl rfl rfl (.cons (by decide) (.cons hc8 .nil)) (.free (zaF s3.x1 2000 hy7) .nil) (At.kp [1,2,3,5,6,7,8,9,10] [1,2,3,5,6,8,850,900] ?_)
     refine At.zad (W.seq ?_)
     obtain ⟨hc9,H⟩:=zab H
     obtain ⟨hc10,H⟩:=zab H
     refine W.region env [] [] rfl rfl rfl (.cons hc9 (.cons (rmI hc10) .nil)) .nil (At.kp [1,2,3,5,6,7,8,9,10] [1,2,3,5,6,8,850,900] ?_)
     refine At.zbY (.cons (.refl _) (.cons (.refl _) (.cons (.refl _) (.cons (.refl _) (.cons (.refl _) (.cons (.refl _) (.cons (y:=bufL 63 3 zaA (s1.2.1++([(⟨(1+s1.1),(⟨y4,(y4+y6)⟩:Range)⟩:Batch)]:List Batch))) (BSim.seg (Seg.push (Seg.refl zaA _) (Seg.lit (f:=zaA) (sz:=3) ([(⟨(1+s1.1),(⟨y4,(y4+y6)⟩:Range)⟩:Batch)]:List Batch) rfl rfl (fun _=>rfl)))) (.cons (.refl _) .nil)))))))) ?_
     refine At.zad ?_
     obtain ⟨hc11,H⟩:=zab H
     obtain ⟨hc12,H⟩:=zab H
     obtain ⟨y13,hy14,H⟩:=zac H
     obtain ⟨hc15,H⟩:=zab H
     obtain ⟨hc16,H⟩:=zab H
     refine W.region env [] [⟨.int .i64 (y13),[],0,[]⟩] rfl rfl (by kernel_rfl) (.cons (by decide) (.cons hc11 (.cons hc12 (.cons hc15 (.cons (rmI hc16) .nil))))) (.free (zaF s3.x2 (((y4+y6) - y4)+1) hy14) .nil) (At.kp [1,2,3,5,6,7] [1,2,3,5,6,850,900] ?_)
     refine At.zbY (.cons (.refl _) (.cons (.refl _) (.cons (.refl _) (.cons (.refl _) (.cons (.refl _) (.cons (.refl _) (.cons (y:=bufL 3 1 zaa (s1.2.2++([(y4+y13)]:List Int))) (BSim.seg (Seg.push (Seg.refl zaa _) (Seg.lit (f:=zaa) (sz:=1) ([(y4+y13)]:List Int) rfl rfl (fun _=>rfl)))) .nil))))))) ?_
     refine At.inb (At.zad ?_)
     obtain ⟨hc17,H⟩:=zab H
     refine W.r1 env hc17 [1,2,3,5,6,7] [1,2,3,5,6,850,900] ?_
     refine At.zaG (At.kp [1,2,3,5,6,7] [1,2,3,5,6,850,900] ?_)
     exact At.conv (.cons .q (.cons .q (.cons .q (.cons .q (.cons .q (.cons .qi .nil)))))) (.cons .q (.cons (BSim.cells (.cons Sim.o (.cons Sim.o (.cons Sim.o (.cons Sim.o .nil))))) (.cons (BSim.cells (.cons Sim.o (.cons Sim.o .nil))) (.cons (BSim.cells (.cons .qc (.cons Sim.o (.cons Sim.o (.cons Sim.o .nil))))) (.cons (BSim.cells (.cons .qc (.cons Sim.o .nil))) (.cons .q (.cons .q .nil))))))) (hK1 ((s1.1+1),(s1.2.1++([(⟨(1+s1.1),(⟨y4,(y4+y6)⟩:Range)⟩:Batch)]:List Batch)),(s1.2.2++([(y4+y13)]:List Int))) H)
   · refine W.co H rfl (fun hb18 H=>?_) (fun hb18 H=>?_)
     · obtain ⟨hc19,H⟩:=zab H
       refine W.r1 env hc19 [1,2,3,5,6,7,8] [1,2,3,5,6,8,850,900] ?_
       refine At.zaG (At.kp [1,2,3,5,6,7,8] [1,2,3,5,6,8,850,900] ?_)
       exact At.conv (.cons .q (.cons .q (.cons .q (.cons .q (.cons .q (.cons .qi (.cons .q .nil))))))) (.cons .q (.cons (BSim.cells (.cons Sim.o (.cons Sim.o (.cons Sim.o (.cons Sim.o .nil))))) (.cons (BSim.cells (.cons Sim.o (.cons Sim.o .nil))) (.cons (BSim.cells (.cons .qc (.cons Sim.o (.cons Sim.o (.cons Sim.o .nil))))) (.cons (BSim.cells (.cons .qc (.cons Sim.o .nil))) (.cons .q (.cons .q (.cons .q .nil)))))))) (hK3 (p0.Lives.getD (s1.1).toNat default) H)
     · refine W.skip (At.zaG (At.kp [1,2,3,5,6,7,8] [1,2,3,5,6,8,850,900] ?_))
       exact At.conv (.cons .q (.cons .q (.cons .q (.cons .q (.cons .q (.cons .qi (.cons .q .nil))))))) (.cons .q (.cons (BSim.cells (.cons Sim.o (.cons Sim.o (.cons Sim.o (.cons Sim.o .nil))))) (.cons (BSim.cells (.cons Sim.o (.cons Sim.o .nil))) (.cons (BSim.cells (.cons .qc (.cons Sim.o (.cons Sim.o (.cons Sim.o .nil))))) (.cons (BSim.cells (.cons .qc (.cons Sim.o .nil))) (.cons .q (.cons .q (.cons .q .nil)))))))) (hK3 (⟨900,900,5⟩:(Arr3 Int)) H)
 · refine W.exit (At.xthen (At.xthen (At.xhere (At.zad (W.seq (W.region env [] [] rfl rfl rfl .nil .nil (At.kp [1,2,3,5,6,11] [1,2,3,5,6,11,850,900] ?_)))))))
   refine At.zbY (.cons (.refl _) (.cons (.refl _) (.cons (.refl _) (.cons (.refl _) (.cons (.refl _) (.cons (y:=.cells [roL 11 za7 ([(⟨1,1,0,(⟨0,40⟩:Range),(⟨5,50⟩:Range),1001,0,0,0⟩:Version)]:List Version),roL 5 zaU ([(⟨1,1,1,1,4⟩:Street)]:List Street)]) (BSim.cells (.cons (Sim.lit (f:=za7) ([(⟨1,1,0,(⟨0,40⟩:Range),(⟨5,50⟩:Range),1001,0,0,0⟩:Version)]:List Version) rfl rfl (fun _=>rfl)) (.cons (Sim.lit (f:=zaU) ([(⟨1,1,1,1,4⟩:Street)]:List Street) rfl rfl (fun _=>rfl)) .nil))) (.cons (.refl _) (.cons (.refl _) .nil)))))))) ?_
   refine At.zad (W.seq (W.rg env [1,2,3,5,6,11,12] [1,2,3,5,6,11,850,900] ?_))
   refine W.block (At.zer 5 1 851 65 6 (e:=fun i=>zau (([]:List Mantle).getD i default)) rfl rfl rfl ?_)
   refine At.kp [1,2,3,5,6,11,12] [1,2,3,5,6,11,850,851,900] ?_
   refine W.loopGo H (fun (s20:Int×(List Mantle))=>[(1,.lp 1 0),(2,.lp 2 0),(3,.lp 3 0),(5,.lp 5 0),(6,.lp 6 0),(11,.lp 11 0),(12,.int .i64 (s20.1))]) (fun (s20:Int×(List Mantle))=>[(1,.cells [roL 2 za0 p0.Nights,roL 1 zaa p0.Batch,roL 3 zcD p0.Lives,roL 1 zaa p0.Burnt,roL 2 za0 p0.Looks,.int .i64 (p0.Many)]),(2,.cells [.nilS,.nilS,.nilS,.nilS]),(3,.cells [.nilS,.nilS]),(5,.cells [.buf 850 (s1.2.1).length,.buf 851 (s20.2).length,.nilS,.nilS]),(6,.cells [.buf 900 (s1.2.2).length,.nilS]),(11,.cells [roL 11 za7 ([(⟨1,1,0,(⟨0,40⟩:Range),(⟨5,50⟩:Range),1001,0,0,0⟩:Version)]:List Version),roL 5 zaU ([(⟨1,1,1,1,4⟩:Street)]:List Street)]),(850,bufL 63 3 zaA s1.2.1),(851,bufL 65 6 zau s20.2),(900,bufL 3 1 zaa s1.2.2)]) (.cons .q (.cons .q (.cons .q (.cons .q (.cons .q (.cons .q (.cons .qi .nil))))))) (.cons .q (.cons (BSim.cells (.cons Sim.o (.cons Sim.o (.cons Sim.o (.cons Sim.o .nil))))) (.cons (BSim.cells (.cons Sim.o (.cons Sim.o .nil))) (.cons (BSim.cells (.cons .qc (.cons .qc (.cons Sim.o (.cons Sim.o .nil))))) (.cons (BSim.cells (.cons .qc (.cons Sim.o .nil))) (.cons .q (.cons .q (.cons .q (.cons .q .nil))))))))) (fun k20 s20 H K0 hK20=>?_)
   refine W.seq (W.rg env [1,2,3,5,6,11,12,83] [1,2,3,5,6,11,850,851,900] ?_)
   refine W.co H rfl (fun hb21 H=>?_) (fun hb21 H=>?_)
   · refine W.skip (At.zad (W.seq (W.block ?_)))
     obtain ⟨y22,hy23,H⟩:=zac H
     obtain ⟨y24,hy25,H⟩:=zac H
     obtain ⟨hc26,H⟩:=zab H
     obtain ⟨hc27,H⟩:=zab H
     refine W.region env [] [⟨.int .i64 (y22),[],0,[]⟩,⟨.int .i64 (y24),[],0,[]⟩] rfl rfl (by kernel_rfl) (.cons hc26 (.cons (rmI hc27) .nil)) (.free (zdH p0.Batch s20.1 hy23) (.free (zaF y22 2 hy25) .nil)) (At.kp [1,2,3,5,6,11,12] [1,2,3,5,6,11,850,851,900] ?_)
     refine At.zbY (.cons (.refl _) (.cons (.refl _) (.cons (.refl _) (.cons (.refl _) (.cons (.refl _) (.cons (.refl _) (.cons (.refl _) (.cons (y:=bufL 65 6 zau (s20.2++([(⟨s20.1,s20.1,(1+y24),0,0,0⟩:Mantle)]:List Mantle))) (BSim.seg (Seg.push (Seg.refl zau _) (Seg.lit (f:=zau) (sz:=6) ([(⟨s20.1,s20.1,(1+y24),0,0,0⟩:Mantle)]:List Mantle) rfl rfl (fun _=>rfl)))) (.cons (.refl _) .nil))))))))) ?_
     refine At.inb (At.zad ?_)
     obtain ⟨hc28,H⟩:=zab H
     refine W.r1 env hc28 [1,2,3,5,6,11,12] [1,2,3,5,6,11,850,851,900] ?_
     refine At.zaG (At.kp [1,2,3,5,6,11,12] [1,2,3,5,6,11,850,851,900] ?_)
     exact At.conv (.cons .q (.cons .q (.cons .q (.cons .q (.cons .q (.cons .q (.cons .qi .nil))))))) (.cons .q (.cons (BSim.cells (.cons Sim.o (.cons Sim.o (.cons Sim.o (.cons Sim.o .nil))))) (.cons (BSim.cells (.cons Sim.o (.cons Sim.o .nil))) (.cons (BSim.cells (.cons .qc (.cons .qc (.cons Sim.o (.cons Sim.o .nil))))) (.cons (BSim.cells (.cons .qc (.cons Sim.o .nil))) (.cons .q (.cons .q (.cons .q (.cons .q .nil))))))))) (hK20 ((s20.1+1),(s20.2++([(⟨s20.1,s20.1,(1+y24),0,0,0⟩:Mantle)]:List Mantle))) H)
   · refine W.exit (At.xthen (At.xthen (At.xhere (At.zad (W.seq (W.rg env [1,2,3,5,6,11,13] [1,2,3,5,6,11,850,851,900] ?_))))))
     refine W.block (At.zer 5 2 852 67 7 (e:=fun i=>zaL (([]:List Burn).getD i default)) rfl rfl rfl ?_)
     refine At.zer 6 1 901 3 1 (e:=fun i=>zaa (([]:List Int).getD i default)) rfl rfl rfl ?_
     refine At.kp [1,2,3,5,6,11,13] [1,2,3,5,6,11,850,851,852,900,901] ?_
     refine W.loopGo H (fun (s29:Int×(List Burn)×(List Int))=>[(1,.lp 1 0),(2,.lp 2 0),(3,.lp 3 0),(5,.lp 5 0),(6,.lp 6 0),(11,.lp 11 0),(13,.int .i64 (s29.1))]) (fun (s29:Int×(List Burn)×(List Int))=>[(1,.cells [roL 2 za0 p0.Nights,roL 1 zaa p0.Batch,roL 3 zcD p0.Lives,roL 1 zaa p0.Burnt,roL 2 za0 p0.Looks,.int .i64 (p0.Many)]),(2,.cells [.nilS,.nilS,.nilS,.nilS]),(3,.cells [.nilS,.nilS]),(5,.cells [.buf 850 (s1.2.1).length,.buf 851 (s20.2).length,.buf 852 (s29.2.1).length,.nilS]),(6,.cells [.buf 900 (s1.2.2).length,.buf 901 (s29.2.2).length]),(11,.cells [roL 11 za7 ([(⟨1,1,0,(⟨0,40⟩:Range),(⟨5,50⟩:Range),1001,0,0,0⟩:Version)]:List Version),roL 5 zaU ([(⟨1,1,1,1,4⟩:Street)]:List Street)]),(850,bufL 63 3 zaA s1.2.1),(851,bufL 65 6 zau s20.2),(852,bufL 67 7 zaL s29.2.1),(900,bufL 3 1 zaa s1.2.2),(901,bufL 3 1 zaa s29.2.2)]) (.cons .q (.cons .q (.cons .q (.cons .q (.cons .q (.cons .q (.cons .qi .nil))))))) (.cons .q (.cons (BSim.cells (.cons Sim.o (.cons Sim.o (.cons Sim.o (.cons Sim.o .nil))))) (.cons (BSim.cells (.cons Sim.o (.cons Sim.o .nil))) (.cons (BSim.cells (.cons .qc (.cons .qc (.cons .qc (.cons Sim.o .nil))))) (.cons (BSim.cells (.cons .qc (.cons .qc .nil))) (.cons .q (.cons .q (.cons .q (.cons .q (.cons .q (.cons .q .nil))))))))))) (fun k29 s29 H K0 hK29=>?_)
     refine W.seq (W.sr env [] [] [1,2,3,5,6,11,13,108] [1,2,3,5,6,11,850,851,852,900,901] rfl rfl rfl (.cons id (.cons id .nil)) .nil ?_)
     refine W.co H rfl (fun hb30 H=>?_) (fun hb30 H=>?_)
     · refine W.skip (At.zad (W.seq (W.block (W.seq ?_))))
       obtain ⟨hc31,H⟩:=zab H
       obtain ⟨y32,hy33,H⟩:=zac H
       obtain ⟨hc34,H⟩:=zab H
       refine W.region env [] [⟨.int .i64 (y32),[],0,[]⟩] rfl rfl rfl (.cons hc31 (.cons (by decide) (.cons hc34 .nil))) (.free (zaF ((p0.Nights.getD (s29.1).toNat default).x0) 100 hy33) .nil) (At.kp [1,2,3,5,6,11,13,14] [1,2,3,5,6,11,850,851,852,900,901] ?_)
       refine At.zad (W.seq ?_)
       obtain ⟨hc35,H⟩:=zab H
       obtain ⟨y36,hy37,H⟩:=zac H
       obtain ⟨hc38,H⟩:=zab H
       refine W.region env [] [⟨.int .i64 (y36),[],0,[]⟩] rfl rfl rfl (.cons hc35 (.cons (by decide) (.cons hc38 .nil))) (.free (zaF ((p0.Nights.getD (s29.1).toNat default).x1) 200 hy37) .nil) (At.kp [1,2,3,5,6,11,13,14,15] [1,2,3,5,6,11,850,851,852,900,901] ?_)
       refine At.zad (W.seq ?_)
       obtain ⟨hc39,H⟩:=zab H
       obtain ⟨hc40,H⟩:=zab H
       obtain ⟨y41,hy42,H⟩:=zac H
       obtain ⟨hc43,H⟩:=zab H
       obtain ⟨hc44,H⟩:=zab H
       obtain ⟨y45,hy46,H⟩:=zac H
       obtain ⟨hc47,H⟩:=zab H
       refine W.region env [] [⟨.int .i64 (y41),[],0,[]⟩,⟨.int .i64 (y45),[],0,[]⟩] rfl rfl (by kernel_rfl) (.cons hc39 (.cons hc40 (.cons (by decide) (.cons hc43 (.cons hc44 (.cons (by decide) (.cons hc47 .nil))))))) (.free (zaF ((p0.Nights.getD (s29.1).toNat default).x1) 9 hy42) (.free (zaF ((p0.Nights.getD (s29.1).toNat default).x0) 9 hy46) .nil)) (At.kp [1,2,3,5,6,11,13,16] [1,2,3,5,6,11,16,850,851,852,900,901] ?_)
       refine At.zad (W.rg env [1,2,3,5,6,11,13,16,17] [1,2,3,5,6,11,16,850,851,852,900,901] ?_)
       refine W.block (At.kp [1,2,3,5,6,11,13,16,17] [1,2,3,5,6,11,16,850,851,852,900,901] ?_)
       refine W.loopGo H (fun (s48:Int×(List Burn)×(List Int))=>[(1,.lp 1 0),(2,.lp 2 0),(3,.lp 3 0),(5,.lp 5 0),(6,.lp 6 0),(11,.lp 11 0),(13,.int .i64 (s29.1)),(16,.lp 16 0),(17,.int .i64 (s48.1))]) (fun (s48:Int×(List Burn)×(List Int))=>[(1,.cells [roL 2 za0 p0.Nights,roL 1 zaa p0.Batch,roL 3 zcD p0.Lives,roL 1 zaa p0.Burnt,roL 2 za0 p0.Looks,.int .i64 (p0.Many)]),(2,.cells [.nilS,.nilS,.nilS,.nilS]),(3,.cells [.nilS,.nilS]),(5,.cells [.buf 850 (s1.2.1).length,.buf 851 (s20.2).length,.buf 852 (s48.2.1).length,.nilS]),(6,.cells [.buf 900 (s1.2.2).length,.buf 901 (s48.2.2).length]),(11,.cells [roL 11 za7 ([(⟨1,1,0,(⟨0,40⟩:Range),(⟨5,50⟩:Range),1001,0,0,0⟩:Version)]:List Version),roL 5 zaU ([(⟨1,1,1,1,4⟩:Street)]:List Street)]),(16,.cells [.int .i64 ((1+s29.1)),.int .i64 ((250+y32)),.int .i64 (((250+y32)+y41)),.int .i64 ((900+y36)),.int .i64 (((900+y36)+y45)),.int .i64 (0),.int .i64 (0),.int .i64 (0)]),(850,bufL 63 3 zaA s1.2.1),(851,bufL 65 6 zau s20.2),(852,bufL 67 7 zaL s48.2.1),(900,bufL 3 1 zaa s1.2.2),(901,bufL 3 1 zaa s48.2.2)]) (.cons .q (.cons .q (.cons .q (.cons .q (.cons .q (.cons .q (.cons .qi (.cons .q (.cons .qi .nil))))))))) (.cons .q (.cons (BSim.cells (.cons Sim.o (.cons Sim.o (.cons Sim.o (.cons Sim.o .nil))))) (.cons (BSim.cells (.cons Sim.o (.cons Sim.o .nil))) (.cons (BSim.cells (.cons .qc (.cons .qc (.cons .qc (.cons Sim.o .nil))))) (.cons (BSim.cells (.cons .qc (.cons .qc .nil))) (.cons .q (.cons .q (.cons .q (.cons .q (.cons .q (.cons .q (.cons .q .nil)))))))))))) (fun k48 s48 H K0 hK48=>?_)
       refine W.seq (W.rg env [1,2,3,5,6,11,13,16,17,153] [1,2,3,5,6,11,16,850,851,852,900,901] ?_)
       refine W.co H rfl (fun hb49 H=>?_) (fun hb49 H=>?_)
       · refine W.skip (At.zad (W.seq (W.block (W.seq ?_))))
         obtain ⟨y50,hy51,H⟩:=zac H
         refine W.region env [] [⟨.tup [.agg [.int .i64 (y50.1.Lo),.int .i64 (y50.1.Hi)],.int .i64 (y50.2)],[],0,[]⟩] rfl rfl rfl .nil (.free (zmb (⟨([(⟨1,1,0,(⟨0,40⟩:Range),(⟨5,50⟩:Range),1001,0,0,0⟩:Version)]:List Version),([(⟨1,1,1,1,4⟩:Street)]:List Street)⟩:Bylaw) s48.1 (⟨(1+s29.1),(⟨(250+y32),((250+y32)+y41)⟩:Range),(⟨(900+y36),((900+y36)+y45)⟩:Range),(⟨0,0⟩:Range),0⟩:Night) 0 hy51) .nil) (At.kp [1,2,3,5,6,11,13,16,17,18,19] [1,2,3,5,6,11,16,18,850,851,852,900,901] ?_)
         refine At.zad (W.seq ?_)
         obtain ⟨y52,hy53,H⟩:=zac H
         refine W.region env [] [⟨.tup [.agg [.int .i64 (y52.1.Lit),.int .i64 (y52.1.On.Lo),.int .i64 (y52.1.On.Hi),.int .i64 (y52.1.Off.Lo),.int .i64 (y52.1.Off.Hi)],.int .i64 (y52.2)],[],0,[]⟩] rfl rfl rfl .nil (.free (zjj (⟨([(⟨1,1,0,(⟨0,40⟩:Range),(⟨5,50⟩:Range),1001,0,0,0⟩:Version)]:List Version),([(⟨1,1,1,1,4⟩:Street)]:List Street)⟩:Bylaw) s48.1 (⟨(1+s29.1),(⟨(250+y32),((250+y32)+y41)⟩:Range),(⟨(900+y36),((900+y36)+y45)⟩:Range),(⟨0,0⟩:Range),0⟩:Night) 0 hy53) .nil) (At.kp [1,2,3,5,6,11,13,16,17,18,19,20,21] [1,2,3,5,6,11,16,18,20,850,851,852,900,901] ?_)
         refine At.zad (W.seq (W.sr env [] [] [1,2,3,5,6,11,13,16,17,18,20,182] [1,2,3,5,6,11,16,18,20,850,851,852,900,901] rfl rfl rfl (.cons id (.cons (fun h=>by rw [h];rfl) (.cons id (.cons id (.cons id (.cons id (.cons (fun h=>by rw [h];rfl) .nil))))))) .nil ?_))
         refine W.co H rfl (fun hb54 H=>?_) (fun hb54 H=>?_)
         · refine W.sr env [] [] [2,3,4] [2,3,850,851,852,900,901] rfl rfl (by first|rfl|kernel_rfl) .nil .nil ?_
           refine W.ret (At.rthen ?_)
           refine At.rinb ?_
           refine At.rthen ?_
           refine At.rthen ?_
           refine At.rinb ?_
           refine At.rinb ?_
           refine At.rthen ?_
           refine At.rthen ?_
           refine At.rinb ?_
           refine At.rthen ?_
           cases H
           exact At.ret env.ty rfl rfl (fun q hq=>by cases hq;exact (by (repeat' apply And.intro) <;> first|rfl|(simp;done)|omega|(simp;omega))) (Sim.tupL (.cons (Sim.aggL (.cons (.refl _) (.cons (.refl _) (.cons (.refl _) (.cons (Sim.nil _ _) .nil))))) (.cons (.refl _) (.cons (.refl _) .nil)))) hval
         · refine W.skip (At.zad (W.sr env [] [] [1,2,3,5,6,11,13,16,17,18,20,22] [1,2,3,5,6,11,16,18,20,850,851,852,900,901] rfl rfl rfl (.cons (by first|rfl|(simp;done)|omega|(simp;omega)) .nil) .nil ?_))
           refine W.seq ?_
           obtain ⟨y55,hy56,H⟩:=zac H
           obtain ⟨hc57,H⟩:=zab H
           obtain ⟨hc58,H⟩:=zab H
           obtain ⟨y59,hy60,H⟩:=zac H
           obtain ⟨hc61,H⟩:=zab H
           refine W.region env [] [⟨.int .i64 (y55),[],0,[]⟩,⟨.int .i64 (y59),[],0,[]⟩] rfl rfl (by kernel_rfl) (.cons hc57 (.cons hc58 (.cons hc61 .nil))) (.free (zdH p0.Burnt ((s48.2.1.length:Nat):Int) hy56) (.free (zaF y55 ((y52.1.On.Hi - y52.1.On.Lo)+1) hy60) .nil)) (At.kp [1,2,3,5,6,11,13,16,17,18,20,22,23] [1,2,3,5,6,11,16,18,20,850,851,852,900,901] ?_)
           refine At.zad (W.seq ?_)
           obtain ⟨hc62,H⟩:=zab H
           obtain ⟨y63,hy64,H⟩:=zac H
           obtain ⟨hc65,H⟩:=zab H
           obtain ⟨hc66,H⟩:=zab H
           obtain ⟨y67,hy68,H⟩:=zac H
           obtain ⟨hc69,H⟩:=zab H
           refine W.region env [] [⟨.int .i64 (y63),[],0,[]⟩,⟨.int .i64 (y67),[],0,[]⟩] rfl rfl (by kernel_rfl) (.cons hc62 (.cons hc65 (.cons hc66 (.cons hc69 .nil)))) (.free (zdH p0.Burnt (((s48.2.1.length:Nat):Int)+1) hy64) (.free (zaF y63 ((y52.1.Off.Hi - y52.1.Off.Lo)+1) hy68) .nil)) (At.kp [1,2,3,5,6,11,13,16,17,18,22,23,24] [1,2,3,5,6,11,16,18,850,851,852,900,901] ?_)
           refine At.zad (W.seq ?_)
           obtain ⟨hc70,H⟩:=zab H
           obtain ⟨hc71,H⟩:=zab H
           refine W.sr env [] [] [1,2,3,5,6,11,13,16,17,18,22,23,24,236] [1,2,3,5,6,11,16,18,850,851,852,900,901] rfl rfl rfl (.cons hc70 (.cons hc71 (.cons id (.cons id (.cons id (.cons id (.cons id (.cons (fun h=>by rw [h];rfl) .nil)))))))) .nil ?_
           refine W.co H rfl (fun hb72 H=>?_) (fun hb72 H=>?_)
           · refine W.sr env [] [] [2,3,4] [2,3,850,851,852,900,901] rfl rfl (by first|rfl|kernel_rfl) .nil .nil ?_
             refine W.ret (At.rthen ?_)
             refine At.rinb ?_
             refine At.rthen ?_
             refine At.rthen ?_
             refine At.rinb ?_
             refine At.rinb ?_
             refine At.rthen ?_
             refine At.rthen ?_
             refine At.rinb ?_
             refine At.rthen ?_
             cases H
             exact At.ret env.ty rfl rfl (fun q hq=>by cases hq;exact (by (repeat' apply And.intro) <;> first|rfl|(simp;done)|omega|(simp;omega))) (Sim.tupL (.cons (Sim.aggL (.cons (.refl _) (.cons (.refl _) (.cons (.refl _) (.cons (Sim.nil _ _) .nil))))) (.cons (.refl _) (.cons (.refl _) .nil)))) hval
           · refine W.skip (At.zad (W.seq ?_))
             obtain ⟨hc73,H⟩:=zab H
             obtain ⟨hc74,H⟩:=zab H
             refine W.region env [] [] rfl rfl rfl (.cons hc73 (.cons (rmI hc74) .nil)) .nil (At.kp [1,2,3,5,6,11,13,16,17,23,24] [1,2,3,5,6,11,16,850,851,852,900,901] ?_)
             refine At.zbY (.cons (.refl _) (.cons (.refl _) (.cons (.refl _) (.cons (.refl _) (.cons (.refl _) (.cons (.refl _) (.cons (.refl _) (.cons (.refl _) (.cons (.refl _) (.cons (y:=bufL 67 7 zaL (s48.2.1++([(⟨(10+((s48.2.1.length:Nat):Int)),s48.1,(1+s29.1),y50.1,0,0⟩:Burn)]:List Burn))) (BSim.seg (Seg.push (Seg.refl zaL _) (Seg.lit (f:=zaL) (sz:=7) ([(⟨(10+((s48.2.1.length:Nat):Int)),s48.1,(1+s29.1),y50.1,0,0⟩:Burn)]:List Burn) rfl rfl (fun _=>rfl)))) (.cons (.refl _) (.cons (.refl _) .nil)))))))))))) ?_
             refine At.zad ?_
             obtain ⟨hc75,H⟩:=zab H
             obtain ⟨hc76,H⟩:=zab H
             refine W.region env [] [] rfl rfl rfl (.cons hc75 (.cons (rmI hc76) .nil)) .nil (At.kp [1,2,3,5,6,11,13,16,17] [1,2,3,5,6,11,16,850,851,852,900,901] ?_)
             refine At.zbY (.cons (.refl _) (.cons (.refl _) (.cons (.refl _) (.cons (.refl _) (.cons (.refl _) (.cons (.refl _) (.cons (.refl _) (.cons (.refl _) (.cons (.refl _) (.cons (.refl _) (.cons (.refl _) (.cons (y:=bufL 3 1 zaa (s48.2.2++([((y52.1.Off.Lo+y67) - (y52.1.On.Lo+y59))]:List Int))) (BSim.seg (Seg.push (Seg.refl zaa _) (Seg.lit (f:=zaa) (sz:=1) ([((y52.1.Off.Lo+y67) - (y52.1.On.Lo+y59))]:List Int) rfl rfl (fun _=>rfl)))) .nil)))))))))))) ?_
             refine At.inb (At.zad ?_)
             obtain ⟨hc77,H⟩:=zab H
             refine W.r1 env hc77 [1,2,3,5,6,11,13,16,17] [1,2,3,5,6,11,16,850,851,852,900,901] ?_
             refine At.zaG (At.kp [1,2,3,5,6,11,13,16,17] [1,2,3,5,6,11,16,850,851,852,900,901] ?_)
             exact At.conv (.cons .q (.cons .q (.cons .q (.cons .q (.cons .q (.cons .q (.cons .qi (.cons .q (.cons .qi .nil))))))))) (.cons .q (.cons (BSim.cells (.cons Sim.o (.cons Sim.o (.cons Sim.o (.cons Sim.o .nil))))) (.cons (BSim.cells (.cons Sim.o (.cons Sim.o .nil))) (.cons (BSim.cells (.cons .qc (.cons .qc (.cons .qc (.cons Sim.o .nil))))) (.cons (BSim.cells (.cons .qc (.cons .qc .nil))) (.cons .q (.cons .q (.cons .q (.cons .q (.cons .q (.cons .q (.cons .q .nil)))))))))))) (hK48 ((s48.1+1),(s48.2.1++([(⟨(10+((s48.2.1.length:Nat):Int)),s48.1,(1+s29.1),y50.1,0,0⟩:Burn)]:List Burn)),(s48.2.2++([((y52.1.Off.Lo+y67) - (y52.1.On.Lo+y59))]:List Int))) H)
       · refine W.exit (At.xthen (At.xthen (At.xhere (At.inb (At.zad ?_)))))
         obtain ⟨hc78,H⟩:=zab H
         refine W.r1 env hc78 [1,2,3,5,6,11,13] [1,2,3,5,6,11,850,851,852,900,901] ?_
         refine At.zaG (At.kp [1,2,3,5,6,11,13] [1,2,3,5,6,11,850,851,852,900,901] ?_)
         exact At.conv (.cons .q (.cons .q (.cons .q (.cons .q (.cons .q (.cons .q (.cons .qi .nil))))))) (.cons .q (.cons (BSim.cells (.cons Sim.o (.cons Sim.o (.cons Sim.o (.cons Sim.o .nil))))) (.cons (BSim.cells (.cons Sim.o (.cons Sim.o .nil))) (.cons (BSim.cells (.cons .qc (.cons .qc (.cons .qc (.cons Sim.o .nil))))) (.cons (BSim.cells (.cons .qc (.cons .qc .nil))) (.cons .q (.cons .q (.cons .q (.cons .q (.cons .q (.cons .q .nil))))))))))) (hK29 ((s29.1+1),s48.2.1,s48.2.2) H)
     · refine W.exit (At.xthen (At.xthen (At.xhere (At.zad (W.sr env [] [] [2,3,4] [2,3,850,851,852,900,901] rfl rfl (by first|rfl|kernel_rfl) .nil .nil ?_)))))
       refine W.ret ?_
       cases H
       exact At.ret env.ty rfl rfl (fun q hq=>by cases hq;exact (by (repeat' apply And.intro) <;> first|rfl|(simp;done)|omega|(simp;omega))) (Sim.tupL (.cons (Sim.aggL (.cons (.refl _) (.cons (.refl _) (.cons (.refl _) (.cons (Sim.nil _ _) .nil))))) (.cons (.refl _) (.cons (.refl _) .nil)))) hval
theorem zfK (p0:(List mantle_sight)) (p1:mantle_sight→Option Bool) (p1_g:Nat) (p1_a p1_b:List AV) (p1_h:∀ x0 r,p1 x0=some r→Ctr Tryz.prog p1_g (p1_a++([.agg [.int .i64 (x0.night),.bool (x0.bad)]]++p1_b)) (.bool (r))) {r:Int} (H:zcj p0 p1=some r):Ctr Tryz.prog 122 [roL 2 zaz p0,.clo (.func p1_g) p1_a p1_b] (.int .i64 (r)):=by
 unfold zcj at H
 refine Ctr.ob Tryz.func122 Tryz.ntmps122 (fun w0 h0 hval=>?_)
 refine W.rg env [0,1] [] ?_
 refine W.seq (W.rg env [0,1,7,8] [] ?_)
 refine W.block (At.kp [0,1,7,8] [] ?_)
 refine W.len (t:=0) rfl (fun hn1=>?_)
 refine W.zak H (fun i1 (s1:Unit)=>[(0,roL 2 zaz p0),(1,.clo (.func p1_g) p1_a p1_b),(7,.int .i64 (((p0.length:Nat):Int))),(8,.int .i64 ((i1:Int)))]) (fun i1 (s1:Unit)=>[]) (.cons .q (.cons .q (.cons .qi (.cons .qi .nil)))) .nil (fun k1 i1 s1 hle1 H1 H2 K0 hK1=>?_)
 refine W.rg env [0,1,7,8,9] [] ?_
 refine W.seq (W.cond rfl (fun hb2=>?_) (fun hb2=>?_))
 · have hi1:i1<p0.length:=ltD hb2
   have H:=H1 hi1
   refine W.skip (At.zad (W.seq (W.block (W.rg env [0,1,5,7,8] [] ?_))))
   refine W.seq ?_
   obtain ⟨y3,hy4,H⟩:=zac H
   refine W.region env [] [⟨.bool (y3),[],0,[]⟩] rfl rfl rfl (.cons (inD hi1) .nil) (.free (p1_h (p0.getD i1 default) _ hy4) .nil) (At.kp [0,1,5,7,8,16] [] ?_)
   refine At.zad (W.co H rfl (fun hb5 H=>?_) (fun hb5 H=>?_))
   · refine W.rg env [4] [] ?_
     refine W.ret (At.rinb ?_)
     refine At.rthen ?_
     refine At.rthen ?_
     refine At.rinb ?_
     refine At.rthen ?_
     cases H
     exact At.rz env hval
   · refine W.skip (At.inb (At.zad (W.region env [] [] rfl rfl rfl (.cons (incD hi1 hn1) .nil) .nil (At.kp [0,1,7,8] [] ?_))))
     refine At.zaG (At.kp [0,1,7,8] [] ?_)
     exact At.conv (.cons .q (.cons .q (.cons .qi (.cons .qi .nil)))) .nil (hK1 hi1 () H)
 · have H:=H2 (geD hb2)
   refine W.exit (At.xthen (At.xthen (At.xhere (At.zad (W.rg env [4] [] ?_)))))
   refine W.ret ?_
   cases H
   exact At.rz env hval
theorem zfa (p0:(List mantle_sight)) (p1:mantle_sight→Option Bool) (p1_g:Nat) (p1_a p1_b:List AV) (p1_h:∀ x0 r,p1 x0=some r→Ctr Tryz.prog p1_g (p1_a++([.agg [.int .i64 (x0.night),.bool (x0.bad)]]++p1_b)) (.bool (r))) {r:Bool} (H:zbj p0 p1=some r):Ctr Tryz.prog 85 [roL 2 zaz p0,.clo (.func p1_g) p1_a p1_b] (.bool (r)):=by
 unfold zbj at H
 refine Ctr.ob Tryz.func85 Tryz.ntmps85 (fun w0 h0 hval=>?_)
 refine W.rg env [0,1] [] ?_
 refine W.seq ?_
 obtain ⟨y1,hy2,H⟩:=zac H
 refine W.region env [] [⟨.int .i64 (y1),[],0,[]⟩] rfl rfl rfl .nil (.free (zfK p0 p1 p1_g p1_a p1_b p1_h hy2) .nil) (At.kp [4] [] ?_)
 refine At.zad (W.ret ?_)
 cases H
 exact At.rz env hval
theorem zhn (p0:mantle_closet) (p1:Int) (p2:Int) (p3:Lives) {r:Int} (H:zcx p0 p1 p2 p3=some r):Ctr Tryz.prog 88 [.agg (zao p0),.int .i64 (p1),.int .i64 (p2),.agg [roL 1 zaa p3.Lives,roL 1 zaa p3.Minutes]] (.int .i64 (r)):=by
 unfold zcx at H
 refine Ctr.ob Tryz.func88 Tryz.ntmps88 (fun w0 h0 hval=>?_)
 refine W.rg env [1,2,4,7] [4,7] ?_
 refine W.rg env [1,2,4,7,9] [4,7] ?_
 refine W.seq (W.sr env [] [] [2,4,7,9,16,17,18] [4,7] rfl rfl rfl (.cons rfl .nil) .nil ?_)
 refine W.block (At.kp [2,4,7,9,16,17,18] [4,7] ?_)
 refine W.len (t:=16) rfl (fun hn1=>?_)
 refine W.zak H (fun i1 (s1:Int)=>[(2,.int .i64 (p2)),(4,.lp 4 0),(7,.lp 7 0),(9,.int .i64 (s1)),(16,roL 1 zaa (((p0.coats.get p1).getD default).burns)),(17,.int .i64 ((((((p0.coats.get p1).getD default).burns).length:Nat):Int))),(18,.int .i64 ((i1:Int)))]) (fun i1 (s1:Int)=>[(4,.cells (zao p0)),(7,.cells [roL 1 zaa p3.Lives,roL 1 zaa p3.Minutes])]) (.cons .qi (.cons .q (.cons .q (.cons .qi (.cons .q (.cons .qi (.cons .qi .nil))))))) (.cons .q (.cons .q .nil)) (fun k1 i1 s1 hle1 H1 H2 K0 hK1=>?_)
 refine W.rg env [2,4,7,9,16,17,18,19] [4,7] ?_
 refine W.seq (W.cond rfl (fun hb2=>?_) (fun hb2=>?_))
 · have hi1:i1<(((p0.coats.get p1).getD default).burns).length:=ltD hb2
   have H:=H1 hi1
   refine W.skip (At.zad (W.seq (W.block (W.sr env [] [] [2,4,7,9,11,16,17,18] [4,7] rfl rfl rfl (.cons (inD hi1) .nil) .nil ?_))))
   obtain ⟨hc3,H⟩:=zab H
   refine W.sr env [] [] [2,4,7,9,11,16,17,18,30] [4,7] rfl rfl rfl (.cons hc3 .nil) .nil ?_
   refine W.co H rfl (fun hb4 H=>?_) (fun hb4 H=>?_)
   · obtain ⟨hc5,H⟩:=zab H
     obtain ⟨hc6,H⟩:=zab H
     refine W.region env [] [] rfl rfl rfl (.cons hc5 (.cons hc6 .nil)) .nil (At.kp [2,4,7,9,16,17,18] [4,7] ?_)
     refine At.inb (At.zad (W.region env [] [] rfl rfl rfl (.cons (incD hi1 hn1) .nil) .nil (At.kp [2,4,7,9,16,17,18] [4,7] ?_)))
     refine At.zaG (At.kp [2,4,7,9,16,17,18] [4,7] ?_)
     exact At.conv (.cons .qi (.cons .q (.cons .q (.cons .qi (.cons .q (.cons .qi (.cons .qi .nil))))))) (.cons .q (.cons .q .nil)) (hK1 hi1 (s1+(p3.Minutes.getD (((((p0.coats.get p1).getD default).burns).getD i1 default)).toNat default)) H)
   · refine W.skip (At.inb (At.zad (W.region env [] [] rfl rfl rfl (.cons (incD hi1 hn1) .nil) .nil (At.kp [2,4,7,9,16,17,18] [4,7] ?_))))
     refine At.zaG (At.kp [2,4,7,9,16,17,18] [4,7] ?_)
     exact At.conv (.cons .qi (.cons .q (.cons .q (.cons .qi (.cons .q (.cons .qi (.cons .qi .nil))))))) (.cons .q (.cons .q .nil)) (hK1 hi1 s1 H)
 · have H:=H2 (geD hb2)
   refine W.exit (At.xthen (At.xthen (At.xhere (At.zad (W.rg env [8] [] ?_)))))
   refine W.ret ?_
   cases H
   exact At.rz env hval
theorem zep (p0:mantle_closet) (p1:Int) (p2:Int) (p3:Lives) {r:Bool} (H:zbE p0 p1 p2 p3=some r):Ctr Tryz.prog 42 [.agg (zao p0),.int .i64 (p1),.int .i64 (p2),.agg [roL 1 zaa p3.Lives,roL 1 zaa p3.Minutes]] (.bool (r)):=by
 unfold zbE at H
 refine Ctr.ob Tryz.func42 Tryz.ntmps42 (fun w0 h0 hval=>?_)
 refine W.rg env [1,2,4,7] [4,7] ?_
 refine W.seq ?_
 obtain ⟨y1,hy2,H⟩:=zac H
 obtain ⟨y3,hy4,H⟩:=zac H
 obtain ⟨hc5,H⟩:=zab H
 refine W.region env [] [⟨.int .i64 (y1),[],0,[]⟩,⟨.int .i64 (y3),[],0,[]⟩] rfl rfl (by kernel_rfl) (.cons hc5 .nil) (.free (zhn p0 p1 p2 p3 hy2) (.free (zcm p0 p1 hy4) .nil)) (At.kp [8] [] ?_)
 refine At.zad (W.ret ?_)
 cases H
 exact At.rz env hval
theorem zfA (p0:mantle_sight) (c0:mantle_closet) (c1:Int) (c2:Lives) {r:Bool} (H:za3 p0 c0 c1 c2=some r):Ctr Tryz.prog 86 [.agg [.int .i64 (p0.night),.bool (p0.bad)],.rp (zao c0),.rp [.int .i64 (c1)],.rp [roL 1 zaa c2.Lives,roL 1 zaa c2.Minutes]] (.bool (r)):=by
 unfold za3 at H
 refine Ctr.ob Tryz.func86 Tryz.ntmps86 (fun w0 h0 hval=>?_)
 refine W.rg env [1,2,3,4] [4] ?_
 refine W.seq ?_
 obtain ⟨y1,hy2,H⟩:=zac H
 refine W.region env [] [⟨.bool (y1),[],0,[]⟩] rfl rfl (by kernel_rfl) .nil (.free (zep c0 c1 p0.night c2 hy2) .nil) (At.kp [5] [] ?_)
 refine At.zad (W.ret ?_)
 cases H
 exact At.rz env hval
theorem zeg (p0:mantle_closet) (p1:Lives) {r:Bool} (H:zbp p0 p1=some r):Ctr Tryz.prog 40 [.agg (zao p0),.agg [roL 1 zaa p1.Lives,roL 1 zaa p1.Minutes]] (.bool (r)):=by
 unfold zbp at H
 refine Ctr.ob Tryz.func40 Tryz.ntmps40 (fun w0 h0 hval=>?_)
 refine W.rg env [2,3,4] [2,3,4] ?_
 refine W.seq (W.sr env [] [] [2,3,4,28] [2,3,4] rfl rfl rfl (.cons id (.cons id (.cons id (.cons id (.cons id (.cons id (.cons id (.cons (fun h=>by rw [h];rfl) .nil)))))))) .nil ?_)
 refine W.co H rfl (fun hb1 H=>?_) (fun hb1 H=>?_)
 · refine W.rg env [4] [4] ?_
   refine W.ret (At.rthen ?_)
   cases H
   exact At.rz env hval
 · refine W.skip (At.zad (W.seq (W.rg env [2,3,4,31,32,33] [2,3,4] ?_)))
   refine W.block (At.kp [2,3,4,31,32,33] [2,3,4] ?_)
   refine W.len (t:=31) rfl (fun hn2=>?_)
   refine W.zak H (fun i2 (s2:Unit)=>[(2,.lp 2 0),(3,.lp 3 0),(4,.lp 4 0),(31,roL 3 zaA p0.w.Batches),(32,.int .i64 (((p0.w.Batches.length:Nat):Int))),(33,.int .i64 ((i2:Int)))]) (fun i2 (s2:Unit)=>[(2,.cells (zao p0)),(3,.cells [roL 1 zaa p1.Lives,roL 1 zaa p1.Minutes]),(4,.cells [.bool (false)])]) (.cons .q (.cons .q (.cons .q (.cons .q (.cons .qi (.cons .qi .nil)))))) (.cons .q (.cons .q (.cons .q .nil))) (fun k2 i2 s2 hle2 H1 H2 K0 hK2=>?_)
   refine W.rg env [2,3,4,31,32,33,34] [2,3,4] ?_
   refine W.seq (W.cond rfl (fun hb3=>?_) (fun hb3=>?_))
   · have hi2:i2<p0.w.Batches.length:=ltD hb3
     have H:=H1 hi2
     refine W.skip (At.zad (W.seq (W.block (W.sr env [] [] [2,3,4,5,6,31,32,33] [2,3,4,6] rfl rfl rfl (.cons (inD hi2) .nil) .nil ?_))))
     obtain ⟨hc4,H⟩:=zab H
     refine W.sr env [] [⟨.bool ((zay (p1.Lives.getD i2 default) ((p0.w.Batches.getD i2 default).Life.Lo) ((p0.w.Batches.getD i2 default).Life.Hi))),[],0,[]⟩] [2,3,4,31,32,33,50] [2,3,4] rfl rfl (by kernel_rfl) (.cons hc4 .nil) (.free (zbD (p1.Lives.getD i2 default) ((p0.w.Batches.getD i2 default).Life.Lo) ((p0.w.Batches.getD i2 default).Life.Hi)) .nil) ?_
     refine W.co H rfl (fun hb5 H=>?_) (fun hb5 H=>?_)
     · refine W.rg env [4] [4] ?_
       refine W.ret (At.rinb ?_)
       refine At.rthen ?_
       refine At.rthen ?_
       refine At.rinb ?_
       refine At.rthen ?_
       cases H
       exact At.rz env hval
     · refine W.skip (At.inb (At.zad (W.region env [] [] rfl rfl rfl (.cons (incD hi2 hn2) .nil) .nil (At.kp [2,3,4,31,32,33] [2,3,4] ?_))))
       refine At.zaG (At.kp [2,3,4,31,32,33] [2,3,4] ?_)
       exact At.conv (.cons .q (.cons .q (.cons .q (.cons .q (.cons .qi (.cons .qi .nil)))))) (.cons .q (.cons .q (.cons .q .nil))) (hK2 hi2 () H)
   · have H:=H2 (geD hb3)
     refine W.exit (At.xthen (At.xthen (At.xhere (At.zad (W.seq (W.rg env [2,3,4,54,55,56] [2,3,4] ?_))))))
     refine W.block (At.kp [2,3,4,54,55,56] [2,3,4] ?_)
     refine W.len (t:=54) rfl (fun hn6=>?_)
     refine W.zak H (fun i6 (s6:Unit)=>[(2,.lp 2 0),(3,.lp 3 0),(4,.lp 4 0),(54,roL 7 zaL p0.w.Burns),(55,.int .i64 (((p0.w.Burns.length:Nat):Int))),(56,.int .i64 ((i6:Int)))]) (fun i6 (s6:Unit)=>[(2,.cells (zao p0)),(3,.cells [roL 1 zaa p1.Lives,roL 1 zaa p1.Minutes]),(4,.cells [.bool (false)])]) (.cons .q (.cons .q (.cons .q (.cons .q (.cons .qi (.cons .qi .nil)))))) (.cons .q (.cons .q (.cons .q .nil))) (fun k6 i6 s6 hle6 H1 H2 K0 hK6=>?_)
     refine W.rg env [2,3,4,54,55,56,57] [2,3,4] ?_
     refine W.seq (W.cond rfl (fun hb7=>?_) (fun hb7=>?_))
     · have hi6:i6<p0.w.Burns.length:=ltD hb7
       have H:=H1 hi6
       refine W.skip (At.zad (W.seq (W.block (W.sr env [] [] [2,3,4,7,8,54,55,56] [2,3,4,8] rfl rfl rfl (.cons (inD hi6) .nil) .nil ?_))))
       obtain ⟨hc8,H⟩:=zab H
       refine W.sr env [] [⟨.bool ((zay (p1.Minutes.getD i6 default) ((p0.w.Burns.getD i6 default).Minutes.Lo) ((p0.w.Burns.getD i6 default).Minutes.Hi))),[],0,[]⟩] [2,3,4,54,55,56,73] [2,3,4] rfl rfl (by kernel_rfl) (.cons hc8 .nil) (.free (zbD (p1.Minutes.getD i6 default) ((p0.w.Burns.getD i6 default).Minutes.Lo) ((p0.w.Burns.getD i6 default).Minutes.Hi)) .nil) ?_
       refine W.co H rfl (fun hb9 H=>?_) (fun hb9 H=>?_)
       · refine W.rg env [4] [4] ?_
         refine W.ret (At.rinb ?_)
         refine At.rthen ?_
         refine At.rthen ?_
         refine At.rinb ?_
         refine At.rthen ?_
         cases H
         exact At.rz env hval
       · refine W.skip (At.inb (At.zad (W.region env [] [] rfl rfl rfl (.cons (incD hi6 hn6) .nil) .nil (At.kp [2,3,4,54,55,56] [2,3,4] ?_))))
         refine At.zaG (At.kp [2,3,4,54,55,56] [2,3,4] ?_)
         exact At.conv (.cons .q (.cons .q (.cons .q (.cons .q (.cons .qi (.cons .qi .nil)))))) (.cons .q (.cons .q (.cons .q .nil))) (hK6 hi6 () H)
     · have H:=H2 (geD hb7)
       refine W.exit (At.xthen (At.xthen (At.xhere (At.zad (W.seq (W.sr env [] [⟨.clo (.func 119) [] [.rp [roL 3 zaA p0.w.Batches,roL 6 zau p0.w.Mantles,roL 7 zaL p0.w.Burns,roL 6 zaD p0.w.Looks,.int .i64 (p0.known),romL zz6 zah p0.coats,.one]],[],0,[]⟩] [2,3,4,76] [2,3,4] rfl rfl rfl .nil (.free (Ctr.sim (.cons (Sim.aggL (.cons (.refl _) (.cons (.refl _) (.cons (.refl _) (.cons (.refl _) (.cons (.refl _) (.cons (.refl _) (.cons (Sim.one rfl) .nil)))))))) .nil) (zeR (⟨p0.w,p0.known,p0.coats,[]⟩:mantle_closet))) .nil) ?_))))))
       refine W.block ?_
       obtain ⟨it10,hit10,H⟩:=zac H
       refine At.kp [2,3,4,76] [2,3,4] ?_
       refine W.zhu H (fun (x:Int×mantle_coat)=>[.int .i64 (x.1),.agg (zat x.2)]) (zeh (⟨p0.w,p0.known,p0.coats,[]⟩:mantle_closet) hit10) rfl (fun _=>rfl) rfl rfl rfl (fun (s11:Unit)=>[(2,.cells (zao p0)),(3,.cells [roL 1 zaa p1.Lives,roL 1 zaa p1.Minutes]),(4,.cells [.bool (false)])]) (.cons .q (.cons .q (.cons .q .nil))) (fun (x10:Int×mantle_coat)=>[(2,.lp 2 0),(3,.lp 3 0),(4,.lp 4 0),(9,.lp 9 0),(10,.lp 10 0)]) (fun (x10:Int×mantle_coat) (s11:Unit)=>[(2,.cells (zao p0)),(3,.cells [roL 1 zaa p1.Lives,roL 1 zaa p1.Minutes]),(4,.cells [.bool (false)]),(9,.cells [.int .i64 (x10.1)]),(10,.cells (zat x10.2))]) (fun e (sx:Unit)=>e=Exit.ret∧some false=some r) (fun _ (sx:Unit)=>[(2,.cells (zao p0)),(3,.cells [roL 1 zaa p1.Lives,roL 1 zaa p1.Minutes]),(4,.cells [.bool (false)])]) (fun e s h=>.inl h.1) hval (fun h1 vs gh st lp x10 s11 K hK=>?_) (fun k11 h1 vs gh st lp x10 s11 H Qr hQ11 hX11=>?_) (fun s11 H=>?_) (fun e sx h=>?_)
       · refine W.rg env [2,3,4,9,78] [2,3,4,9] ?_
         refine W.region env [] [] rfl rfl rfl .nil .nil (At.kp [2,3,4,9,10] [2,3,4,9,10] ?_)
         refine At.zaG (At.kp [2,3,4,9,10] [2,3,4,9,10] ?_)
         exact hK
       · refine W.block (W.seq ?_)
         obtain ⟨y12,hy13,H⟩:=zac H
         refine W.region env [] [⟨.bool (y12),[],0,[]⟩] rfl rfl rfl .nil (.free (zfa x10.2.sights (fun x0=>za3 x0 p0 x10.1 p1) 86 [] ([.rp (zao p0),.rp [.int .i64 (x10.1)],.rp [roL 1 zaa p1.Lives,roL 1 zaa p1.Minutes]]) (fun x0 r h=>zfA x0 p0 x10.1 p1 h) hy13) .nil) (At.kp [4,82] [2,3,4] ?_)
         refine At.zad (W.co H rfl (fun hb14 H=>?_) (fun hb14 H=>?_))
         · refine W.rg env [4] [2,3,4] ?_
           refine W.ret (At.rinb ?_)
           refine At.kp [] [2,3,4] ?_
           exact At.conv .nil (.cons .q (.cons .q (.cons .q .nil))) (hX11 .ret () ⟨rfl,H⟩)
         · refine W.skip (At.inb (At.kp [] [2,3,4] ?_))
           exact At.conv .nil (.cons .q (.cons .q (.cons .q .nil))) (hQ11 () H)
       · refine At.inb (At.zad (W.rg env [4] [4] ?_))
         refine W.ret ?_
         cases H
         exact At.rz env hval
       · obtain ⟨rfl,H⟩:=h
         refine At.rinb ?_
         refine At.rthen ?_
         cases H
         exact At.rz env hval
theorem zfn (fuel:Nat) (p0:Wear) (p1:Int) (p2:Lives) {r:Int} (H:zcr fuel p0 p1 p2=some r):Ctr Tryz.prog 7 [.agg (zav p0),.int .i64 (p1),.agg [roL 1 zaa p2.Lives,roL 1 zaa p2.Minutes]] (.int .i64 (r)):=by
 unfold zcr at H
 refine Ctr.ob Tryz.func7 Tryz.ntmps7 (fun w0 h0 hval=>?_)
 refine W.rg env [1,3,5] [3,5] ?_
 refine W.seq (W.seq ?_)
 obtain ⟨y1,hy2,H⟩:=zac H
 refine W.region env [] [⟨.int .i64 (y1),[],0,[]⟩] rfl rfl rfl .nil (.free (Ctr.sim (.cons (.refl _) (.cons (Sim.lit (f:=zaa) ([p1]:List Int) rfl rfl (fun _=>rfl)) .nil)) (zec p0 ([p1]:List Int) hy2)) .nil) (At.kp [1,3,5,7] [3,5] ?_)
 refine At.zad (W.rg env [1,3,5,7,13] [3,5] ?_)
 refine W.co H rfl (fun hb3 H=>?_) (fun hb3 H=>?_)
 · refine W.rg env [6] [] ?_
   refine W.ret (At.rthen ?_)
   cases H
   exact At.rz env hval
 · refine W.skip (At.zad (W.seq (W.seq ?_)))
   obtain ⟨y4,hy5,H⟩:=zac H
   obtain ⟨y6,hy7,H⟩:=zac H
   refine W.region env [] [⟨.agg (zao y4),[],0,[]⟩,⟨.bool (y6),[],0,[]⟩] rfl rfl (by kernel_rfl) .nil (.free (zed fuel p0 p0.Looks p1 hy5) (.free (zeg y4 p2 hy7) .nil)) (At.kp [22] [] ?_)
   refine At.zad (W.co H rfl (fun hb8 H=>?_) (fun hb8 H=>?_))
   · refine W.rg env [6] [] ?_
     refine W.ret (At.rthen ?_)
     cases H
     exact At.rz env hval
   · refine W.skip (At.zad (W.rg env [6] [] ?_))
     refine W.ret ?_
     cases H
     exact At.rz env hval
theorem zkN (p0:(List Int)) {r:Bool} (H:zeI p0=some r):Ctr Tryz.prog 87 [roL 1 zaa p0] (.bool (r)):=by
 unfold zeI at H
 refine Ctr.ob Tryz.func87 Tryz.ntmps87 (fun w0 h0 hval=>?_)
 refine W.rg env [0] [] ?_
 refine W.seq (W.rg env [0,5,6,7] [] ?_)
 refine W.block (At.kp [0,5,6,7] [] ?_)
 refine W.len (t:=5) rfl (fun hn1=>?_)
 refine W.zak H (fun i1 (s1:Unit)=>[(0,roL 1 zaa p0),(5,roL 1 zaa p0),(6,.int .i64 (((p0.length:Nat):Int))),(7,.int .i64 ((i1:Int)))]) (fun i1 (s1:Unit)=>[]) (.cons .q (.cons .q (.cons .qi (.cons .qi .nil)))) .nil (fun k1 i1 s1 hle1 H1 H2 K0 hK1=>?_)
 refine W.rg env [0,5,6,7,8] [] ?_
 refine W.seq (W.cond rfl (fun hb2=>?_) (fun hb2=>?_))
 · have hi1:i1<p0.length:=ltD hb2
   have H:=H1 hi1
   refine W.skip (At.zad (W.seq (W.block (W.sr env [] [] [0,3,4,5,6,7] [] rfl rfl rfl (.cons (inD hi1) .nil) .nil ?_))))
   obtain ⟨hc3,H⟩:=zab H
   obtain ⟨hc4,H⟩:=zab H
   refine W.sr env [] [⟨.bool ((zaH (p0.getD i1 default))),[],0,[]⟩] [0,5,6,7,27] [] rfl rfl rfl (.cons id (.cons id (.cons hc3 (.cons id (.cons hc4 (.cons id (.cons id (.cons id (.cons id (.cons id (.cons id (.cons (fun hW h=>by revert hW h;first|(simp +contextual;done)|grind) (.cons (fun h=>by rw [h];rfl) .nil))))))))))))) (.free (zdq (p0.getD i1 default)) .nil) ?_
   refine W.co H rfl (fun hb5 H=>?_) (fun hb5 H=>?_)
   · refine W.rg env [2] [] ?_
     refine W.ret (At.rinb ?_)
     refine At.rthen ?_
     refine At.rthen ?_
     refine At.rinb ?_
     refine At.rthen ?_
     cases H
     exact At.rz env hval
   · refine W.skip (At.inb (At.zad (W.region env [] [] rfl rfl rfl (.cons (incD hi1 hn1) .nil) .nil (At.kp [0,5,6,7] [] ?_))))
     refine At.zaG (At.kp [0,5,6,7] [] ?_)
     exact At.conv (.cons .q (.cons .q (.cons .qi (.cons .qi .nil)))) .nil (hK1 hi1 () H)
 · have H:=H2 (geD hb2)
   refine W.exit (At.xthen (At.xthen (At.xhere (At.zad (W.sr env [] [⟨.bool ((zay ((p0.length:Nat):Int) 1 20)),[],0,[]⟩] [2] [] rfl rfl rfl .nil (.free (zbD ((p0.length:Nat):Int) 1 20) .nil) ?_)))))
   refine W.ret ?_
   cases H
   exact At.rz env hval
theorem zhy (fuel:Nat) (p0:Wear) (p1:(List Int)) (p2:Int) (p3:Int) (p4:Int) {r:(mantle_lot×Int)} (H:zd2 fuel p0 p1 p2 p3 p4=some r):Ctr Tryz.prog 41 [.agg (zav p0),roL 1 zaa p1,.int .i64 (p2),.int .i64 (p3),.int .i64 (p4)] (.tup [.agg (zaj r.1),.int .i64 (r.2)]):=by
 unfold zd2 at H
 refine Ctr.ob Tryz.func41 Tryz.ntmps41 (fun w0 h0 hval=>?_)
 refine W.rg env [1,2,3,4,5,10] [5,10] ?_
 refine W.seq (W.seq ?_)
 obtain ⟨y1,hy2,H⟩:=zac H
 refine W.region env [] [⟨.int .i64 (y1),[],0,[]⟩] rfl rfl rfl .nil (.free (zdN p0 hy2) .nil) (At.kp [1,2,3,4,5,10,12] [5,10] ?_)
 refine At.zad (W.rg env [1,2,3,4,5,10,12,20] [5,10] ?_)
 refine W.co H rfl (fun hb3 H=>?_) (fun hb3 H=>?_)
 · refine W.rg env [10,11] [10] ?_
   refine W.ret (At.rthen ?_)
   cases H
   exact At.ret env.ty rfl rfl nofun (Sim.tupL (.cons (Sim.aggL (.cons (Sim.nil _ _) (.cons (Sim.nil _ _) (.cons (Sim.nil _ _) (.cons (Sim.nil _ _) (.cons (.refl _) (.cons (Sim.zhI (zs:=[.slice none 0 0,.slice none 0 0,.slice none 0 0,.slice none 0 0,.slice none 0 0,.slice none 0 0]) rfl (Sim.aggL (.cons (Sim.nil _ _) (.cons (Sim.nil _ _) (.cons (Sim.nil _ _) (.cons (Sim.nil _ _) (.cons (Sim.nil _ _) (.cons (Sim.nil _ _) .nil)))))))) (.cons (Sim.nil _ _) (.cons (Sim.nil _ _) (.cons (Sim.nil _ _) (.cons (.refl _) .nil))))))))))) (.cons (.refl _) .nil))) hval
 · refine W.skip (At.zad (W.seq (W.block (W.sr env [] [⟨.bool ((zay p4 0 20)),[],0,[]⟩] [1,2,3,5,10,23] [5,10] rfl rfl rfl .nil (.free (zbD p4 0 20) .nil) ?_))))
   refine W.co H rfl (fun hb4 H=>?_) (fun hb4 H=>?_)
   · refine W.rg env [10,11] [10] ?_
     refine W.ret (At.rinb ?_)
     refine At.rthen ?_
     cases H
     exact At.ret env.ty rfl rfl nofun (Sim.tupL (.cons (Sim.aggL (.cons (Sim.nil _ _) (.cons (Sim.nil _ _) (.cons (Sim.nil _ _) (.cons (Sim.nil _ _) (.cons (.refl _) (.cons (Sim.zhI (zs:=[.slice none 0 0,.slice none 0 0,.slice none 0 0,.slice none 0 0,.slice none 0 0,.slice none 0 0]) rfl (Sim.aggL (.cons (Sim.nil _ _) (.cons (Sim.nil _ _) (.cons (Sim.nil _ _) (.cons (Sim.nil _ _) (.cons (Sim.nil _ _) (.cons (Sim.nil _ _) .nil)))))))) (.cons (Sim.nil _ _) (.cons (Sim.nil _ _) (.cons (Sim.nil _ _) (.cons (.refl _) .nil))))))))))) (.cons (.refl _) .nil))) hval
   · refine W.seq ?_
     obtain ⟨y5,hy6,H⟩:=zac H
     refine W.region env [] [⟨.bool (y5),[],0,[]⟩] rfl rfl rfl .nil (.free (zkN p1 hy6) .nil) (At.kp [1,2,3,5,10,28] [5,10] ?_)
     refine At.zad (W.co H rfl (fun hb7 H=>?_) (fun hb7 H=>?_))
     · refine W.rg env [10,11] [10] ?_
       refine W.ret (At.rinb ?_)
       refine At.rthen ?_
       cases H
       exact At.ret env.ty rfl rfl nofun (Sim.tupL (.cons (Sim.aggL (.cons (Sim.nil _ _) (.cons (Sim.nil _ _) (.cons (Sim.nil _ _) (.cons (Sim.nil _ _) (.cons (.refl _) (.cons (Sim.zhI (zs:=[.slice none 0 0,.slice none 0 0,.slice none 0 0,.slice none 0 0,.slice none 0 0,.slice none 0 0]) rfl (Sim.aggL (.cons (Sim.nil _ _) (.cons (Sim.nil _ _) (.cons (Sim.nil _ _) (.cons (Sim.nil _ _) (.cons (Sim.nil _ _) (.cons (Sim.nil _ _) .nil)))))))) (.cons (Sim.nil _ _) (.cons (Sim.nil _ _) (.cons (Sim.nil _ _) (.cons (.refl _) .nil))))))))))) (.cons (.refl _) .nil))) hval
     · refine W.sr env [] [⟨.bool ((zaK p2)),[],0,[]⟩,⟨.bool ((zaK p3)),[],0,[]⟩] [1,2,3,5,10,33] [5,10] rfl rfl rfl (.cons id (.cons id (.cons (fun h=>by rw [h];rfl) .nil))) (.free (zcs p2) (.on (fun hW=>zcs p3) .nil)) ?_
       refine W.co H rfl (fun hb8 H=>?_) (fun hb8 H=>?_)
       · refine W.rg env [10,11] [10] ?_
         refine W.ret (At.rinb ?_)
         refine At.rthen ?_
         cases H
         exact At.ret env.ty rfl rfl nofun (Sim.tupL (.cons (Sim.aggL (.cons (Sim.nil _ _) (.cons (Sim.nil _ _) (.cons (Sim.nil _ _) (.cons (Sim.nil _ _) (.cons (.refl _) (.cons (Sim.zhI (zs:=[.slice none 0 0,.slice none 0 0,.slice none 0 0,.slice none 0 0,.slice none 0 0,.slice none 0 0]) rfl (Sim.aggL (.cons (Sim.nil _ _) (.cons (Sim.nil _ _) (.cons (Sim.nil _ _) (.cons (Sim.nil _ _) (.cons (Sim.nil _ _) (.cons (Sim.nil _ _) .nil)))))))) (.cons (Sim.nil _ _) (.cons (Sim.nil _ _) (.cons (Sim.nil _ _) (.cons (.refl _) .nil))))))))))) (.cons (.refl _) .nil))) hval
       · refine W.skip (At.inb (At.zad (W.seq ?_)))
         obtain ⟨y9,hy10,H⟩:=zac H
         refine W.region env [] [⟨.agg (zao y9),[],0,[]⟩] rfl rfl rfl .nil (.free (zed fuel p0 p0.Looks p3 hy10) .nil) (At.kp [1,2,3,5,10,13] [5,10,13] ?_)
         refine At.zad (W.seq (W.rg env [2,3,5,10,13,51,52,53] [5,10,13] ?_))
         refine W.block (At.zer 13 8 1258 3 1 (e:=fun i=>zaa (([]:List Int).getD i default)) rfl rfl rfl ?_)
         refine At.kp [2,3,5,10,13,51,52,53] [5,10,13,1258] ?_
         refine W.len (t:=51) rfl (fun hn11=>?_)
         refine W.zak H (fun i11 (s11:(List Int))=>[(2,.int .i64 (p2)),(3,.int .i64 (p3)),(5,.lp 5 0),(10,.lp 10 0),(13,.lp 13 0),(51,roL 1 zaa p1),(52,.int .i64 (((p1.length:Nat):Int))),(53,.int .i64 ((i11:Int)))]) (fun i11 (s11:(List Int))=>[(5,.cells (zav p0)),(10,.cells [.nilS,.nilS,.nilS,.nilS,.int .i64 (0),.nilMap,.nilS,.nilS,.nilS,.int .i64 (0)]),(13,.cells [roL 3 zaA y9.w.Batches,roL 6 zau y9.w.Mantles,roL 7 zaL y9.w.Burns,roL 6 zaD y9.w.Looks,.int .i64 (y9.known),romL zz6 zah y9.coats,roL 2 zaI y9.lives,roL 1 zaa p1,.buf 1258 (s11).length,.int .i64 (p2)]),(1258,bufL 3 1 zaa s11)]) (.cons .qi (.cons .qi (.cons .q (.cons .q (.cons .q (.cons .q (.cons .qi (.cons .qi .nil)))))))) (.cons .q (.cons (BSim.cells (.cons Sim.o (.cons Sim.o (.cons Sim.o (.cons Sim.o (.cons .q (.cons .q (.cons Sim.o (.cons Sim.o (.cons Sim.o (.cons .q .nil))))))))))) (.cons (BSim.cells (.cons .q (.cons .q (.cons .q (.cons .q (.cons .q (.cons .q (.cons .q (.cons .q (.cons .qc (.cons .q .nil))))))))))) (.cons .q .nil)))) (fun k11 i11 s11 hle11 H1 H2 K0 hK11=>?_)
         refine W.rg env [2,3,5,10,13,51,52,53,54] [5,10,13,1258] ?_
         refine W.seq (W.cond rfl (fun hb12=>?_) (fun hb12=>?_))
         · have hi11:i11<p1.length:=ltD hb12
           have H:=H1 hi11
           refine W.skip (At.zad (W.seq (W.block (W.sr env [] [] [2,3,5,10,13,15,51,52,53] [5,10,13,1258] rfl rfl rfl (.cons (inD hi11) .nil) .nil ?_))))
           refine W.seq ?_
           obtain ⟨y13,hy14,H⟩:=zac H
           refine W.region env [] [⟨.int .i64 (y13),[],0,[]⟩] rfl rfl rfl .nil (.free (zee p0 (p1.getD i11 default) p2 p3 hy14) .nil) (At.kp [2,3,5,10,13,16,51,52,53] [5,10,13,1258] ?_)
           refine At.zad (W.seq (W.rg env [2,3,5,10,13,16,51,52,53,63] [5,10,13,1258] ?_))
           refine W.co H rfl (fun hb15 H=>?_) (fun hb15 H=>?_)
           · refine W.rg env [10,11] [10] ?_
             refine W.ret (At.rthen ?_)
             refine At.rinb ?_
             refine At.rthen ?_
             refine At.rthen ?_
             refine At.rinb ?_
             refine At.rthen ?_
             cases H
             exact At.ret env.ty rfl rfl nofun (Sim.tupL (.cons (Sim.aggL (.cons (Sim.nil _ _) (.cons (Sim.nil _ _) (.cons (Sim.nil _ _) (.cons (Sim.nil _ _) (.cons (.refl _) (.cons (Sim.zhI (zs:=[.slice none 0 0,.slice none 0 0,.slice none 0 0,.slice none 0 0,.slice none 0 0,.slice none 0 0]) rfl (Sim.aggL (.cons (Sim.nil _ _) (.cons (Sim.nil _ _) (.cons (Sim.nil _ _) (.cons (Sim.nil _ _) (.cons (Sim.nil _ _) (.cons (Sim.nil _ _) .nil)))))))) (.cons (Sim.nil _ _) (.cons (Sim.nil _ _) (.cons (Sim.nil _ _) (.cons (.refl _) .nil))))))))))) (.cons (.refl _) .nil))) hval
           · refine W.skip (At.zad ?_)
             obtain ⟨hc16,H⟩:=zab H
             refine W.region env [] [] rfl rfl rfl (.cons (rmI hc16) .nil) .nil (At.kp [2,3,5,10,13,51,52,53] [5,10,13,1258] ?_)
             refine At.zbY (.cons (.refl _) (.cons (.refl _) (.cons (.refl _) (.cons (y:=bufL 3 1 zaa (s11++([y13]:List Int))) (BSim.seg (Seg.push (Seg.refl zaa _) (Seg.lit (f:=zaa) (sz:=1) ([y13]:List Int) rfl rfl (fun _=>rfl)))) .nil)))) ?_
             refine At.inb (At.zad (W.region env [] [] rfl rfl rfl (.cons (incD hi11 hn11) .nil) .nil (At.kp [2,3,5,10,13,51,52,53] [5,10,13,1258] ?_)))
             refine At.zaG (At.kp [2,3,5,10,13,51,52,53] [5,10,13,1258] ?_)
             exact At.conv (.cons .qi (.cons .qi (.cons .q (.cons .q (.cons .q (.cons .q (.cons .qi (.cons .qi .nil)))))))) (.cons .q (.cons (BSim.cells (.cons Sim.o (.cons Sim.o (.cons Sim.o (.cons Sim.o (.cons .q (.cons .q (.cons Sim.o (.cons Sim.o (.cons Sim.o (.cons .q .nil))))))))))) (.cons (BSim.cells (.cons .q (.cons .q (.cons .q (.cons .q (.cons .q (.cons .q (.cons .q (.cons .q (.cons .qc (.cons .q .nil))))))))))) (.cons .q .nil)))) (hK11 hi11 (s11++([y13]:List Int)) H)
         · have H:=H2 (geD hb12)
           refine W.exit (At.xthen (At.xthen (At.xhere (At.zad (W.rg env [10,11] [10,1258] ?_)))))
           refine W.ret ?_
           cases H
           exact At.ret env.ty rfl rfl (fun q hq=>by cases hq;exact (by first|rfl|(simp;done)|omega|(simp;omega))) (.refl _) hval
theorem zio (fuel:Nat) (p0:Wear) (p1:Lives) (p2:(List Int)) (p3:Int) (p4:Int) {r:((List Int)×Int)} (H:zdW fuel p0 p1 p2 p3 p4=some r):Ctr Tryz.prog 9 [.agg (zav p0),.agg [roL 1 zaa p1.Lives,roL 1 zaa p1.Minutes],roL 1 zaa p2,.int .i64 (p3),.int .i64 (p4)] (.tup [roL 1 zaa r.1,.int .i64 (r.2)]):=by
 unfold zdW at H
 refine Ctr.ob Tryz.func9 Tryz.ntmps9 (fun w0 h0 hval=>?_)
 refine W.rg env [2,3,4,5,6] [5,6] ?_
 refine W.seq ?_
 obtain ⟨y1,hy2,H⟩:=zac H
 refine W.region env [] [⟨.tup [.agg (zaj y1.1),.int .i64 (y1.2)],[],0,[]⟩] rfl rfl rfl .nil (.free (zhy fuel p0 p2 p3 p4 0 hy2) .nil) (At.kp [2,3,6,12,13] [6,12] ?_)
 refine At.zad (W.seq (W.rg env [2,3,6,12,13,26] [6,12] ?_))
 refine W.co H rfl (fun hb3 H=>?_) (fun hb3 H=>?_)
 · refine W.rg env [10,11] [] ?_
   refine W.ret (At.rthen ?_)
   cases H
   exact At.ret env.ty rfl rfl nofun (Sim.tupL (.cons (Sim.nil _ _) (.cons (.refl _) .nil))) hval
 · refine W.skip (At.zad (W.seq (W.seq ?_)))
   obtain ⟨y4,hy5,H⟩:=zac H
   refine W.region env [] [⟨.bool (y4),[],0,[]⟩] rfl rfl rfl .nil (.free (zeg y1.1.closet p1 hy5) .nil) (At.kp [2,3,6,12,32] [6,12] ?_)
   refine At.zad (W.co H rfl (fun hb6 H=>?_) (fun hb6 H=>?_))
   · refine W.rg env [10,11] [] ?_
     refine W.ret (At.rthen ?_)
     cases H
     exact At.ret env.ty rfl rfl nofun (Sim.tupL (.cons (Sim.nil _ _) (.cons (.refl _) .nil))) hval
   · refine W.skip (At.zad (W.rg env [2,3,6,12,14] [6,12] ?_))
     refine W.seq (W.rg env [2,3,6,12,14,34,35,36] [6,12] ?_)
     refine W.block (At.zht 14 514 3 1 (e:=fun i=>zaa (([]:List Int).getD i default)) rfl rfl ?_)
     refine At.kp [2,3,6,12,14,34,35,36] [6,12,514] ?_
     refine W.len (t:=34) rfl (fun hn7=>?_)
     refine W.zak H (fun i7 (s7:(List Int))=>[(2,roL 1 zaa p2),(3,.int .i64 (p3)),(6,.lp 6 0),(12,.lp 12 0),(14,.buf 514 (s7).length),(34,roL 1 zaa y1.1.mantles),(35,.int .i64 (((y1.1.mantles.length:Nat):Int))),(36,.int .i64 ((i7:Int)))]) (fun i7 (s7:(List Int))=>[(6,.cells [roL 1 zaa p1.Lives,roL 1 zaa p1.Minutes]),(12,.cells (zaj y1.1)),(514,bufL 3 1 zaa s7)]) (.cons .q (.cons .qi (.cons .q (.cons .q (.cons .qb (.cons .q (.cons .qi (.cons .qi .nil)))))))) (.cons .q (.cons .q (.cons .q .nil))) (fun k7 i7 s7 hle7 H1 H2 K0 hK7=>?_)
     refine W.rg env [2,3,6,12,14,34,35,36,37] [6,12,514] ?_
     refine W.seq (W.cond rfl (fun hb8=>?_) (fun hb8=>?_))
     · have hi7:i7<y1.1.mantles.length:=ltD hb8
       have H:=H1 hi7
       refine W.skip (At.zad (W.seq (W.block (W.sr env [] [] [2,3,6,12,14,15,16,34,35,36] [6,12,514] rfl rfl rfl (.cons (inD hi7) .nil) .nil ?_))))
       refine W.seq ?_
       obtain ⟨y9,hy10,H⟩:=zac H
       refine W.region env [] [⟨.bool (y9),[],0,[]⟩] rfl rfl rfl .nil (.free (zep y1.1.closet (y1.1.mantles.getD i7 default) p3 p1 hy10) .nil) (At.kp [2,3,6,12,14,15,34,35,36,46] [6,12,514] ?_)
       refine At.zad (W.co H rfl (fun hb11 H=>?_) (fun hb11 H=>?_))
       · obtain ⟨hc12,H⟩:=zab H
         obtain ⟨hc13,H⟩:=zab H
         refine W.region env [] [] rfl rfl rfl (.cons hc12 (.cons (rmI hc13) .nil)) .nil (At.kp [2,3,6,12,14,34,35,36] [6,12,514] ?_)
         refine At.zbY (.cons (.refl _) (.cons (.refl _) (.cons (y:=bufL 3 1 zaa (s7++([(p2.getD i7 default)]:List Int))) (BSim.seg (Seg.push (Seg.refl zaa _) (Seg.lit (f:=zaa) (sz:=1) ([(p2.getD i7 default)]:List Int) rfl rfl (fun _=>rfl)))) .nil))) ?_
         refine At.inb (At.zad (W.region env [] [] rfl rfl rfl (.cons (incD hi7 hn7) .nil) .nil (At.kp [2,3,6,12,14,34,35,36] [6,12,514] ?_)))
         refine At.zaG (At.kp [2,3,6,12,14,34,35,36] [6,12,514] ?_)
         exact At.conv (.cons .q (.cons .qi (.cons .q (.cons .q (.cons .qb (.cons .q (.cons .qi (.cons .qi .nil)))))))) (.cons .q (.cons .q (.cons .q .nil))) (hK7 hi7 (s7++([(p2.getD i7 default)]:List Int)) H)
       · refine W.skip (At.inb (At.zad (W.region env [] [] rfl rfl rfl (.cons (incD hi7 hn7) .nil) .nil (At.kp [2,3,6,12,14,34,35,36] [6,12,514] ?_))))
         refine At.zaG (At.kp [2,3,6,12,14,34,35,36] [6,12,514] ?_)
         exact At.conv (.cons .q (.cons .qi (.cons .q (.cons .q (.cons .qb (.cons .q (.cons .qi (.cons .qi .nil)))))))) (.cons .q (.cons .q (.cons .q .nil))) (hK7 hi7 s7 H)
     · have H:=H2 (geD hb8)
       refine W.exit (At.xthen (At.xthen (At.xhere (At.zad (W.rg env [10,11] [514] ?_)))))
       refine W.ret ?_
       cases H
       exact At.ret env.ty rfl rfl (fun q hq=>by cases hq;exact (by first|rfl|(simp;done)|omega|(simp;omega))) (.refl _) hval
theorem zeP (fuel:Nat) (p0:(List Look)) (p1:Look) (p2:Look→Look→Option Int) (p2_g:Nat) (p2_a p2_b:List AV) (p2_h:∀ x0 x1 r,p2 x0 x1=some r→Ctr Tryz.prog p2_g (p2_a++([.agg [.int .i64 (x0.Source),.int .i64 (x0.Lamp),.int .i64 (x0.Night),.bool (x0.Bad),.int .i64 (x0.Known),.int .i64 (x0.Until)],.agg [.int .i64 (x1.Source),.int .i64 (x1.Lamp),.int .i64 (x1.Night),.bool (x1.Bad),.int .i64 (x1.Known),.int .i64 (x1.Until)]]++p2_b)) (.int .i64 (r))) {r:(Int×Bool)} (H:zbu fuel p0 p1 p2=some r):Ctr Tryz.prog 43 [roL 6 zaD p0,.agg [.int .i64 (p1.Source),.int .i64 (p1.Lamp),.int .i64 (p1.Night),.bool (p1.Bad),.int .i64 (p1.Known),.int .i64 (p1.Until)],.clo (.func p2_g) p2_a p2_b] (.tup [.int .i64 (r.1),.bool (r.2)]):=by
 unfold zbu at H
 refine Ctr.ob Tryz.func43 Tryz.ntmps43 (fun w0 h0 hval=>?_)
 refine W.rg env [0,2,4] [4] ?_
 refine W.rg env [0,2,4,8] [4] ?_
 refine W.rg env [0,2,4,8,9,10] [4] ?_
 refine W.seq (W.block (At.kp [0,2,4,8,9,10] [4] ?_))
 refine W.loopGo H (fun (s1:Int×Int)=>[(0,roL 6 zaD p0),(2,.clo (.func p2_g) p2_a p2_b),(4,.lp 4 0),(8,.int .i64 (((p0.length:Nat):Int))),(9,.int .i64 (s1.2)),(10,.int .i64 (s1.1))]) (fun (s1:Int×Int)=>[(4,.cells [.int .i64 (p1.Source),.int .i64 (p1.Lamp),.int .i64 (p1.Night),.bool (p1.Bad),.int .i64 (p1.Known),.int .i64 (p1.Until)])]) (.cons .q (.cons .q (.cons .q (.cons .qi (.cons .qi (.cons .qi .nil)))))) (.cons .q .nil) (fun k1 s1 H K0 hK1=>?_)
 refine W.seq (W.rg env [0,2,4,8,9,10,17] [4] ?_)
 refine W.co H rfl (fun hb2 H=>?_) (fun hb2 H=>?_)
 · refine W.skip (At.zad (W.block ?_))
   obtain ⟨hc3,H⟩:=zab H
   obtain ⟨hc4,H⟩:=zab H
   obtain ⟨hc5,H⟩:=zab H
   refine W.sr env [] [] [0,2,4,8,9,10,11] [4] rfl rfl rfl (.cons hc3 (.cons hc4 (.cons (by decide) (.cons hc5 .nil)))) .nil ?_
   refine W.seq ?_
   obtain ⟨hc6,H⟩:=zab H
   obtain ⟨y7,hy8,H⟩:=zac H
   refine W.region env [] [⟨.int .i64 (y7),[],0,[]⟩] rfl rfl (by kernel_rfl) (.cons hc6 .nil) (.free (p2_h (p0.getD ((Int.fdiv (s1.2+s1.1) (2 ^ (1:Int).toNat))).toNat default) p1 _ hy8) .nil) (At.kp [0,2,4,8,9,10,11,31] [4] ?_)
   refine At.zad (W.co H rfl (fun hb9 H=>?_) (fun hb9 H=>?_))
   · obtain ⟨hc10,H⟩:=zab H
     refine W.r1 env hc10 [0,2,4,8,9,10] [4] ?_
     refine At.inb (At.zaG (At.kp [0,2,4,8,9,10] [4] ?_))
     exact At.conv (.cons .q (.cons .q (.cons .q (.cons .qi (.cons .qi (.cons .qi .nil)))))) (.cons .q .nil) (hK1 (s1.1,((Int.fdiv (s1.2+s1.1) (2 ^ (1:Int).toNat))+1)) H)
   · refine W.region env [] [] rfl rfl rfl .nil .nil (At.kp [0,2,4,8,9,10] [4] ?_)
     refine At.inb (At.zaG (At.kp [0,2,4,8,9,10] [4] ?_))
     exact At.conv (.cons .q (.cons .q (.cons .q (.cons .qi (.cons .qi (.cons .qi .nil)))))) (.cons .q .nil) (hK1 ((Int.fdiv (s1.2+s1.1) (2 ^ (1:Int).toNat)),s1.2) H)
 · refine W.exit (At.xthen (At.xthen (At.xhere (At.zad (W.seq ?_)))))
   obtain ⟨hc11,H⟩:=zab H
   obtain ⟨y12,hy13,H⟩:=zac H
   refine W.region env [] [⟨.int .i64 (y12),[],0,[]⟩] rfl rfl (by kernel_rfl) (.cons hc11 (.cons id (.cons id (.cons id (.cons id (.cons id (.cons id (.cons id (.cons id .nil))))))))) (.on (fun hW=>p2_h (p0.getD (s1.2).toNat default) p1 _ (zbf hy13 hW)) .nil) (At.kp [6,7] [] ?_)
   refine At.zad (W.ret ?_)
   cases H
   exact At.rz env hval
theorem zi4 (p0:Look) (p1:Look):Ctr Tryz.prog 44 [.agg [.int .i64 (p0.Source),.int .i64 (p0.Lamp),.int .i64 (p0.Night),.bool (p0.Bad),.int .i64 (p0.Known),.int .i64 (p0.Until)],.agg [.int .i64 (p1.Source),.int .i64 (p1.Lamp),.int .i64 (p1.Night),.bool (p1.Bad),.int .i64 (p1.Known),.int .i64 (p1.Until)]] (.int .i64 ((zbW p0 p1))):=by
 obtain ⟨r,H⟩:∃ r,zbW p0 p1=r:=⟨_,rfl⟩
 rw [H]
 unfold zbW at H
 refine Ctr.ob Tryz.func44 Tryz.ntmps44 (fun w0 h0 hval=>?_)
 refine W.rg env [2,3] [2,3] ?_
 refine W.sr env [] [⟨.int .i64 ((za6 p0.Source p1.Source)),[],0,[]⟩] [4] [] rfl rfl rfl .nil (.free (zfO p0.Source p1.Source) .nil) ?_
 refine W.ret ?_
 cases H
 exact At.rz env hval
theorem zhm (p0:(List Batch)) {r:(List Batch)} (H:zde p0=some r):Ctr Tryz.prog 46 [roL 3 zaA p0] (roL 3 zaA r):=by
 unfold zde at H
 refine Ctr.ob Tryz.func46 Tryz.ntmps46 (fun w0 h0 hval=>?_)
 refine W.rg env [0] [] ?_
 refine W.seq (W.rg env [0,4] [] ?_)
 refine W.zik rfl (fun hz=>?_) ?_
 · obtain rfl:p0=[]:=List.length_eq_zero_iff.1 hz
   obtain ⟨hc1,H⟩:=zab H
   refine W.rg env [2] [] ?_
   refine W.ret (At.rthen ?_)
   cases H
   exact At.ret env.ty rfl rfl nofun (Sim.nil _ _) hval
 · refine W.skip (At.zad (W.seq ?_))
   obtain ⟨hc1,H⟩:=zab H
   refine W.region env [5] [] rfl rfl rfl (.cons (rmI hc1) .nil) .nil (At.kp [2] [5] ?_)
   refine At.zbY (.cons (y:=bufL 63 3 zaA (([]:List Batch)++p0)) (BSim.seg (Seg.push (Seg.lit (f:=zaA) (sz:=3) ([]:List Batch) rfl rfl (fun _=>rfl)) (Seg.refl zaA p0))) .nil) ?_
   refine At.zad (W.ret ?_)
   cases H
   exact At.ret env.ty rfl rfl (fun q hq=>by cases hq;exact (by first|rfl|(simp;done)|omega|(simp;omega))) (.refl _) hval
theorem zgQ (p0:(List Mantle)) {r:(List Mantle)} (H:zcT p0=some r):Ctr Tryz.prog 47 [roL 6 zau p0] (roL 6 zau r):=by
 unfold zcT at H
 refine Ctr.ob Tryz.func47 Tryz.ntmps47 (fun w0 h0 hval=>?_)
 refine W.rg env [0] [] ?_
 refine W.seq (W.rg env [0,4] [] ?_)
 refine W.zik rfl (fun hz=>?_) ?_
 · obtain rfl:p0=[]:=List.length_eq_zero_iff.1 hz
   obtain ⟨hc1,H⟩:=zab H
   refine W.rg env [2] [] ?_
   refine W.ret (At.rthen ?_)
   cases H
   exact At.ret env.ty rfl rfl nofun (Sim.nil _ _) hval
 · refine W.skip (At.zad (W.seq ?_))
   obtain ⟨hc1,H⟩:=zab H
   refine W.region env [5] [] rfl rfl rfl (.cons (rmI hc1) .nil) .nil (At.kp [2] [5] ?_)
   refine At.zbY (.cons (y:=bufL 65 6 zau (([]:List Mantle)++p0)) (BSim.seg (Seg.push (Seg.lit (f:=zau) (sz:=6) ([]:List Mantle) rfl rfl (fun _=>rfl)) (Seg.refl zau p0))) .nil) ?_
   refine At.zad (W.ret ?_)
   cases H
   exact At.ret env.ty rfl rfl (fun q hq=>by cases hq;exact (by first|rfl|(simp;done)|omega|(simp;omega))) (.refl _) hval
theorem zhP (p0:(List Burn)) {r:(List Burn)} (H:zdu p0=some r):Ctr Tryz.prog 48 [roL 7 zaL p0] (roL 7 zaL r):=by
 unfold zdu at H
 refine Ctr.ob Tryz.func48 Tryz.ntmps48 (fun w0 h0 hval=>?_)
 refine W.rg env [0] [] ?_
 refine W.seq (W.rg env [0,4] [] ?_)
 refine W.zik rfl (fun hz=>?_) ?_
 · obtain rfl:p0=[]:=List.length_eq_zero_iff.1 hz
   obtain ⟨hc1,H⟩:=zab H
   refine W.rg env [2] [] ?_
   refine W.ret (At.rthen ?_)
   cases H
   exact At.ret env.ty rfl rfl nofun (Sim.nil _ _) hval
 · refine W.skip (At.zad (W.seq ?_))
   obtain ⟨hc1,H⟩:=zab H
   refine W.region env [5] [] rfl rfl rfl (.cons (rmI hc1) .nil) .nil (At.kp [2] [5] ?_)
   refine At.zbY (.cons (y:=bufL 67 7 zaL (([]:List Burn)++p0)) (BSim.seg (Seg.push (Seg.lit (f:=zaL) (sz:=7) ([]:List Burn) rfl rfl (fun _=>rfl)) (Seg.refl zaL p0))) .nil) ?_
   refine At.zad (W.ret ?_)
   cases H
   exact At.ret env.ty rfl rfl (fun q hq=>by cases hq;exact (by first|rfl|(simp;done)|omega|(simp;omega))) (.refl _) hval
theorem znU (p0:(List Look)) {r:(List Look)} (H:zcd p0=some r):Ctr Tryz.prog 50 [roL 6 zaD p0] (roL 6 zaD r):=by
 unfold zcd at H
 refine Ctr.ob Tryz.func50 Tryz.ntmps50 (fun w0 h0 hval=>?_)
 refine W.rg env [0] [] ?_
 refine W.seq (W.rg env [0,4] [] ?_)
 refine W.zik rfl (fun hz=>?_) ?_
 · obtain rfl:p0=[]:=List.length_eq_zero_iff.1 hz
   obtain ⟨hc1,H⟩:=zab H
   refine W.rg env [2] [] ?_
   refine W.ret (At.rthen ?_)
   cases H
   exact At.ret env.ty rfl rfl nofun (Sim.nil _ _) hval
 · refine W.skip (At.zad (W.seq ?_))
   obtain ⟨hc1,H⟩:=zab H
   refine W.region env [5] [] rfl rfl rfl (.cons (rmI hc1) .nil) .nil (At.kp [2] [5] ?_)
   refine At.zbY (.cons (y:=bufL 48 6 zaD (([]:List Look)++p0)) (BSim.seg (Seg.push (Seg.lit (f:=zaD) (sz:=6) ([]:List Look) rfl rfl (fun _=>rfl)) (Seg.refl zaD p0))) .nil) ?_
   refine At.zad (W.ret ?_)
   cases H
   exact At.ret env.ty rfl rfl (fun q hq=>by cases hq;exact (by first|rfl|(simp;done)|omega|(simp;omega))) (.refl _) hval
theorem zhl (p0:(List Look)) {r:(List Look)} (H:zcd p0=some r):CtrO Tryz.prog 50 [roL 6 zaD p0] [] (.buf 900 r.length) [(900,bufL 48 6 zaD r)]:=by
 unfold zcd at H
 refine CtrO.zcU (N:=8) Tryz.func50 (by kernel_rfl) (c:=_) rfl Tryz.ntmps50 rfl (fun w0 h0 ρb hval hdom=>?_)
 refine W.rg env [0] [] ?_
 refine W.seq (W.rg env [0,4] [] ?_)
 refine W.zik rfl (fun hz=>?_) ?_
 · obtain rfl:p0=[]:=List.length_eq_zero_iff.1 hz
   obtain ⟨hc1,H⟩:=zab H
   refine W.rg env [2] [] ?_
   refine W.ret (At.rthen ?_)
   cases H
   refine At.zht 2 800 48 6 (e:=fun i=>zaD (([]:List Look).getD i default)) rfl rfl ?_
   exact At.retK env.ty [800] 100 rfl rfl rfl rfl (.cons (.refl _) .nil) (.of_eq (by refine zkR ?_;first|(simp [zeo];done)|omega|(simp [zeo];omega)|rfl)) hval hdom rfl
 · refine W.skip (At.zad (W.seq ?_))
   obtain ⟨hc1,H⟩:=zab H
   refine W.region env [5] [] rfl rfl rfl (.cons (rmI hc1) .nil) .nil (At.kp [2] [5] ?_)
   refine At.zbY (.cons (y:=bufL 48 6 zaD (([]:List Look)++p0)) (BSim.seg (Seg.push (Seg.lit (f:=zaD) (sz:=6) ([]:List Look) rfl rfl (fun _=>rfl)) (Seg.refl zaD p0))) .nil) ?_
   refine At.zad (W.ret ?_)
   cases H
   exact At.retK env.ty [5] 895 rfl rfl rfl rfl (.cons (.refl _) .nil) (.of_eq (by refine zkR ?_;first|(simp [zeo];done)|omega|(simp [zeo];omega)|rfl)) hval hdom rfl
theorem zgN (p0:List Look) (p1:Int) (p2:Look) {r:List Look} (H:zdd p0 p1 p2=some r):CtrO Tryz.prog 49 [.buf 700 p0.length,.int .i64 p1,.buf 701 1] [(700,bufL 48 6 zaD p0),(701,bufL 48 6 zaD [p2])] (.buf 900 r.length) [(701,bufL 48 6 zaD [p2]),(700,.dead),(900,bufL 48 6 zaD r)]:=by
 unfold zdd at H
 obtain ⟨h1,H⟩:=zab H
 obtain ⟨h2,H⟩:=zab H
 cases H
 exact zpa (Go.Av.enters_of Tryz.func49 (by kernel_rfl) (c:=_) rfl) zmK zmL (by kernel_rfl) (by kernel_rfl) (env.ty 48 _ rfl) rfl (by decide) zaD p0 p1 p2 h1 h2
theorem zgV (fuel:Nat) (p0:Wear) (p1:Look) {r:(Wear×Int)} (H:zb9 fuel p0 p1=some r):Ctr Tryz.prog 10 [.agg (zav p0),.agg [.int .i64 (p1.Source),.int .i64 (p1.Lamp),.int .i64 (p1.Night),.bool (p1.Bad),.int .i64 (p1.Known),.int .i64 (p1.Until)]] (.tup [.agg (zav r.1),.int .i64 (r.2)]):=by
 unfold zb9 at H
 refine Ctr.ob Tryz.func10 Tryz.ntmps10 (fun w0 h0 hval=>?_)
 refine W.rg env [2,3,4] [2,3,4] ?_
 refine W.seq (W.seq ?_)
 obtain ⟨y1,hy2,H⟩:=zac H
 refine W.region env [] [⟨.int .i64 (y1),[],0,[]⟩] rfl rfl rfl .nil (.free (zdN p0 hy2) .nil) (At.kp [2,3,4,6] [2,3,4] ?_)
 refine At.zad (W.rg env [2,3,4,6,13] [2,3,4] ?_)
 refine W.co H rfl (fun hb3 H=>?_) (fun hb3 H=>?_)
 · refine W.rg env [4,5] [4] ?_
   refine W.ret (At.rthen ?_)
   cases H
   exact At.ret env.ty rfl rfl nofun (Sim.tupL (.cons (Sim.aggL (.cons (Sim.nil _ _) (.cons (Sim.nil _ _) (.cons (Sim.nil _ _) (.cons (Sim.nil _ _) .nil))))) (.cons (.refl _) .nil))) hval
 · refine W.skip (At.zad (W.seq ?_))
   obtain ⟨y4,hy5,H⟩:=zac H
   refine W.region env [] [⟨.tup [.int .i64 (y4.1),.bool (y4.2)],[],0,[]⟩] rfl rfl rfl .nil (.free (zeP fuel p0.Looks p1 (fun x0 x1=>some (zbW x0 x1)) 44 [] [] (fun x0 x1 r h=>by cases h;exact zi4 x0 x1) hy5) .nil) (At.kp [2,3,4,7,8] [2,3,4] ?_)
   refine At.zad (W.seq (W.block (W.sr env [] [⟨.int .i64 ((zaY p1)),[],0,[]⟩] [2,3,4,7,23] [2,3,4] rfl rfl rfl (.cons (fun h=>by rw [h];rfl) .nil) (.free (zfo p1) .nil) ?_)))
   refine W.co H rfl (fun hb6 H=>?_) (fun hb6 H=>?_)
   · refine W.rg env [4,5] [4] ?_
     refine W.ret (At.rinb ?_)
     refine At.rthen ?_
     cases H
     exact At.ret env.ty rfl rfl nofun (Sim.tupL (.cons (Sim.aggL (.cons (Sim.nil _ _) (.cons (Sim.nil _ _) (.cons (Sim.nil _ _) (.cons (Sim.nil _ _) .nil))))) (.cons (.refl _) .nil))) hval
   · refine W.rg env [2,3,4,7,31] [2,3,4] ?_
     refine W.co H rfl (fun hb7 H=>?_) (fun hb7 H=>?_)
     · refine W.rg env [4,5] [4] ?_
       refine W.ret (At.rinb ?_)
       refine At.rthen ?_
       cases H
       exact At.ret env.ty rfl rfl nofun (Sim.tupL (.cons (Sim.aggL (.cons (Sim.nil _ _) (.cons (Sim.nil _ _) (.cons (Sim.nil _ _) (.cons (Sim.nil _ _) .nil))))) (.cons (.refl _) .nil))) hval
     · refine W.skip (At.inb (At.zad (W.seq ?_)))
       obtain ⟨y8,hy9,H⟩:=zac H
       obtain ⟨y10,hy11,H⟩:=zac H
       obtain ⟨y12,hy13,H⟩:=zac H
       refine W.region env [] [⟨roL 3 zaA y8,[],0,[]⟩,⟨roL 6 zau y10,[],0,[]⟩,⟨roL 7 zaL y12,[],0,[]⟩] rfl rfl (by kernel_rfl) .nil (.free (zhm p0.Batches hy9) (.free (zgQ p0.Mantles hy11) (.free (zhP p0.Burns hy13) .nil))) (At.kp [2,3,4,7,9] [2,3,4,9] ?_)
       refine At.zad (W.seq ?_)
       obtain ⟨y14,hy15,H⟩:=zac H
       obtain ⟨y16,hy17,H⟩:=zac H
       refine W.region env [52] [⟨.buf 900 y14.length,[(900,bufL 48 6 zaD y14)],50000,[]⟩,⟨.buf 54900 y16.length,[(52,bufL 48 6 zaD ([p1]:List Look)),(50900,.dead),(54900,bufL 48 6 zaD y16)],0,[50900,52]⟩] rfl rfl (by kernel_rfl) .nil (.free ((Ctr.ofO (zhl p0.Looks hy15))) (.free (CtrO.sim (CtrO.ren (zgN y14 y4.1 p1 hy17) [(700,50900),(701,52),(900,54900)]) (.cons .qc (.cons (.refl _) (.cons .qc .nil))) (.cons (.refl _) (.cons (BSim.seg (Seg.lit (f:=zaD) (sz:=6) ([p1]:List Look) rfl rfl (fun _=>rfl))) .nil))) .nil)) (At.kp [4,9] [4,9,54900] ?_)
       refine At.zad (W.rg env [4,5] [4,54900] ?_)
       refine W.ret ?_
       cases H
       exact At.ret env.ty rfl rfl (fun q hq=>by cases hq;exact (by first|rfl|(simp;done)|omega|(simp;omega))) (.refl _) hval
theorem zkP (fuel:Nat) (p0:Wear) (p1:Int) {r:(Bool×Int)} (H:zeK fuel p0 p1=some r):Ctr Tryz.prog 11 [.agg (zav p0),.int .i64 (p1)] (.tup [.bool (r.1),.int .i64 (r.2)]):=by
 unfold zeK at H
 refine Ctr.ob Tryz.func11 Tryz.ntmps11 (fun w0 h0 hval=>?_)
 refine W.rg env [1,2] [2] ?_
 refine W.seq (W.seq ?_)
 obtain ⟨y1,hy2,H⟩:=zac H
 refine W.region env [] [⟨.int .i64 (y1),[],0,[]⟩] rfl rfl rfl .nil (.free (Ctr.sim (.cons (.refl _) (.cons (Sim.lit (f:=zaa) ([p1]:List Int) rfl rfl (fun _=>rfl)) .nil)) (zec p0 ([p1]:List Int) hy2)) .nil) (At.kp [1,2,6] [2] ?_)
 refine At.zad (W.rg env [1,2,6,12] [2] ?_)
 refine W.co H rfl (fun hb3 H=>?_) (fun hb3 H=>?_)
 · refine W.rg env [4,5] [] ?_
   refine W.ret (At.rthen ?_)
   cases H
   exact At.rz env hval
 · refine W.skip (At.zad (W.seq ?_))
   obtain ⟨y4,hy5,H⟩:=zac H
   obtain ⟨y6,hy7,H⟩:=zac H
   refine W.region env [] [⟨.agg (zao y4),[],0,[]⟩,⟨.bool (y6),[],0,[]⟩] rfl rfl rfl .nil (.free (zed fuel p0 p0.Looks p1 hy5) (.free (zb4 y4 hy7) .nil)) (At.kp [4,5] [] ?_)
   refine At.zad (W.ret ?_)
   cases H
   exact At.rz env hval
theorem zdz (fuel:Nat) (p0:Wear) (p1:(List Int)) (p2:Int) (p3:Int) (p4:Int) {r:(mantle_lot×Int)} (H:zbV fuel p0 p1 p2 p3 p4=some r):Ctr Tryz.prog 52 [.agg (zav p0),roL 1 zaa p1,.int .i64 (p2),.int .i64 (p3),.int .i64 (p4)] (.tup [.agg (zaj r.1),.int .i64 (r.2)]):=by
 unfold zbV at H
 refine Ctr.ob Tryz.func52 Tryz.ntmps52 (fun w0 h0 hval=>?_)
 refine W.rg env [1,2,3,4,5,10] [5,10] ?_
 refine W.seq ?_
 obtain ⟨y1,hy2,H⟩:=zac H
 refine W.region env [] [⟨.tup [.agg (zaj y1.1),.int .i64 (y1.2)],[],0,[]⟩] rfl rfl rfl .nil (.free (zhy fuel p0 p1 p2 p3 p4 hy2) .nil) (At.kp [10,12,13] [10,12] ?_)
 refine At.zad (W.seq (W.seq ?_))
 obtain ⟨y3,hy4,H⟩:=zac H
 refine W.region env [] [⟨.bool (y3),[],0,[]⟩] rfl rfl rfl (.cons id (.cons id (.cons id (.cons id .nil)))) (.on (fun hW=>zb4 y1.1.closet (zbf hy4 hW)) .nil) (At.kp [10,12,13,30] [10,12] ?_)
 refine At.zad (W.co H rfl (fun hb5 H=>?_) (fun hb5 H=>?_))
 · refine W.rg env [10,11] [10] ?_
   refine W.ret (At.rthen ?_)
   cases H
   exact At.ret env.ty rfl rfl nofun (Sim.tupL (.cons (Sim.aggL (.cons (Sim.nil _ _) (.cons (Sim.nil _ _) (.cons (Sim.nil _ _) (.cons (Sim.nil _ _) (.cons (.refl _) (.cons (Sim.zhI (zs:=[.slice none 0 0,.slice none 0 0,.slice none 0 0,.slice none 0 0,.slice none 0 0,.slice none 0 0]) rfl (Sim.aggL (.cons (Sim.nil _ _) (.cons (Sim.nil _ _) (.cons (Sim.nil _ _) (.cons (Sim.nil _ _) (.cons (Sim.nil _ _) (.cons (Sim.nil _ _) .nil)))))))) (.cons (Sim.nil _ _) (.cons (Sim.nil _ _) (.cons (Sim.nil _ _) (.cons (.refl _) .nil))))))))))) (.cons (.refl _) .nil))) hval
 · refine W.skip (At.zad (W.rg env [10,11] [10] ?_))
   refine W.ret ?_
   cases H
   exact At.rz env hval
theorem zcG (p0:mantle_lot) {r:Range} (H:za1 p0=some r):Ctr Tryz.prog 53 [.agg (zaj p0)] (.agg [.int .i64 (r.Lo),.int .i64 (r.Hi)]):=by
 unfold za1 at H
 refine Ctr.ob Tryz.func53 Tryz.ntmps53 (fun w0 h0 hval=>?_)
 refine W.rg env [1,2] [1,2] ?_
 refine W.rg env [1,2,3] [1,2,3] ?_
 refine W.seq (W.rg env [1,2,3,7,8,9] [1,2,3] ?_)
 refine W.block (At.kp [1,2,3,7,8,9] [1,2,3] ?_)
 refine W.len (t:=7) rfl (fun hn1=>?_)
 refine W.zak H (fun i1 (s1:Range)=>[(1,.lp 1 0),(2,.lp 2 0),(3,.lp 3 0),(7,roL 1 zaa p0.mantles),(8,.int .i64 (((p0.mantles.length:Nat):Int))),(9,.int .i64 ((i1:Int)))]) (fun i1 (s1:Range)=>[(1,.cells (zaj p0)),(2,.cells [.int .i64 (0),.int .i64 (0)]),(3,.cells [.int .i64 (s1.Lo),.int .i64 (s1.Hi)])]) (.cons .q (.cons .q (.cons .q (.cons .q (.cons .qi (.cons .qi .nil)))))) (.cons .q (.cons .q (.cons .q .nil))) (fun k1 i1 s1 hle1 H1 H2 K0 hK1=>?_)
 refine W.rg env [1,2,3,7,8,9,10] [1,2,3] ?_
 refine W.seq (W.cond rfl (fun hb2=>?_) (fun hb2=>?_))
 · have hi1:i1<p0.mantles.length:=ltD hb2
   have H:=H1 hi1
   refine W.skip (At.zad (W.seq (W.block (W.sr env [] [] [1,2,3,5,7,8,9] [1,2,3] rfl rfl rfl (.cons (inD hi1) .nil) .nil ?_))))
   refine W.seq ?_
   obtain ⟨y3,hy4,H⟩:=zac H
   refine W.region env [] [⟨.int .i64 (y3),[],0,[]⟩] rfl rfl rfl .nil (.free (zbN p0.closet (p0.mantles.getD i1 default) p0.night hy4) .nil) (At.kp [1,2,3,7,8,9,18] [1,2,3] ?_)
   refine At.zad (W.block (W.rg env [1,2,3,7,8,9,18,19] [1,2,3] ?_))
   refine W.co H rfl (fun hb5 H=>?_) (fun hb5 H=>?_)
   · obtain ⟨hc6,H⟩:=zab H
     refine W.sr env [] [] [1,2,3,7,8,9] [1,2,3] rfl rfl rfl (.cons hc6 .nil) .nil ?_
     obtain ⟨hc7,H⟩:=zab H
     refine W.r1 env hc7 [1,2,3,7,8,9] [1,2,3] ?_
     refine At.inb (At.inb (At.zad (W.region env [] [] rfl rfl rfl (.cons (incD hi1 hn1) .nil) .nil (At.kp [1,2,3,7,8,9] [1,2,3] ?_))))
     refine At.zaG (At.kp [1,2,3,7,8,9] [1,2,3] ?_)
     exact At.conv (.cons .q (.cons .q (.cons .q (.cons .q (.cons .qi (.cons .qi .nil)))))) (.cons .q (.cons .q (.cons .q .nil))) (hK1 hi1 (⟨(s1.Lo+1),(s1.Hi+1)⟩:Range) H)
   · refine W.rg env [1,2,3,7,8,9,29] [1,2,3] ?_
     refine W.co H rfl (fun hb8 H=>?_) (fun hb8 H=>?_)
     · obtain ⟨hc9,H⟩:=zab H
       refine W.r1 env hc9 [1,2,3,7,8,9] [1,2,3] ?_
       refine At.inb (At.inb (At.zad (W.region env [] [] rfl rfl rfl (.cons (incD hi1 hn1) .nil) .nil (At.kp [1,2,3,7,8,9] [1,2,3] ?_))))
       refine At.zaG (At.kp [1,2,3,7,8,9] [1,2,3] ?_)
       exact At.conv (.cons .q (.cons .q (.cons .q (.cons .q (.cons .qi (.cons .qi .nil)))))) (.cons .q (.cons .q (.cons .q .nil))) (hK1 hi1 (⟨s1.Lo,(s1.Hi+1)⟩:Range) H)
     · refine W.skip (At.inb (At.inb (At.zad (W.region env [] [] rfl rfl rfl (.cons (incD hi1 hn1) .nil) .nil (At.kp [1,2,3,7,8,9] [1,2,3] ?_)))))
       refine At.zaG (At.kp [1,2,3,7,8,9] [1,2,3] ?_)
       exact At.conv (.cons .q (.cons .q (.cons .q (.cons .q (.cons .qi (.cons .qi .nil)))))) (.cons .q (.cons .q (.cons .q .nil))) (hK1 hi1 s1 H)
 · have H:=H2 (geD hb2)
   refine W.exit (At.xthen (At.xthen (At.xhere (At.zad (W.rg env [2] [2] ?_)))))
   refine W.ret ?_
   cases H
   exact At.rz env hval
theorem zm4 (fuel:Nat) (p0:Wear) (p1:(List Int)) (p2:Int) (p3:Int) {r:(Range×Int)} (H:ze2 fuel p0 p1 p2 p3=some r):Ctr Tryz.prog 12 [.agg (zav p0),roL 1 zaa p1,.int .i64 (p2),.int .i64 (p3)] (.tup [.agg [.int .i64 (r.1.Lo),.int .i64 (r.1.Hi)],.int .i64 (r.2)]):=by
 unfold ze2 at H
 refine Ctr.ob Tryz.func12 Tryz.ntmps12 (fun w0 h0 hval=>?_)
 refine W.rg env [1,2,3,4,8] [4,8] ?_
 refine W.seq ?_
 obtain ⟨y1,hy2,H⟩:=zac H
 refine W.region env [] [⟨.tup [.agg (zaj y1.1),.int .i64 (y1.2)],[],0,[]⟩] rfl rfl rfl .nil (.free (zdz fuel p0 p1 p2 p3 0 hy2) .nil) (At.kp [8,10,11] [8,10] ?_)
 refine At.zad (W.seq (W.rg env [8,10,11,21] [8,10] ?_))
 refine W.co H rfl (fun hb3 H=>?_) (fun hb3 H=>?_)
 · refine W.rg env [8,9] [8] ?_
   refine W.ret (At.rthen ?_)
   cases H
   exact At.rz env hval
 · refine W.skip (At.zad (W.seq ?_))
   obtain ⟨y4,hy5,H⟩:=zac H
   refine W.region env [] [⟨.agg [.int .i64 (y4.Lo),.int .i64 (y4.Hi)],[],0,[]⟩] rfl rfl rfl .nil (.free (zcG y1.1 hy5) .nil) (At.kp [8,9] [8] ?_)
   refine At.zad (W.ret ?_)
   cases H
   exact At.rz env hval
theorem zfB (p0:Range) (p1:Int):Ctr Tryz.prog 54 [.agg [.int .i64 (p0.Lo),.int .i64 (p0.Hi)],.int .i64 (p1)] (.int .i64 ((zaw p0 p1))):=by
 obtain ⟨r,H⟩:∃ r,zaw p0 p1=r:=⟨_,rfl⟩
 rw [H]
 unfold zaw at H
 refine Ctr.ob Tryz.func54 Tryz.ntmps54 (fun w0 h0 hval=>?_)
 refine W.rg env [1,2] [2] ?_
 refine W.seq (W.block (W.rg env [1,2,5] [2] ?_))
 refine W.co H rfl (fun hb1 H=>?_) (fun hb1 H=>?_)
 · refine W.rg env [4] [] ?_
   refine W.ret (At.rinb ?_)
   refine At.rthen ?_
   cases H
   exact At.rz env hval
 · refine W.rg env [10] [] ?_
   refine W.co H rfl (fun hb2 H=>?_) (fun hb2 H=>?_)
   · refine W.rg env [4] [] ?_
     refine W.ret (At.rinb ?_)
     refine At.rthen ?_
     cases H
     exact At.rz env hval
   · refine W.skip (At.inb (At.zad (W.rg env [4] [] ?_)))
     refine W.ret ?_
     cases H
     exact At.rz env hval
theorem zhA (fuel:Nat) (p0:Wear) (p1:(List Int)) (p2:Int) (p3:Int) (p4:Int) {r:(Int×Int)} (H:zcQ fuel p0 p1 p2 p3 p4=some r):Ctr Tryz.prog 13 [.agg (zav p0),roL 1 zaa p1,.int .i64 (p2),.int .i64 (p3),.int .i64 (p4)] (.tup [.int .i64 (r.1),.int .i64 (r.2)]):=by
 unfold zcQ at H
 refine Ctr.ob Tryz.func13 Tryz.ntmps13 (fun w0 h0 hval=>?_)
 refine W.rg env [1,2,3,4,5] [5] ?_
 refine W.seq ?_
 obtain ⟨y1,hy2,H⟩:=zac H
 refine W.region env [] [⟨.tup [.agg (zaj y1.1),.int .i64 (y1.2)],[],0,[]⟩] rfl rfl rfl .nil (.free (zdz fuel p0 p1 p2 p3 p4 hy2) .nil) (At.kp [4,12,13] [12] ?_)
 refine At.zad (W.seq (W.rg env [4,12,13,24] [12] ?_))
 refine W.co H rfl (fun hb3 H=>?_) (fun hb3 H=>?_)
 · refine W.rg env [10,11] [] ?_
   refine W.ret (At.rthen ?_)
   cases H
   exact At.rz env hval
 · refine W.skip (At.zad (W.seq ?_))
   obtain ⟨y4,hy5,H⟩:=zac H
   refine W.region env [] [⟨.agg [.int .i64 (y4.Lo),.int .i64 (y4.Hi)],[],0,[]⟩,⟨.int .i64 ((zaw y4 p4)),[],0,[]⟩] rfl rfl rfl .nil (.free (zcG y1.1 hy5) (.free (zfB y4 p4) .nil)) (At.kp [10,11] [] ?_)
   refine At.zad (W.ret ?_)
   cases H
   exact At.rz env hval
theorem zdY (p0:(List Int)) (p1:Int) {r:Bool} (H:zbR p0 p1=some r):Ctr Tryz.prog 15 [roL 1 zaa p0,.int .i64 (p1)] (.bool (r)):=by
 unfold zbR at H
 refine Ctr.ob Tryz.func15 Tryz.ntmps15 (fun w0 h0 hval=>?_)
 refine W.rg env [0,1] [] ?_
 refine W.seq (W.rg env [1,7,8,9] [] ?_)
 refine W.block (At.kp [1,7,8,9] [] ?_)
 refine W.len (t:=7) rfl (fun hn1=>?_)
 refine W.zak H (fun i1 (s1:Unit)=>[(1,.int .i64 (p1)),(7,roL 1 zaa p0),(8,.int .i64 (((p0.length:Nat):Int))),(9,.int .i64 ((i1:Int)))]) (fun i1 (s1:Unit)=>[]) (.cons .qi (.cons .q (.cons .qi (.cons .qi .nil)))) .nil (fun k1 i1 s1 hle1 H1 H2 K0 hK1=>?_)
 refine W.rg env [1,7,8,9,10] [] ?_
 refine W.seq (W.cond rfl (fun hb2=>?_) (fun hb2=>?_))
 · have hi1:i1<p0.length:=ltD hb2
   have H:=H1 hi1
   refine W.skip (At.zad (W.seq (W.block (W.sr env [] [] [1,6,7,8,9] [] rfl rfl rfl (.cons (inD hi1) .nil) .nil ?_))))
   refine W.rg env [1,7,8,9,15] [] ?_
   refine W.co H rfl (fun hb3 H=>?_) (fun hb3 H=>?_)
   · refine W.rg env [4] [] ?_
     refine W.ret (At.rinb ?_)
     refine At.rthen ?_
     refine At.rthen ?_
     refine At.rinb ?_
     refine At.rthen ?_
     cases H
     exact At.rz env hval
   · refine W.skip (At.inb (At.zad (W.region env [] [] rfl rfl rfl (.cons (incD hi1 hn1) .nil) .nil (At.kp [1,7,8,9] [] ?_))))
     refine At.zaG (At.kp [1,7,8,9] [] ?_)
     exact At.conv (.cons .qi (.cons .q (.cons .qi (.cons .qi .nil)))) .nil (hK1 hi1 () H)
 · have H:=H2 (geD hb2)
   refine W.exit (At.xthen (At.xthen (At.xhere (At.zad (W.rg env [4] [] ?_)))))
   refine W.ret ?_
   cases H
   exact At.rz env hval
theorem zda (p0:mantle_lot) {r:(List Int)} (H:zbg p0=some r):Ctr Tryz.prog 60 [.agg (zaj p0)] (roL 1 zaa r):=by
 unfold zbg at H
 refine Ctr.ob Tryz.func60 Tryz.ntmps60 (fun w0 h0 hval=>?_)
 refine W.rg env [1] [1] ?_
 refine W.rg env [1,3] [1] ?_
 refine W.seq (W.rg env [1,3,7,8,9] [1] ?_)
 refine W.block (At.zht 3 503 3 1 (e:=fun i=>zaa (([]:List Int).getD i default)) rfl rfl ?_)
 refine At.kp [1,3,7,8,9] [1,503] ?_
 refine W.len (t:=7) rfl (fun hn1=>?_)
 refine W.zak H (fun i1 (s1:(List Int))=>[(1,.lp 1 0),(3,.buf 503 (s1).length),(7,roL 1 zaa p0.mantles),(8,.int .i64 (((p0.mantles.length:Nat):Int))),(9,.int .i64 ((i1:Int)))]) (fun i1 (s1:(List Int))=>[(1,.cells (zaj p0)),(503,bufL 3 1 zaa s1)]) (.cons .q (.cons .qb (.cons .q (.cons .qi (.cons .qi .nil))))) (.cons .q (.cons .q .nil)) (fun k1 i1 s1 hle1 H1 H2 K0 hK1=>?_)
 refine W.rg env [1,3,7,8,9,10] [1,503] ?_
 refine W.seq (W.cond rfl (fun hb2=>?_) (fun hb2=>?_))
 · have hi1:i1<p0.mantles.length:=ltD hb2
   have H:=H1 hi1
   refine W.skip (At.zad (W.seq (W.block (W.sr env [] [] [1,3,4,5,7,8,9] [1,503] rfl rfl rfl (.cons (inD hi1) .nil) .nil ?_))))
   refine W.seq ?_
   obtain ⟨y3,hy4,H⟩:=zac H
   refine W.region env [] [⟨.int .i64 (y3),[],0,[]⟩] rfl rfl rfl .nil (.free (zbN p0.closet (p0.mantles.getD i1 default) p0.night hy4) .nil) (At.kp [1,3,4,7,8,9,20] [1,503] ?_)
   refine At.zad (W.co H rfl (fun hb5 H=>?_) (fun hb5 H=>?_))
   · obtain ⟨hc6,H⟩:=zab H
     refine W.region env [] [] rfl rfl rfl (.cons (rmI hc6) .nil) .nil (At.kp [1,3,7,8,9] [1,503] ?_)
     refine At.zbY (.cons (.refl _) (.cons (y:=bufL 3 1 zaa (s1++([(i1:Int)]:List Int))) (BSim.seg (Seg.push (Seg.refl zaa _) (Seg.lit (f:=zaa) (sz:=1) ([(i1:Int)]:List Int) rfl rfl (fun _=>rfl)))) .nil)) ?_
     refine At.inb (At.zad (W.region env [] [] rfl rfl rfl (.cons (incD hi1 hn1) .nil) .nil (At.kp [1,3,7,8,9] [1,503] ?_)))
     refine At.zaG (At.kp [1,3,7,8,9] [1,503] ?_)
     exact At.conv (.cons .q (.cons .qb (.cons .q (.cons .qi (.cons .qi .nil))))) (.cons .q (.cons .q .nil)) (hK1 hi1 (s1++([(i1:Int)]:List Int)) H)
   · refine W.skip (At.inb (At.zad (W.region env [] [] rfl rfl rfl (.cons (incD hi1 hn1) .nil) .nil (At.kp [1,3,7,8,9] [1,503] ?_))))
     refine At.zaG (At.kp [1,3,7,8,9] [1,503] ?_)
     exact At.conv (.cons .q (.cons .qb (.cons .q (.cons .qi (.cons .qi .nil))))) (.cons .q (.cons .q .nil)) (hK1 hi1 s1 H)
 · have H:=H2 (geD hb2)
   refine W.exit (At.xthen (At.xthen (At.xhere (At.zad (W.rg env [2] [503] ?_)))))
   refine W.ret ?_
   cases H
   exact At.ret env.ty rfl rfl (fun q hq=>by cases hq;exact (by first|rfl|(simp;done)|omega|(simp;omega))) (.refl _) hval
theorem zng (p0:(List Range)) {r:(List Range)} (H:zb2 p0=some r):Ctr Tryz.prog 136 [roL 2 zaI p0] (roL 2 zaI r):=by
 unfold zb2 at H
 refine Ctr.ob Tryz.func136 Tryz.ntmps136 (fun w0 h0 hval=>?_)
 refine W.rg env [0] [] ?_
 refine W.seq (W.rg env [0,4] [] ?_)
 refine W.zik rfl (fun hz=>?_) ?_
 · obtain rfl:p0=[]:=List.length_eq_zero_iff.1 hz
   obtain ⟨hc1,H⟩:=zab H
   refine W.rg env [2] [] ?_
   refine W.ret (At.rthen ?_)
   cases H
   exact At.ret env.ty rfl rfl nofun (Sim.nil _ _) hval
 · refine W.skip (At.zad (W.seq ?_))
   obtain ⟨hc1,H⟩:=zab H
   refine W.region env [5] [] rfl rfl rfl (.cons (rmI hc1) .nil) .nil (At.kp [2] [5] ?_)
   refine At.zbY (.cons (y:=bufL 52 2 zaI (([]:List Range)++p0)) (BSim.seg (Seg.push (Seg.lit (f:=zaI) (sz:=2) ([]:List Range) rfl rfl (fun _=>rfl)) (Seg.refl zaI p0))) .nil) ?_
   refine At.zad (W.ret ?_)
   cases H
   exact At.ret env.ty rfl rfl (fun q hq=>by cases hq;exact (by first|rfl|(simp;done)|omega|(simp;omega))) (.refl _) hval
theorem zgM (p0:(List Range)) {r:(List Range)} (H:zb2 p0=some r):CtrO Tryz.prog 136 [roL 2 zaI p0] [] (.buf 900 r.length) [(900,bufL 52 2 zaI r)]:=by
 unfold zb2 at H
 refine CtrO.zcU (N:=8) Tryz.func136 (by kernel_rfl) (c:=_) rfl Tryz.ntmps136 rfl (fun w0 h0 ρb hval hdom=>?_)
 refine W.rg env [0] [] ?_
 refine W.seq (W.rg env [0,4] [] ?_)
 refine W.zik rfl (fun hz=>?_) ?_
 · obtain rfl:p0=[]:=List.length_eq_zero_iff.1 hz
   obtain ⟨hc1,H⟩:=zab H
   refine W.rg env [2] [] ?_
   refine W.ret (At.rthen ?_)
   cases H
   refine At.zht 2 800 52 2 (e:=fun i=>zaI (([]:List Range).getD i default)) rfl rfl ?_
   exact At.retK env.ty [800] 100 rfl rfl rfl rfl (.cons (.refl _) .nil) (.of_eq (by refine zkR ?_;first|(simp [zeo];done)|omega|(simp [zeo];omega)|rfl)) hval hdom rfl
 · refine W.skip (At.zad (W.seq ?_))
   obtain ⟨hc1,H⟩:=zab H
   refine W.region env [5] [] rfl rfl rfl (.cons (rmI hc1) .nil) .nil (At.kp [2] [5] ?_)
   refine At.zbY (.cons (y:=bufL 52 2 zaI (([]:List Range)++p0)) (BSim.seg (Seg.push (Seg.lit (f:=zaI) (sz:=2) ([]:List Range) rfl rfl (fun _=>rfl)) (Seg.refl zaI p0))) .nil) ?_
   refine At.zad (W.ret ?_)
   cases H
   exact At.retK env.ty [5] 895 rfl rfl rfl rfl (.cons (.refl _) .nil) (.of_eq (by refine zkR ?_;first|(simp [zeo];done)|omega|(simp [zeo];omega)|rfl)) hval hdom rfl
theorem ze9 (p0:mantle_closet) (p1:Int) (p2:Range) {r:mantle_closet} (H:zbo p0 p1 p2=some r):CtrO Tryz.prog 83 [.agg [roL 3 zaA p0.w.Batches,roL 6 zau p0.w.Mantles,roL 7 zaL p0.w.Burns,roL 6 zaD p0.w.Looks,.int .i64 (p0.known),.mp 90000,.buf 90001 (p0.lives).length],.int .i64 (p1),.agg [.int .i64 (p2.Lo),.int .i64 (p2.Hi)]] [(90000,mapL zz6 zah p0.coats),(90001,bufL 52 2 zaI p0.lives)] (.tup []) [(90000,mapL zz6 zah r.coats),(90001,bufL 52 2 zaI r.lives)]:=by
 unfold zbo at H
 refine CtrL.zcU (N:=17) Tryz.func83 (by kernel_rfl) (c:=_) rfl Tryz.ntmps83 rfl rfl (fun w0 h0 ρb hval hdom hent=>?_)
 refine W.rg env [1,3,5] [3,5,90000,90001] ?_
 obtain ⟨hc1,H⟩:=zab H
 obtain ⟨hc2,H⟩:=zab H
 refine W.region env [] [⟨.agg [.int .i64 ((zaT (p0.lives.getD (p1).toNat default) p2).Lo),.int .i64 ((zaT (p0.lives.getD (p1).toNat default) p2).Hi)],[],0,[]⟩] rfl rfl (by kernel_rfl) (.cons (⟨by first|rfl|(simp;done)|omega|(simp;omega),hc1⟩) (.cons (⟨by first|rfl|(simp;done)|omega|(simp;omega),(by have:=hc1;first|omega|(simp only [List.length_set];omega)|(simp only [Int.toNat_natCast] at *;omega)|(simp at this ⊢;omega))⟩) (.cons (⟨by first|rfl|(simp;done)|omega|(simp;omega),hc2⟩) (.cons (⟨by first|rfl|(simp;done)|omega|(simp;omega),(by have:=hc2;first|omega|(simp only [List.length_set];omega)|(simp only [Int.toNat_natCast] at *;omega)|(simp at this ⊢;omega))⟩) .nil)))) (.free (zgg (p0.lives.getD (p1).toNat default) p2) .nil) (At.kp [] [90000,90001] ?_)
 refine At.zbY (.cons (.refl _) (.cons (y:=bufL 52 2 zaI (p0.lives.set (p1).toNat (zaT (p0.lives.getD (p1).toNat default) p2))) (BSim.seg (Seg.set (Seg.refl zaI _) (zaT (p0.lives.getD (p1).toNat default) p2) rfl)) .nil)) ?_
 refine At.zd8 ?_
 cases H
 exact At.retL env.ty [90000,90001] rfl rfl rfl rfl (.cons (.refl _) (.cons (.refl _) .nil)) (.refl _) hval hdom hent rfl rfl
theorem zdF (p0:mantle_lot) (p1:(List Int)) (p2:Bool) {r:mantle_lot} (H:zbz p0 p1 p2=some r):Ctr Tryz.prog 104 [.agg (zaj p0),roL 1 zaa p1,.bool (p2)] (.agg (zaj r)):=by
 unfold zbz at H
 refine Ctr.ob Tryz.func104 Tryz.ntmps104 (fun w0 h0 hval=>?_)
 refine W.rg env [1,2,3,6] [3,6] ?_
 refine W.rg env [1,2,3,6,7] [3,6,7] ?_
 refine W.seq (W.region env [] [] rfl rfl rfl .nil .nil (At.kp [1,2,3,6,7] [3,6,7,14] ?_))
 refine At.zbY (.cons (.refl _) (.cons (.refl _) (.cons (.refl _) (.cons (y:=mapL zz6 zah (Mp.empty:Mp mantle_coat)) (BSim.zpS (f:=zah) (zhY.empty (f:=zah) (Sim.aggL (.cons (Sim.nil _ _) (.cons (Sim.nil _ _) (.cons (Sim.nil _ _) (.cons (Sim.nil _ _) (.cons (Sim.nil _ _) (.cons (Sim.nil _ _) .nil))))))))) .nil)))) ?_
 refine At.zad (W.seq (W.rg env [1,2,3,6,7,20] [3,6,7,14,20] ?_))
 refine W.block (At.kp [1,2,3,6,7,20] [20,3,6,7,14] ?_)
 refine At.zlJ 20 rfl (fun left hleft=>?_)
 refine At.kp [1,2,3,6,7,20] [20,3,6,7,14] ?_
 refine W.zlK (S:=List Int) 20 (fun k=>zah ((p0.closet.coats.get k).getD default)) (fun left (s1:List Int)=>left=s1∧left.Nodup∧(∀ k,k∈left→(p0.closet.coats.get k).isSome=true)∧left.length≤p0.closet.coats.card) (fun _=>[(1,roL 1 zaa p1),(2,.bool (p2)),(3,.lp 3 0),(6,.lp 6 0),(7,.lp 7 0),(20,.lp 20 0)]) (fun s1=>[(3,.cells (zaj p0)),(6,.cells [.nilS,.nilS,.nilS,.nilS,.int .i64 (0),.nilMap,.nilS,.nilS,.nilS,.int .i64 (0)]),(7,.cells [roL 3 zaA p0.closet.w.Batches,roL 6 zau p0.closet.w.Mantles,roL 7 zaL p0.closet.w.Burns,roL 6 zaD p0.closet.w.Looks,.int .i64 (p0.closet.known),.mp 14,roL 2 zaI p0.closet.lives,roL 1 zaa p0.lamps,roL 1 zaa p0.mantles,.int .i64 (p0.night)]),(14,zjG zz6 zah p0.closet.coats s1)]) (s0:=left) ⟨rfl,hleft.1,fun k hk=>(hleft.2.2 k).2 hk,Nat.le_of_eq hleft.2.1⟩ (.cons (.refl _) (.cons (.refl _) (.cons (.refl _) (.cons (.refl _) (.cons (.refl _) (.cons (.refl _) .nil)))))) (.cons (.refl _) (.cons (.refl _) (.cons (.refl _) (.cons (.refl _) (.cons (BSim.zqA hleft) .nil))))) (fun left1 s1 HJ1 K hK1=>?_)
 obtain ⟨hs1,hnd1,hkd1,hlen1⟩:=HJ1
 subst hs1
 refine W.seq (W.next rfl rfl rfl rfl rfl rfl rfl rfl rfl rfl rfl (fun hz=>?_) (fun q1 left2 hp1=>?_))
 · subst hz
   refine At.kp [1,2,3,6,7,20,22] [20,3,6,7,14] ?_
   refine At.zbY (.cons (.refl _) (.cons (.refl _) (.cons (.refl _) (.cons (.refl _) (.cons BSim.zst .nil))))) ?_
   refine At.zad (W.seq (W.cond rfl (fun hb3=>by cases hb3) (fun hb3=>?_)))
   refine W.exit (At.xthen (At.xthen (At.xhere (At.zad (W.seq ?_)))))
   obtain ⟨y4,hy5,H⟩:=zac H
   refine W.region env [] [⟨.buf 900 y4.length,[(900,bufL 52 2 zaI y4)],35000,[]⟩] rfl rfl (by kernel_rfl) .nil (.free ((Ctr.ofO (zgM p0.closet.lives hy5))) .nil) (At.kp [1,2,3,6,7] [3,6,7,14,35900] ?_)
   refine At.zad (W.seq (W.rg env [2,3,6,7,37,38,39] [3,6,7,14,35900] ?_))
   refine W.block (At.kp [2,3,6,7,37,38,39] [3,6,7,14,35900] ?_)
   refine W.len (t:=37) rfl (fun hn6=>?_)
   refine W.zak H (fun i6 (s6:(List Range)×(Mp mantle_coat))=>[(2,.bool (p2)),(3,.lp 3 0),(6,.lp 6 0),(7,.lp 7 0),(37,roL 1 zaa p1),(38,.int .i64 (((p1.length:Nat):Int))),(39,.int .i64 ((i6:Int)))]) (fun i6 (s6:(List Range)×(Mp mantle_coat))=>[(3,.cells (zaj p0)),(6,.cells [.nilS,.nilS,.nilS,.nilS,.int .i64 (0),.nilMap,.nilS,.nilS,.nilS,.int .i64 (0)]),(7,.cells [roL 3 zaA p0.closet.w.Batches,roL 6 zau p0.closet.w.Mantles,roL 7 zaL p0.closet.w.Burns,roL 6 zaD p0.closet.w.Looks,.int .i64 (p0.closet.known),.mp 14,.buf 35900 (s6.1).length,roL 1 zaa p0.lamps,roL 1 zaa p0.mantles,.int .i64 (p0.night)]),(14,mapL zz6 zah s6.2),(35900,bufL 52 2 zaI s6.1)]) (.cons .q (.cons .q (.cons .q (.cons .q (.cons .q (.cons .qi (.cons .qi .nil))))))) (.cons .q (.cons (BSim.cells (.cons Sim.o (.cons Sim.o (.cons Sim.o (.cons Sim.o (.cons .q (.cons .q (.cons Sim.o (.cons Sim.o (.cons Sim.o (.cons .q .nil))))))))))) (.cons (BSim.cells (.cons .q (.cons .q (.cons .q (.cons .q (.cons .q (.cons .q (.cons .qc (.cons .q (.cons .q (.cons .q .nil))))))))))) (.cons .q (.cons .q .nil))))) (fun k6 i6 s6 hle6 H1 H2 K0 hK6=>?_)
   refine W.rg env [2,3,6,7,37,38,39,40] [3,6,7,14,35900] ?_
   refine W.seq (W.cond rfl (fun hb7=>?_) (fun hb7=>?_))
   · have hi6:i6<p1.length:=ltD hb7
     have H:=H1 hi6
     refine W.skip (At.zad (W.seq (W.block (W.sr env [] [] [2,3,6,7,11,37,38,39] [3,6,7,14,35900] rfl rfl rfl (.cons (inD hi6) .nil) .nil ?_))))
     obtain ⟨hc8,H⟩:=zab H
     refine W.sr env [] [] [2,3,6,7,12,37,38,39] [3,6,7,14,35900] rfl rfl rfl (.cons hc8 .nil) .nil ?_
     refine W.seq ?_
     obtain ⟨y9,hy10,H⟩:=zac H
     refine W.region env [] [⟨.agg (zat y9),[],0,[]⟩] rfl rfl (by kernel_rfl) (.cons rfl .nil) (.free (zdX ((s6.2.get (p0.mantles.getD ((p1.getD i6 default)).toNat default)).getD default) (⟨p0.night,p2⟩:mantle_sight) hy10) .nil) (At.kp [2,3,6,7,12,37,38,39] [3,6,7,14,35900] ?_)
     refine At.zbY (.cons (.refl _) (.cons (.refl _) (.cons (.refl _) (.cons (y:=mapL zz6 zah (s6.2.set (p0.mantles.getD ((p1.getD i6 default)).toNat default) y9)) (BSim.mseg (f:=zah) (MSeg.set (MSeg.refl zah _) y9 rfl)) (.cons (.refl _) .nil))))) ?_
     refine At.zad ?_
     obtain ⟨y11,hy12,H⟩:=zac H
     obtain ⟨y13,hy14,H⟩:=zac H
     obtain ⟨y15,hy16,H⟩:=zac H
     obtain ⟨hc17,H⟩:=zab H
     refine W.region env [] [⟨.int .i64 (y11),[],0,[]⟩,⟨.agg [.int .i64 (y13.Lo),.int .i64 (y13.Hi)],[],0,[]⟩,⟨.tup [],[(14,mapL zz6 zah y15.coats),(35900,bufL 52 2 zaI y15.lives)],0,[14,35900]⟩] rfl rfl (by kernel_rfl) (.cons (by first|rfl|(simp;done)|omega|(simp;omega)) (.cons rfl .nil)) (.free (zcm (⟨p0.closet.w,p0.closet.known,(s6.2.set (p0.mantles.getD ((p1.getD i6 default)).toNat default) y9),s6.1⟩:mantle_closet) (p0.mantles.getD ((p1.getD i6 default)).toNat default) hy12) (.free (zdG (((s6.2.set (p0.mantles.getD ((p1.getD i6 default)).toNat default) y9).get (p0.mantles.getD ((p1.getD i6 default)).toNat default)).getD default) hy14) (.free (CtrO.sim (CtrO.ren (ze9 (⟨p0.closet.w,p0.closet.known,(s6.2.set (p0.mantles.getD ((p1.getD i6 default)).toNat default) y9),s6.1⟩:mantle_closet) y11 y13 hy16) [(90000,14),(90001,35900)]) (.cons (Sim.aggL (.cons (.refl _) (.cons (.refl _) (.cons (.refl _) (.cons (.refl _) (.cons (.refl _) (.cons (.refl _) (.cons .qc .nil)))))))) (.cons (.refl _) (.cons (.refl _) .nil))) (.cons (.refl _) (.cons (.refl _) .nil))) .nil))) (At.kp [2,3,6,7,37,38,39] [3,6,7,14,35900] ?_)
     refine At.inb (At.zad (W.region env [] [] rfl rfl rfl (.cons (incD hi6 hn6) .nil) .nil (At.kp [2,3,6,7,37,38,39] [3,6,7,14,35900] ?_)))
     refine At.zaG (At.kp [2,3,6,7,37,38,39] [3,6,7,14,35900] ?_)
     exact At.conv (.cons .q (.cons .q (.cons .q (.cons .q (.cons .q (.cons .qi (.cons .qi .nil))))))) (.cons .q (.cons (BSim.cells (.cons Sim.o (.cons Sim.o (.cons Sim.o (.cons Sim.o (.cons .q (.cons .q (.cons Sim.o (.cons Sim.o (.cons Sim.o (.cons .q .nil))))))))))) (.cons (BSim.cells (.cons .q (.cons .q (.cons .q (.cons .q (.cons .q (.cons .q (.cons .qc (.cons .q (.cons .q (.cons .q .nil))))))))))) (.cons .q (.cons .q .nil))))) (hK6 hi6 (y15.lives,y15.coats) H)
   · have H:=H2 (geD hb7)
     refine W.exit (At.xthen (At.xthen (At.xhere (At.zad (W.rg env [6] [6,14,35900] ?_)))))
     refine W.ret ?_
     cases H
     exact At.ret env.ty rfl rfl (fun q hq=>by cases hq;exact (by first|rfl|(simp;done)|omega|(simp;omega))) (.refl _) hval
 · refine At.zad (W.seq (W.cond rfl (fun hb2=>?_) (fun hb2=>by cases hb2)))
   refine W.skip (At.zad (W.block (W.rg env [1,2,3,6,7,8,9,20] [3,6,7,9,14,20] ?_)))
   refine W.region env [] [] rfl rfl rfl .nil .nil (At.kp [1,2,3,6,7,20] [3,6,7,14,20] ?_)
   refine At.inb (At.zaG (At.kp [1,2,3,6,7,20] [20,3,6,7,14] ?_))
   exact At.conv (.cons (.refl _) (.cons (.refl _) (.cons (.refl _) (.cons (.refl _) (.cons (.refl _) (.cons (.refl _) .nil)))))) (.cons (.refl _) (.cons (.refl _) (.cons (.refl _) (.cons (.refl _) (.cons (BSim.zrz (f:=zah) hp1 hnd1 (hkd1 _ (hp1.mem_iff.2 (List.mem_cons_self ..))) hlen1) .nil))))) (hK1 _ left2 left2 hp1 ⟨rfl,(List.nodup_cons.1 (hp1.nodup_iff.1 hnd1)).2,fun k hk=>hkd1 k (hp1.mem_iff.2 (List.mem_cons_of_mem _ hk)),by have:=hp1.length_eq;simp at this;omega⟩)
theorem zdp (p0:mantle_lot) (p1:(List Int)) (p2:Bool) {r:Int} (H:zbb p0 p1 p2=some r):Ctr Tryz.prog 98 [.agg (zaj p0),roL 1 zaa p1,.bool (p2)] (.int .i64 (r)):=by
 unfold zbb at H
 refine Ctr.ob Tryz.func98 Tryz.ntmps98 (fun w0 h0 hval=>?_)
 refine W.rg env [1,2,3] [3] ?_
 refine W.seq ?_
 obtain ⟨y1,hy2,H⟩:=zac H
 refine W.region env [] [⟨.agg (zaj y1),[],0,[]⟩] rfl rfl rfl .nil (.free (zdF p0 p1 p2 hy2) .nil) (At.kp [3,7] [3,7] ?_)
 refine At.zad (W.rg env [3,7,8] [3,7] ?_)
 refine W.seq (W.seq ?_)
 obtain ⟨y3,hy4,H⟩:=zac H
 refine W.region env [] [⟨roL 1 zaa y3,[],0,[]⟩] rfl rfl rfl .nil (.free (zda p0 hy4) .nil) (At.kp [3,7,8,16,17,18] [3,7] ?_)
 refine At.zad (W.block (At.kp [3,7,8,16,17,18] [3,7] ?_))
 refine W.len (t:=16) rfl (fun hn5=>?_)
 refine W.zak H (fun i5 (s5:Int)=>[(3,.lp 3 0),(7,.lp 7 0),(8,.int .i64 (s5)),(16,roL 1 zaa y3),(17,.int .i64 (((y3.length:Nat):Int))),(18,.int .i64 ((i5:Int)))]) (fun i5 (s5:Int)=>[(3,.cells (zaj p0)),(7,.cells (zaj y1))]) (.cons .q (.cons .q (.cons .qi (.cons .q (.cons .qi (.cons .qi .nil)))))) (.cons .q (.cons .q .nil)) (fun k5 i5 s5 hle5 H1 H2 K0 hK5=>?_)
 refine W.rg env [3,7,8,16,17,18,19] [3,7] ?_
 refine W.seq (W.cond rfl (fun hb6=>?_) (fun hb6=>?_))
 · have hi5:i5<y3.length:=ltD hb6
   have H:=H1 hi5
   refine W.skip (At.zad (W.seq (W.block (W.sr env [] [] [3,7,8,10,16,17,18] [3,7] rfl rfl rfl (.cons (inD hi5) .nil) .nil ?_))))
   refine W.seq ?_
   obtain ⟨hc7,H⟩:=zab H
   obtain ⟨y8,hy9,H⟩:=zac H
   refine W.region env [] [⟨.int .i64 (y8),[],0,[]⟩] rfl rfl (by kernel_rfl) (.cons hc7 .nil) (.free (zbN y1.closet (p0.mantles.getD ((y3.getD i5 default)).toNat default) p0.night hy9) .nil) (At.kp [3,7,8,16,17,18,32] [3,7] ?_)
   refine At.zad (W.co H rfl (fun hb10 H=>?_) (fun hb10 H=>?_))
   · obtain ⟨hc11,H⟩:=zab H
     refine W.r1 env hc11 [3,7,8,16,17,18] [3,7] ?_
     refine At.inb (At.zad (W.region env [] [] rfl rfl rfl (.cons (incD hi5 hn5) .nil) .nil (At.kp [3,7,8,16,17,18] [3,7] ?_)))
     refine At.zaG (At.kp [3,7,8,16,17,18] [3,7] ?_)
     exact At.conv (.cons .q (.cons .q (.cons .qi (.cons .q (.cons .qi (.cons .qi .nil)))))) (.cons .q (.cons .q .nil)) (hK5 hi5 (s5+1) H)
   · refine W.skip (At.inb (At.zad (W.region env [] [] rfl rfl rfl (.cons (incD hi5 hn5) .nil) .nil (At.kp [3,7,8,16,17,18] [3,7] ?_))))
     refine At.zaG (At.kp [3,7,8,16,17,18] [3,7] ?_)
     exact At.conv (.cons .q (.cons .q (.cons .qi (.cons .q (.cons .qi (.cons .qi .nil)))))) (.cons .q (.cons .q .nil)) (hK5 hi5 s5 H)
 · have H:=H2 (geD hb6)
   refine W.exit (At.xthen (At.xthen (At.xhere (At.zad (W.rg env [6] [] ?_)))))
   refine W.ret ?_
   cases H
   exact At.rz env hval
theorem zhQ (p0:mantle_lot) (p1:Int) (p2:Bool) {r:(List (List Int))} (H:zcK p0 p1 p2=some r):Ctr Tryz.prog 96 [.agg (zaj p0),.int .i64 (p1),.bool (p2)] (roL 1 zcC r):=by
 unfold zcK at H
 refine Ctr.ob Tryz.func96 Tryz.ntmps96 (fun w0 h0 hval=>?_)
 refine W.rg env [1,2,3] [3] ?_
 refine W.rg env [1,2,3,7] [3] ?_
 refine W.seq (W.seq ?_)
 obtain ⟨y1,hy2,H⟩:=zac H
 refine W.region env [] [⟨roL 1 zaa y1,[],0,[]⟩] rfl rfl rfl .nil (.free (zda p0 hy2) .nil) (At.kp [1,2,3,7,22,23,24] [3] ?_)
 refine At.zad (W.block (At.zht 7 507 3 1 (e:=fun i=>zaa (([]:List Int).getD i default)) rfl rfl ?_))
 refine At.kp [1,2,3,7,22,23,24] [3,507] ?_
 refine W.len (t:=22) rfl (fun hn3=>?_)
 refine W.zak H (fun i3 (s3:(List Int))=>[(1,.int .i64 (p1)),(2,.bool (p2)),(3,.lp 3 0),(7,.buf 507 (s3).length),(22,roL 1 zaa y1),(23,.int .i64 (((y1.length:Nat):Int))),(24,.int .i64 ((i3:Int)))]) (fun i3 (s3:(List Int))=>[(3,.cells (zaj p0)),(507,bufL 3 1 zaa s3)]) (.cons .qi (.cons .q (.cons .q (.cons .qb (.cons .q (.cons .qi (.cons .qi .nil))))))) (.cons .q (.cons .q .nil)) (fun k3 i3 s3 hle3 H1 H2 K0 hK3=>?_)
 refine W.rg env [1,2,3,7,22,23,24,25] [3,507] ?_
 refine W.seq (W.cond rfl (fun hb4=>?_) (fun hb4=>?_))
 · have hi3:i3<y1.length:=ltD hb4
   have H:=H1 hi3
   refine W.skip (At.zad (W.seq (W.block (W.sr env [] [] [1,2,3,7,9,22,23,24] [3,507] rfl rfl rfl (.cons (inD hi3) .nil) .nil ?_))))
   refine W.seq ?_
   obtain ⟨hc5,H⟩:=zab H
   obtain ⟨y6,hy7,H⟩:=zac H
   refine W.region env [] [⟨.int .i64 (y6),[],0,[]⟩] rfl rfl (by kernel_rfl) (.cons hc5 .nil) (.free (zcm p0.closet (p0.mantles.getD ((y1.getD i3 default)).toNat default) hy7) .nil) (At.kp [1,2,3,7,9,22,23,24,37] [3,507] ?_)
   refine At.zad (W.co H rfl (fun hb8 H=>?_) (fun hb8 H=>?_))
   · obtain ⟨hc9,H⟩:=zab H
     refine W.region env [] [] rfl rfl rfl (.cons (rmI hc9) .nil) .nil (At.kp [1,2,3,7,22,23,24] [3,507] ?_)
     refine At.zbY (.cons (.refl _) (.cons (y:=bufL 3 1 zaa (s3++([(y1.getD i3 default)]:List Int))) (BSim.seg (Seg.push (Seg.refl zaa _) (Seg.lit (f:=zaa) (sz:=1) ([(y1.getD i3 default)]:List Int) rfl rfl (fun _=>rfl)))) .nil)) ?_
     refine At.inb (At.zad (W.region env [] [] rfl rfl rfl (.cons (incD hi3 hn3) .nil) .nil (At.kp [1,2,3,7,22,23,24] [3,507] ?_)))
     refine At.zaG (At.kp [1,2,3,7,22,23,24] [3,507] ?_)
     exact At.conv (.cons .qi (.cons .q (.cons .q (.cons .qb (.cons .q (.cons .qi (.cons .qi .nil))))))) (.cons .q (.cons .q .nil)) (hK3 hi3 (s3++([(y1.getD i3 default)]:List Int)) H)
   · refine W.skip (At.inb (At.zad (W.region env [] [] rfl rfl rfl (.cons (incD hi3 hn3) .nil) .nil (At.kp [1,2,3,7,22,23,24] [3,507] ?_))))
     refine At.zaG (At.kp [1,2,3,7,22,23,24] [3,507] ?_)
     exact At.conv (.cons .qi (.cons .q (.cons .q (.cons .qb (.cons .q (.cons .qi (.cons .qi .nil))))))) (.cons .q (.cons .q .nil)) (hK3 hi3 s3 H)
 · have H:=H2 (geD hb4)
   refine W.exit (At.xthen (At.xthen (At.xhere (At.zad (W.seq ?_)))))
   obtain ⟨hc10,H⟩:=zab H
   obtain ⟨hc11,H⟩:=zab H
   refine W.region env [] [] rfl rfl rfl (.cons (by first|rfl|(simp;done)|omega|(simp;omega)) (.cons hc10 (.cons hc11 .nil))) .nil (At.kp [2,3,7,10] [3,46,507] ?_)
   refine At.zbY (.cons (.refl _) (.cons (y:=bufL 23 1 (encN 1 zaa) (List.replicate ((((s3.length:Nat):Int)+1)).toNat ([]:(List Int)))) (BSim.madeN) (.cons (.refl _) .nil))) ?_
   refine At.zad (W.seq ?_)
   obtain ⟨hc12,H⟩:=zab H
   obtain ⟨hc13,H⟩:=zab H
   refine W.region env [] [] rfl rfl rfl (.cons (by first|rfl|(simp;done)|omega|(simp;omega)) (.cons hc12 (.cons hc13 .nil))) .nil (At.kp [2,3,7,10,11] [3,46,50,507] ?_)
   refine At.zbY (.cons (.refl _) (.cons (.refl _) (.cons (y:=bufL 3 1 zaa (List.replicate ((((s3.length:Nat):Int)+1)).toNat (0:Int))) (BSim.seg (Seg.made (f:=zaa) 0 rfl)) (.cons (.refl _) .nil)))) ?_
   refine At.zad (W.seq (W.sr env [] [] [2,3,7,10,11,51,52,53] [3,46,50,507] rfl rfl rfl (.cons (by first|rfl|(simp;done)|omega|(simp;omega)) .nil) .nil ?_))
   refine W.block (At.kp [2,3,7,10,11,51,52,53] [3,46,50,507] ?_)
   obtain ⟨hn14,H⟩:=zab H
   refine W.zak H (fun i14 (s14:(List (List Int))×(List Int))=>[(2,.bool (p2)),(3,.lp 3 0),(7,.buf 507 (s3).length),(10,.buf 46 (s14.1).length),(11,.buf 50 (s14.2).length),(51,.buf 507 (s3).length),(52,.int .i64 (((s3.length:Nat):Int))),(53,.int .i64 ((i14:Int)))]) (fun i14 (s14:(List (List Int))×(List Int))=>[(3,.cells (zaj p0)),(46,bufL 23 1 (encN 1 zaa) s14.1),(50,bufL 3 1 zaa s14.2),(507,bufL 3 1 zaa s3)]) (.cons .q (.cons .q (.cons .qb (.cons .qb (.cons .qb (.cons .qb (.cons .qi (.cons .qi .nil)))))))) (.cons .q (.cons .q (.cons .q (.cons .q .nil)))) (fun k14 i14 s14 hle14 H1 H2 K0 hK14=>?_)
   refine W.rg env [2,3,7,10,11,51,52,53,54] [3,46,50,507] ?_
   refine W.seq (W.cond rfl (fun hb15=>?_) (fun hb15=>?_))
   · have hi14:i14<s3.length:=ltD hb15
     have H:=H1 hi14
     refine W.skip (At.zad (W.seq (W.block (W.sr env [] [] [2,3,7,10,11,13,51,52,53] [3,46,50,507] rfl rfl rfl (.cons (⟨by first|rfl|(simp;done)|omega|(simp;omega),(inD hi14)⟩) (.cons (⟨by first|rfl|(simp;done)|omega|(simp;omega),(by have:=(inD hi14);first|omega|(simp only [List.length_set];omega)|(simp only [Int.toNat_natCast] at *;omega)|(simp at this ⊢;omega))⟩) .nil)) .nil ?_))))
     refine W.seq ?_
     obtain ⟨y16,hy17,H⟩:=zac H
     refine W.region env [] [⟨.agg (zaj y16),[],0,[]⟩] rfl rfl rfl .nil (.free (Ctr.sim (.cons (.refl _) (.cons (Sim.lit (f:=zaa) ([(s3.getD i14 default)]:List Int) rfl rfl (fun _=>rfl)) (.cons (.refl _) .nil))) (zdF p0 ([(s3.getD i14 default)]:List Int) p2 hy17)) .nil) (At.kp [2,3,7,10,11,13,14,51,52,53] [3,14,46,50,507] ?_)
     refine At.zad (W.rg env [2,3,7,10,11,13,14,15,51,52,53] [3,14,46,50,507] ?_)
     refine W.seq (W.sr env [] [] [2,3,7,10,11,13,14,15,51,52,53,62,63,64] [3,14,46,50,507] rfl rfl rfl (.cons (by first|rfl|(simp;done)|omega|(simp;omega)) .nil) .nil ?_)
     refine W.block (At.zht 15 515 3 1 (e:=fun i=>zaa (([]:List Int).getD i default)) rfl rfl ?_)
     refine At.kp [2,3,7,10,11,13,14,15,51,52,53,62,63,64] [3,14,46,50,507,515] ?_
     obtain ⟨hn18,H⟩:=zab H
     refine W.zak H (fun i18 (s18:(List Int))=>[(2,.bool (p2)),(3,.lp 3 0),(7,.buf 507 (s3).length),(10,.buf 46 (s14.1).length),(11,.buf 50 (s14.2).length),(13,.int .i64 ((s3.getD i14 default))),(14,.lp 14 0),(15,.buf 515 (s18).length),(51,.buf 507 (s3).length),(52,.int .i64 (((s3.length:Nat):Int))),(53,.int .i64 ((i14:Int))),(62,.buf 507 (s3).length),(63,.int .i64 (((s3.length:Nat):Int))),(64,.int .i64 ((i18:Int)))]) (fun i18 (s18:(List Int))=>[(3,.cells (zaj p0)),(14,.cells (zaj y16)),(46,bufL 23 1 (encN 1 zaa) s14.1),(50,bufL 3 1 zaa s14.2),(507,bufL 3 1 zaa s3),(515,bufL 3 1 zaa s18)]) (.cons .q (.cons .q (.cons .qb (.cons .qb (.cons .qb (.cons .qi (.cons .q (.cons .qb (.cons .qb (.cons .qi (.cons .qi (.cons .qb (.cons .qi (.cons .qi .nil)))))))))))))) (.cons .q (.cons .q (.cons .q (.cons .q (.cons .q (.cons .q .nil)))))) (fun k18 i18 s18 hle18 H1 H2 K0 hK18=>?_)
     refine W.rg env [2,3,7,10,11,13,14,15,51,52,53,62,63,64,65] [3,14,46,50,507,515] ?_
     refine W.seq (W.cond rfl (fun hb19=>?_) (fun hb19=>?_))
     · have hi18:i18<s3.length:=ltD hb19
       have H:=H1 hi18
       refine W.skip (At.zad (W.seq (W.block (W.sr env [] [] [2,3,7,10,11,13,14,15,17,51,52,53,62,63,64] [3,14,46,50,507,515] rfl rfl rfl (.cons (⟨by first|rfl|(simp;done)|omega|(simp;omega),(inD hi18)⟩) (.cons (⟨by first|rfl|(simp;done)|omega|(simp;omega),(by have:=(inD hi18);first|omega|(simp only [List.length_set];omega)|(simp only [Int.toNat_natCast] at *;omega)|(simp at this ⊢;omega))⟩) .nil)) .nil ?_))))
       refine W.seq ?_
       obtain ⟨hc20,H⟩:=zab H
       obtain ⟨y21,hy22,H⟩:=zac H
       refine W.region env [] [⟨.int .i64 (y21),[],0,[]⟩] rfl rfl (by kernel_rfl) (.cons id (.cons id (.cons hc20 (.cons id (.cons id (.cons id (.cons id (.cons id (.cons id (.cons id (.cons id (.cons id .nil)))))))))))) (.on (fun hW=>zbN y16.closet (p0.mantles.getD ((s3.getD i18 default)).toNat default) p0.night (zbf hy22 hW)) .nil) (At.kp [2,3,7,10,11,13,14,15,17,51,52,53,62,63,64,83] [3,14,46,50,507,515] ?_)
       refine At.zad (W.co H rfl (fun hb23 H=>?_) (fun hb23 H=>?_))
       · obtain ⟨hc24,H⟩:=zab H
         refine W.region env [] [] rfl rfl rfl (.cons (rmI hc24) .nil) .nil (At.kp [2,3,7,10,11,13,14,15,51,52,53,62,63,64] [3,14,46,50,507,515] ?_)
         refine At.zbY (.cons (.refl _) (.cons (.refl _) (.cons (.refl _) (.cons (.refl _) (.cons (.refl _) (.cons (y:=bufL 3 1 zaa (s18++([(s3.getD i18 default)]:List Int))) (BSim.seg (Seg.push (Seg.refl zaa _) (Seg.lit (f:=zaa) (sz:=1) ([(s3.getD i18 default)]:List Int) rfl rfl (fun _=>rfl)))) .nil)))))) ?_
         refine At.inb (At.zad (W.region env [] [] rfl rfl rfl (.cons (incD hi18 hn18) .nil) .nil (At.kp [2,3,7,10,11,13,14,15,51,52,53,62,63,64] [3,14,46,50,507,515] ?_)))
         refine At.zaG (At.kp [2,3,7,10,11,13,14,15,51,52,53,62,63,64] [3,14,46,50,507,515] ?_)
         exact At.conv (.cons .q (.cons .q (.cons .qb (.cons .qb (.cons .qb (.cons .qi (.cons .q (.cons .qb (.cons .qb (.cons .qi (.cons .qi (.cons .qb (.cons .qi (.cons .qi .nil)))))))))))))) (.cons .q (.cons .q (.cons .q (.cons .q (.cons .q (.cons .q .nil)))))) (hK18 hi18 (s18++([(s3.getD i18 default)]:List Int)) H)
       · refine W.skip (At.inb (At.zad (W.region env [] [] rfl rfl rfl (.cons (incD hi18 hn18) .nil) .nil (At.kp [2,3,7,10,11,13,14,15,51,52,53,62,63,64] [3,14,46,50,507,515] ?_))))
         refine At.zaG (At.kp [2,3,7,10,11,13,14,15,51,52,53,62,63,64] [3,14,46,50,507,515] ?_)
         exact At.conv (.cons .q (.cons .q (.cons .qb (.cons .qb (.cons .qb (.cons .qi (.cons .q (.cons .qb (.cons .qb (.cons .qi (.cons .qi (.cons .qb (.cons .qi (.cons .qi .nil)))))))))))))) (.cons .q (.cons .q (.cons .q (.cons .q (.cons .q (.cons .q .nil)))))) (hK18 hi18 s18 H)
     · have H:=H2 (geD hb19)
       refine W.exit (At.xthen (At.xthen (At.xhere (At.zad ?_))))
       obtain ⟨hc25,H⟩:=zab H
       refine W.sr env [] [] [2,3,7,10,11,13,15,51,52,53,91,92] [3,46,50,507,515] rfl rfl rfl (.cons (by first|rfl|(simp;done)|omega|(simp;omega)) (.cons hc25 .nil)) .nil ?_
       refine W.block (At.zsl 515 (K:=[3,46,50,507]) (ts:=[2,3,7,10,11,13,15,51,52,53,91,92]) rfl rfl rfl rfl (.cons (by first|rfl|(simp;done)|omega|(simp;omega)) .nil) .nil (fun _ h=>h) ?_)
       refine At.kp [2,3,7,10,11,13,15,51,52,53,91,92] [3,46,50,507] ?_
       obtain ⟨hn26,H⟩:=zab H
       refine W.zak H (fun i26 (s26:(List (List Int))×(List Int))=>[(2,.bool (p2)),(3,.lp 3 0),(7,.buf 507 (s3).length),(10,.buf 46 (s26.1).length),(11,.buf 50 (s26.2).length),(13,.int .i64 ((s3.getD i14 default))),(15,roL 1 zaa s18),(51,.buf 507 (s3).length),(52,.int .i64 (((s3.length:Nat):Int))),(53,.int .i64 ((i14:Int))),(91,.int .i64 ((((s3.length:Nat):Int)+1))),(92,.int .i64 ((i26:Int)))]) (fun i26 (s26:(List (List Int))×(List Int))=>[(3,.cells (zaj p0)),(46,bufL 23 1 (encN 1 zaa) s26.1),(50,bufL 3 1 zaa s26.2),(507,bufL 3 1 zaa s3)]) (.cons .q (.cons .q (.cons .qb (.cons .qb (.cons .qb (.cons .qi (.cons .q (.cons .qb (.cons .qi (.cons .qi (.cons .qi (.cons .qi .nil)))))))))))) (.cons .q (.cons .q (.cons .q (.cons .q .nil)))) (fun k26 i26 s26 hle26 H1 H2 K0 hK26=>?_)
       refine W.rg env [2,3,7,10,11,13,15,51,52,53,91,92,93] [3,46,50,507] ?_
       refine W.seq (W.cond rfl (fun hb27=>?_) (fun hb27=>?_))
       · have hi26:i26<((((s3.length:Nat):Int)+1)).toNat:=by have:=of_decide_eq_true hb27;omega
         have H:=H1 hi26
         refine W.skip (At.zad (W.seq (W.zkK H (fun (s28:(List (List Int))×(List Int))=>[(2,.bool (p2)),(3,.lp 3 0),(7,.buf 507 (s3).length),(10,.buf 46 (s28.1).length),(11,.buf 50 (s28.2).length),(13,.int .i64 ((s3.getD i14 default))),(15,roL 1 zaa s18),(51,.buf 507 (s3).length),(52,.int .i64 (((s3.length:Nat):Int))),(53,.int .i64 ((i14:Int))),(91,.int .i64 ((((s3.length:Nat):Int)+1))),(92,.int .i64 ((i26:Int)))]) (fun (s28:(List (List Int))×(List Int))=>[(3,.cells (zaj p0)),(46,bufL 23 1 (encN 1 zaa) s28.1),(50,bufL 3 1 zaa s28.2),(507,bufL 3 1 zaa s3)]) (fun s28 H=>?_) (fun k28 H hK28=>?_))))
         · refine W.region env [] [] rfl rfl rfl (.cons (incD hi26 hn26) .nil) .nil (At.kp [2,3,7,10,11,13,15,51,52,53,91,92] [3,46,50,507] ?_)
           refine At.zaG (At.kp [2,3,7,10,11,13,15,51,52,53,91,92] [3,46,50,507] ?_)
           exact At.conv (.cons .q (.cons .q (.cons .qb (.cons .qb (.cons .qb (.cons .qi (.cons .q (.cons .qb (.cons .qi (.cons .qi (.cons .qi (.cons .qi .nil)))))))))))) (.cons .q (.cons .q (.cons .q (.cons .q .nil)))) (hK26 hi26 (s28.1,s28.2) H)
         · refine W.block (W.rg env [2,3,7,10,11,13,15,18,51,52,53,91,92] [3,46,50,507] ?_)
           refine W.seq (W.rg env [2,3,7,10,11,13,15,18,51,52,53,91,92,96] [3,46,50,507] ?_)
           refine W.co H rfl (fun hb29 H=>?_) (fun hb29 H=>?_)
           · refine W.exit (At.xthen (At.xhere (At.zaG (At.kp [2,3,7,10,11,13,15,51,52,53,91,92] [3,46,50,507] ?_))))
             exact At.conv (.cons .q (.cons .q (.cons .qb (.cons .qb (.cons .qb (.cons .qi (.cons .q (.cons .qb (.cons .qi (.cons .qi (.cons .qi (.cons .qi .nil)))))))))))) (.cons .q (.cons .q (.cons .q (.cons .q .nil)))) (hK28 (s26.1,s26.2) H)
           · refine W.skip (At.zad (W.seq ?_))
             obtain ⟨hc30,H⟩:=zab H
             obtain ⟨hc31,H⟩:=zab H
             obtain ⟨hc32,H⟩:=zab H
             refine W.region env [98,16777322] [] rfl rfl rfl (.cons hc30 (.cons hc31 (.cons (⟨(by first|rfl|(simp;done)|omega|(simp;omega)),(rmI hc32)⟩) .nil))) .nil (At.kp [2,3,7,10,11,13,15,18,19,51,52,53,91,92] [3,46,50,507] ?_)
             refine At.slot (t:=19) (v:=roL 1 zaa (([(s3.getD i14 default)]:List Int)++(s18.take ((min ((i26:Int) - 1) ((s18.length:Nat):Int))).toNat))) (Sim.seg (Seg.push (Seg.lit (f:=zaa) (sz:=1) ([(s3.getD i14 default)]:List Int) rfl rfl (fun _=>rfl)) (Seg.take zaa s18 (((min ((i26:Int) - 1) ((s18.length:Nat):Int))).toNat) (by omega)))) ?_
             refine At.zad (W.seq ?_)
             obtain ⟨y33,hy34,H⟩:=zac H
             refine W.region env [] [⟨.int .i64 (y33),[],0,[]⟩] rfl rfl rfl .nil (.free (zdp p0 (([(s3.getD i14 default)]:List Int)++(s18.take ((min ((i26:Int) - 1) ((s18.length:Nat):Int))).toNat)) p2 hy34) .nil) (At.kp [2,3,7,10,11,13,15,18,19,20,51,52,53,91,92] [3,46,50,507] ?_)
             refine At.zad ?_
             obtain ⟨hc35,H⟩:=zab H
             obtain ⟨hc36,H⟩:=zab H
             refine W.sr env [] [] [2,3,7,10,11,13,15,18,19,20,51,52,53,91,92,123] [3,46,50,507] rfl rfl rfl (.cons (⟨by first|rfl|(simp;done)|omega|(simp;omega),hc35⟩) (.cons (⟨by first|rfl|(simp;done)|omega|(simp;omega),(by have:=hc35;first|omega|(simp only [List.length_set];omega)|(simp only [Int.toNat_natCast] at *;omega)|(simp at this ⊢;omega))⟩) (.cons (fun hW=>⟨by first|rfl|(simp;done)|omega|(simp;omega),hc36 hW⟩) (.cons id (.cons id (.cons (fun hW=>(⟨by first|rfl|(simp;done)|omega|(simp;omega),(by have:=hc36 hW;first|omega|(simp only [List.length_set];omega)|(simp only [Int.toNat_natCast] at *;omega)|(simp at this ⊢;omega))⟩)) (.cons id (.cons id (.cons id (.cons (fun h=>by rw [h];rfl) .nil)))))))))) .nil ?_
             refine W.co H rfl (fun hb37 H=>?_) (fun hb37 H=>?_)
             · obtain ⟨hc38,H⟩:=zab H
               obtain ⟨hc39,H⟩:=zab H
               obtain ⟨hc40,H⟩:=zab H
               refine W.region env [] [] rfl rfl rfl (.cons (⟨by first|rfl|(simp;done)|omega|(simp;omega),hc38⟩) (.cons (⟨by first|rfl|(simp;done)|omega|(simp;omega),(by have:=hc38;first|omega|(simp only [List.length_set];omega)|(simp only [Int.toNat_natCast] at *;omega)|(simp at this ⊢;omega))⟩) (.cons (⟨by first|rfl|(simp;done)|omega|(simp;omega),hc40⟩) (.cons (⟨by first|rfl|(simp;done)|omega|(simp;omega),(by have:=hc40;first|omega|(simp only [List.length_set];omega)|(simp only [Int.toNat_natCast] at *;omega)|(simp at this ⊢;omega))⟩) .nil)))) .nil (At.kp [2,3,7,10,11,13,15,51,52,53,91,92] [3,46,50,507] ?_)
               refine At.zbY (.cons (.refl _) (.cons (y:=bufL 23 1 (encN 1 zaa) (s26.1.set i26 (([(s3.getD i14 default)]:List Int)++(s18.take ((min ((i26:Int) - 1) ((s18.length:Nat):Int))).toNat)))) (BSim.setS (Seg.refl (encN 1 zaa) _) (([(s3.getD i14 default)]:List Int)++(s18.take ((min ((i26:Int) - 1) ((s18.length:Nat):Int))).toNat)) (.cons (Sim.nsOf hc39) .nil)) (.cons (y:=bufL 3 1 zaa (s26.2.set i26 y33)) (BSim.seg (Seg.set (Seg.refl zaa _) y33 rfl)) (.cons (.refl _) .nil)))) ?_
               refine At.inb (At.zaG (At.kp [2,3,7,10,11,13,15,51,52,53,91,92] [3,46,50,507] ?_))
               exact At.conv (.cons .q (.cons .q (.cons .qb (.cons .qb (.cons .qb (.cons .qi (.cons .q (.cons .qb (.cons .qi (.cons .qi (.cons .qi (.cons .qi .nil)))))))))))) (.cons .q (.cons .q (.cons .q (.cons .q .nil)))) (hK28 ((s26.1.set i26 (([(s3.getD i14 default)]:List Int)++(s18.take ((min ((i26:Int) - 1) ((s18.length:Nat):Int))).toNat))),(s26.2.set i26 y33)) H)
             · refine W.skip (At.inb (At.zaG (At.kp [2,3,7,10,11,13,15,51,52,53,91,92] [3,46,50,507] ?_)))
               exact At.conv (.cons .q (.cons .q (.cons .qb (.cons .qb (.cons .qb (.cons .qi (.cons .q (.cons .qb (.cons .qi (.cons .qi (.cons .qi (.cons .qi .nil)))))))))))) (.cons .q (.cons .q (.cons .q (.cons .q .nil)))) (hK28 (s26.1,s26.2) H)
       · have H:=H2 (geD hb27)
         refine W.exit (At.xthen (At.xthen (At.xhere (At.inb (At.zad (W.region env [] [] rfl rfl rfl (.cons (incD hi14 hn14) .nil) .nil (At.kp [2,3,7,10,11,51,52,53] [3,46,50,507] ?_)))))))
         refine At.zaG (At.kp [2,3,7,10,11,51,52,53] [3,46,50,507] ?_)
         exact At.conv (.cons .q (.cons .q (.cons .qb (.cons .qb (.cons .qb (.cons .qb (.cons .qi (.cons .qi .nil)))))))) (.cons .q (.cons .q (.cons .q (.cons .q .nil)))) (hK14 hi14 (s26.1,s26.2) H)
   · have H:=H2 (geD hb15)
     refine W.exit (At.xthen (At.xthen (At.xhere (At.zad (W.rg env [6] [46] ?_)))))
     refine W.ret ?_
     cases H
     exact At.ret env.ty rfl rfl (fun q hq=>by cases hq;exact (by first|rfl|(simp;done)|omega|(simp;omega))) Sim.roN hval
theorem zgl (p1:Int) {r:(List Int)} (H:zcS p1=some r):CtrO Tryz.prog 125 [.nilS,.int .i64 p1] [] (.buf 900 r.length) [(900,bufL 3 1 zaa r)]:=by
 unfold zcS at H
 refine CtrO.zcU (N:=27) Tryz.func125 (by kernel_rfl) (c:=_) rfl Tryz.ntmps125 rfl (fun w0 h0 ρb hval hdom=>?_)
 refine W.rg env [0,1] [] ?_
 refine W.seq (W.rg env [0,1,6] [] ?_)
 refine W.zkK H (fun (s1:Unit)=>[(0,.nilS),(1,.int .i64 (p1))]) (fun (s1:Unit)=>[]) (fun s1 H=>?_) (fun k1 H hK1=>?_)
 · refine W.seq ?_
   obtain ⟨hc2,H⟩:=zab H
   obtain ⟨hc3,H⟩:=zab H
   refine W.sr env [] [] [0,1] [] rfl rfl rfl (.cons hc2 (.cons hc3 .nil)) .nil ?_
   refine W.rg env [0,1,16] [] ?_
   refine W.co H rfl (fun hb4 H=>?_) (fun hb4 H=>?_)
   · obtain ⟨hc5,H⟩:=zab H
     obtain ⟨hc6,H⟩:=zab H
     refine W.region env [] [] rfl rfl rfl (.cons rfl (.cons hc5 (.cons (⟨by first|rfl|(simp;done)|omega|(simp;omega),(by first|exact hc6|simpa using hc6)⟩) .nil))) .nil (At.kp [0] [22] ?_)
     refine At.zbY (.cons (y:=bufL 3 1 zaa (List.replicate ((p1 - (0 - 0))).toNat (0:Int))) (BSim.seg (Seg.made (f:=zaa) 0 rfl)) .nil) ?_
     refine At.zad (W.rg env [4] [22] ?_)
     refine W.ret ?_
     cases H
     refine At.shrink 4 22 850 (K:=[]) (ts:=[]) rfl rfl (by first|rfl|(simp;done)|omega|(simp;omega)) (by have:=hc6;omega) rfl rfl rfl rfl ?_
     refine At.zbY (.cons (y:=bufL 3 1 zaa ((List.replicate ((p1 - (0 - 0))).toNat (0:Int)).take 0)) (BSim.seg (Seg.first (Seg.refl zaa _) (by have:=hc6;omega))) .nil) ?_
     exact At.retK env.ty [850] 50 rfl rfl rfl rfl (.cons (.refl _) .nil) (.of_eq (by refine zkR ?_;first|(simp [zeo];done)|omega|(simp [zeo];omega)|rfl)) hval hdom rfl
   · refine W.skip (At.zad (W.rg env [4] [] ?_))
     refine W.ret ?_
     cases H
     refine At.zht 4 800 3 1 (e:=fun i=>zaa (([]:List Int).getD i default)) rfl rfl ?_
     exact At.retK env.ty [800] 100 rfl rfl rfl rfl (.cons (.refl _) .nil) (.of_eq (by refine zkR ?_;first|(simp [zeo];done)|omega|(simp [zeo];omega)|rfl)) hval hdom rfl
 · refine W.co H rfl (fun hb7 H=>?_) (fun hb7 H=>?_)
   · cases H
   · refine W.skip (At.zaG (At.kp [0,1] [] ?_))
     exact At.conv (.cons Sim.o (.cons .qi .nil)) .nil (hK1 () H)
theorem zhO (p0:(List (List Int))) {r:(List Int)} (H:zcJ p0=some r):Ctr Tryz.prog 97 [roL 1 zcC p0] (roL 1 zaa r):=by
 unfold zcJ at H
 refine Ctr.ob Tryz.func97 Tryz.ntmps97 (fun w0 h0 hval=>?_)
 refine W.rg env [0] [] ?_
 refine W.rg env [0,3] [] ?_
 refine W.seq (W.rg env [0,3,9,10,11] [] ?_)
 refine W.block (At.kp [0,3,9,10,11] [] ?_)
 refine W.len (t:=9) rfl (fun hn1=>?_)
 refine W.zak H (fun i1 (s1:Int)=>[(0,roL 1 zcC p0),(3,.int .i64 (s1)),(9,roL 1 zcC p0),(10,.int .i64 (((p0.length:Nat):Int))),(11,.int .i64 ((i1:Int)))]) (fun i1 (s1:Int)=>[]) (.cons .q (.cons .qi (.cons .q (.cons .qi (.cons .qi .nil))))) .nil (fun k1 i1 s1 hle1 H1 H2 K0 hK1=>?_)
 refine W.rg env [0,3,9,10,11,12] [] ?_
 refine W.seq (W.cond rfl (fun hb2=>?_) (fun hb2=>?_))
 · have hi1:i1<p0.length:=ltD hb2
   have H:=H1 hi1
   refine W.skip (At.zad (W.seq (W.block (W.sr env [] [] [0,3,5,9,10,11] [] rfl rfl rfl (.cons (inD hi1) .nil) .nil ?_))))
   obtain ⟨hc3,H⟩:=zab H
   refine W.sr env [] [] [0,3,9,10,11] [] rfl rfl rfl (.cons hc3 .nil) .nil ?_
   refine W.rg env [0,3,9,10,11,20] [] ?_
   refine W.co H rfl (fun hb4 H=>?_) (fun hb4 H=>?_)
   · cases H
   · refine W.skip (At.inb (At.zad (W.region env [] [] rfl rfl rfl (.cons (incD hi1 hn1) .nil) .nil (At.kp [0,3,9,10,11] [] ?_))))
     refine At.zaG (At.kp [0,3,9,10,11] [] ?_)
     exact At.conv (.cons .q (.cons .qi (.cons .q (.cons .qi (.cons .qi .nil))))) .nil (hK1 hi1 (s1+(((p0.getD i1 default).length:Nat):Int)) H)
 · have H:=H2 (geD hb2)
   refine W.exit (At.xthen (At.xthen (At.xhere (At.zad (W.seq ?_)))))
   obtain ⟨y5,hy6,H⟩:=zac H
   refine W.region env [] [⟨.buf 900 y5.length,[(900,bufL 3 1 zaa y5)],25000,[]⟩] rfl rfl (by kernel_rfl) .nil (.free (Ctr.ofO (zgl s1 hy6)) .nil) (At.kp [0,6] [25900] ?_)
   refine At.zad (W.seq (W.rg env [6,25,26,27] [25900] ?_))
   refine W.block (At.kp [6,25,26,27] [25900] ?_)
   refine W.len (t:=25) rfl (fun hn7=>?_)
   refine W.zak H (fun i7 (s7:(List Int))=>[(6,.buf 25900 (s7).length),(25,roL 1 zcC p0),(26,.int .i64 (((p0.length:Nat):Int))),(27,.int .i64 ((i7:Int)))]) (fun i7 (s7:(List Int))=>[(25900,bufL 3 1 zaa s7)]) (.cons .qb (.cons .q (.cons .qi (.cons .qi .nil)))) (.cons .q .nil) (fun k7 i7 s7 hle7 H1 H2 K0 hK7=>?_)
   refine W.rg env [6,25,26,27,28] [25900] ?_
   refine W.seq (W.cond rfl (fun hb8=>?_) (fun hb8=>?_))
   · have hi7:i7<p0.length:=ltD hb8
     have H:=H1 hi7
     refine W.skip (At.zad (W.seq (W.block (W.sr env [] [] [6,8,25,26,27] [25900] rfl rfl rfl (.cons (inD hi7) .nil) .nil ?_))))
     obtain ⟨hc9,H⟩:=zab H
     refine W.region env [] [] rfl rfl rfl (.cons (rmI hc9) .nil) .nil (At.kp [6,25,26,27] [25900] ?_)
     refine At.zbY (.cons (y:=bufL 3 1 zaa (s7++(p0.getD i7 default))) (BSim.seg (Seg.push (Seg.refl zaa _) (Seg.refl zaa (p0.getD i7 default)))) .nil) ?_
     refine At.inb (At.zad (W.region env [] [] rfl rfl rfl (.cons (incD hi7 hn7) .nil) .nil (At.kp [6,25,26,27] [25900] ?_)))
     refine At.zaG (At.kp [6,25,26,27] [25900] ?_)
     exact At.conv (.cons .qb (.cons .q (.cons .qi (.cons .qi .nil)))) (.cons .q .nil) (hK7 hi7 (s7++(p0.getD i7 default)) H)
   · have H:=H2 (geD hb8)
     refine W.exit (At.xthen (At.xthen (At.xhere (At.zad (W.rg env [2] [25900] ?_)))))
     refine W.ret ?_
     cases H
     exact At.ret env.ty rfl rfl (fun q hq=>by cases hq;exact (by first|rfl|(simp;done)|omega|(simp;omega))) (.refl _) hval
theorem zeQ (p0:mantle_lot) (p1:(List Int)) (p2:Int) (p3:Bool) {r:Bool} (H:zbm p0 p1 p2 p3=some r):Ctr Tryz.prog 63 [.agg (zaj p0),roL 1 zaa p1,.int .i64 (p2),.bool (p3)] (.bool (r)):=by
 unfold zbm at H
 refine Ctr.ob Tryz.func63 Tryz.ntmps63 (fun w0 h0 hval=>?_)
 refine W.rg env [1,2,3,4] [4] ?_
 refine W.seq ?_
 obtain ⟨y1,hy2,H⟩:=zac H
 refine W.region env [] [⟨.agg (zaj y1),[],0,[]⟩] rfl rfl rfl .nil (.free (zdF p0 p1 p3 hy2) .nil) (At.kp [2,3,9] [9] ?_)
 refine At.zad (W.seq (W.seq ?_))
 obtain ⟨y3,hy4,H⟩:=zac H
 refine W.region env [] [⟨.bool (y3),[],0,[]⟩] rfl rfl rfl .nil (.free (zb4 y1.closet hy4) .nil) (At.kp [2,3,9,17] [9] ?_)
 refine At.zad (W.co H rfl (fun hb5 H=>?_) (fun hb5 H=>?_))
 · refine W.rg env [8] [] ?_
   refine W.ret (At.rthen ?_)
   cases H
   exact At.rz env hval
 · refine W.skip (At.zad (W.seq (W.rg env [2,9,18] [9] ?_)))
   refine W.co H rfl (fun hb6 H=>?_) (fun hb6 H=>?_)
   · refine W.seq ?_
     obtain ⟨y7,hy8,H⟩:=zac H
     refine W.region env [] [⟨.agg [.int .i64 (y7.Lo),.int .i64 (y7.Hi)],[],0,[]⟩,⟨.int .i64 ((zaw y7 p2)),[],0,[]⟩] rfl rfl rfl .nil (.free (zcG y1 hy8) (.free (zfB y7 p2) .nil)) (At.kp [8] [] ?_)
     refine At.zad (W.ret (At.rthen ?_))
     cases H
     exact At.rz env hval
   · refine W.skip (At.zad (W.seq ?_))
     obtain ⟨y9,hy10,H⟩:=zac H
     refine W.region env [] [⟨.agg [.int .i64 (y9.Lo),.int .i64 (y9.Hi)],[],0,[]⟩,⟨.int .i64 ((zaw y9 p2)),[],0,[]⟩] rfl rfl rfl .nil (.free (zcG y1 hy10) (.free (zfB y9 p2) .nil)) (At.kp [8] [] ?_)
     refine At.zad (W.ret ?_)
     cases H
     exact At.rz env hval
theorem zgn (fuel:Nat) (p0:mantle_lot) (p1:Int) (p2:Bool) (post:((List Int)×Bool)→Option Unit) {r:Unit} (H:zb6 fuel p0 p1 p2 post=some r):CtrN Tryz.prog 58 [.agg (zaj p0),.int .i64 (p1),.bool (p2)] (fun (y:((List Int)×Bool))=>.tup [roL 1 zaa y.1,.bool (y.2)]) (fun y=>post y=some r):=by
 unfold zb6 at H
 refine CtrN.zcU (N:=107) Tryz.func58 (by kernel_rfl) (c:=_) rfl Tryz.ntmps58 rfl (fun w0 h0 hval=>?_)
 refine W.rg env [1,2,3] [3] ?_
 refine W.seq (W.region env [] [] rfl rfl rfl .nil .nil (At.kp [1,2,3,8] [3,22] ?_))
 refine At.zbY (.cons (.refl _) (.cons (y:=mapL (.slice none 0 0) (fun (x:(List Int))=>roL 1 zaa x) ((Mp.empty:Mp (List Int)).set 0 [])) (BSim.zpS (f:=(fun (x:(List Int))=>roL 1 zaa x)) (zhY.set (zhY.empty (f:=(fun (x:(List Int))=>roL 1 zaa x)) (Sim.nil _ _)) [] (Sim.nil _ _))) .nil)) ?_
 refine At.zad (W.seq (W.rg env [1,2,3,8,28,29] [3,22] ?_))
 refine W.block (At.znI 22 (K:=[3]) (ts:=[1,2,3,8,28,29]) rfl rfl rfl rfl (fun _ h=>h) ?_)
 refine At.kp [1,2,3,8,28,29] [3] ?_
 obtain ⟨hn1,H⟩:=zab H
 refine W.zak H (fun i1 (s1:(Mp (List Int)))=>[(1,.int .i64 (p1)),(2,.bool (p2)),(3,.lp 3 0),(8,romL (.slice none 0 0) (fun (x:(List Int))=>roL 1 zaa x) s1),(28,.int .i64 (((p0.closet.w.Batches.length:Nat):Int))),(29,.int .i64 ((i1:Int)))]) (fun i1 (s1:(Mp (List Int)))=>[(3,.cells (zaj p0))]) (.cons .qi (.cons .q (.cons .q (.cons .q (.cons .qi (.cons .qi .nil)))))) (.cons .q .nil) (fun k1 i1 s1 hle1 H1 H2 K0 hK1=>?_)
 refine W.rg env [1,2,3,8,28,29,30] [3] ?_
 refine W.seq (W.cond rfl (fun hb2=>?_) (fun hb2=>?_))
 · have hi1:i1<p0.closet.w.Batches.length:=ltD hb2
   have H:=H1 hi1
   refine W.skip (At.zad (W.seq (W.block (W.rg env [1,2,3,8,9,28,29] [3] ?_))))
   refine W.seq ?_
   obtain ⟨y3,hy4,H⟩:=zac H
   refine W.region env [] [⟨roL 1 zcC y3,[],0,[]⟩] rfl rfl rfl .nil (.free (zhQ p0 (i1:Int) p2 hy4) .nil) (At.kp [1,2,3,8,10,28,29] [3] ?_)
   refine At.zad (W.seq (W.region env [] [] rfl rfl rfl .nil .nil (At.kp [1,2,3,8,10,11,28,29] [3,36] ?_)))
   refine At.zbY (.cons (.refl _) (.cons (y:=mapL (.slice none 0 0) (fun (x:(List Int))=>roL 1 zaa x) (Mp.empty:Mp (List Int))) (BSim.zpS (f:=(fun (x:(List Int))=>roL 1 zaa x)) (zhY.empty (f:=(fun (x:(List Int))=>roL 1 zaa x)) (Sim.nil _ _))) .nil)) ?_
   refine At.zad (W.seq (W.rg env [1,2,3,10,11,28,29,38] [3,36,38] ?_))
   refine W.block ?_
   obtain ⟨hok5,H⟩:=zab H
   refine At.kp [1,2,3,10,11,28,29,38] [38,3,36] ?_
   refine At.zlJ 38 rfl (fun left hleft=>?_)
   refine At.kp [1,2,3,10,11,28,29,38] [38,3,36] ?_
   refine W.zen H (Mp.perm hok5 hleft) hleft.2.1 38 (fun k=>(fun (x:(List Int))=>roL 1 zaa x) ((s1.get k).getD default)) (fun (s5:(Mp (List Int)))=>[(1,.int .i64 (p1)),(2,.bool (p2)),(3,.lp 3 0),(10,roL 1 zcC y3),(11,.mp 36),(28,.int .i64 (((p0.closet.w.Batches.length:Nat):Int))),(29,.int .i64 ((i1:Int))),(38,.lp 38 0)]) (fun (s5:(Mp (List Int)))=>[(3,.cells (zaj p0)),(36,mapL (.slice none 0 0) (fun (x:(List Int))=>roL 1 zaa x) s5)]) (.cons .qi (.cons .q (.cons .q (.cons .q (.cons .q (.cons .qi (.cons .qi (.cons .q .nil)))))))) (.cons (.refl _) (.cons .q (.cons .q .nil))) (fun left s5 HJ5 hsub5 K hK5=>?_)
   refine W.seq (W.next rfl rfl rfl rfl rfl rfl rfl rfl rfl rfl rfl (fun hz=>?_) (fun q5 left2 hp5=>?_))
   · subst hz
     have H:k1 s5=some r:=HJ5
     refine At.zad (W.seq (W.cond rfl (fun hb18=>by cases hb18) (fun hb18=>?_)))
     refine W.exit (At.xthen (At.xthen (At.xhere (At.zad (At.znI 36 (K:=[3]) (ts:=[1,2,3,11,28,29]) rfl rfl rfl rfl (fun _ h=>h) ?_)))))
     refine W.region env [] [] rfl rfl rfl .nil .nil (At.kp [1,2,3,8,28,29] [3] ?_)
     refine At.inb (At.zad (W.region env [] [] rfl rfl rfl (.cons (incD hi1 hn1) .nil) .nil (At.kp [1,2,3,8,28,29] [3] ?_)))
     refine At.zaG (At.kp [1,2,3,8,28,29] [3] ?_)
     exact At.conv (.cons .qi (.cons .q (.cons .q (.cons .q (.cons .qi (.cons .qi .nil)))))) (.cons .q .nil) (hK1 hi1 s5 H)
   · have H:=znx hp5 HJ5
     refine At.zad (W.seq (W.cond rfl (fun hb6=>?_) (fun hb6=>by cases hb6)))
     refine W.skip (At.zad (W.block (W.rg env [1,2,3,10,11,12,13,28,29,38] [3,36,38] ?_)))
     refine W.rg env [1,2,3,10,11,12,13,28,29,38,44,45,46] [3,36,38] ?_
     refine W.block (At.kp [1,2,3,10,11,12,13,28,29,38,44,45,46] [3,36,38] ?_)
     refine W.len (t:=44) rfl (fun hn7=>?_)
     refine W.zak H (fun i7 (s7:(Mp (List Int)))=>[(1,.int .i64 (p1)),(2,.bool (p2)),(3,.lp 3 0),(10,roL 1 zcC y3),(11,.mp 36),(12,.int .i64 (q5)),(13,roL 1 zaa ((s1.get q5).getD default)),(28,.int .i64 (((p0.closet.w.Batches.length:Nat):Int))),(29,.int .i64 ((i1:Int))),(38,.lp 38 0),(44,roL 1 zcC y3),(45,.int .i64 (((y3.length:Nat):Int))),(46,.int .i64 ((i7:Int)))]) (fun i7 (s7:(Mp (List Int)))=>[(3,.cells (zaj p0)),(36,mapL (.slice none 0 0) (fun (x:(List Int))=>roL 1 zaa x) s7),(38,.iter (fun k=>(fun (x:(List Int))=>roL 1 zaa x) ((s1.get k).getD default)) (some q5) (fun l=>l=left2))]) (.cons .qi (.cons .q (.cons .q (.cons .q (.cons .q (.cons .qi (.cons .q (.cons .qi (.cons .qi (.cons .q (.cons .q (.cons .qi (.cons .qi .nil))))))))))))) (.cons .q (.cons .q (.cons .q .nil))) (fun k7 i7 s7 hle7 H1 H2 K0 hK7=>?_)
     refine W.rg env [1,2,3,10,11,12,13,28,29,38,44,45,46,47] [3,36,38] ?_
     refine W.seq (W.cond rfl (fun hb8=>?_) (fun hb8=>?_))
     · have hi7:i7<y3.length:=ltD hb8
       have H:=H1 hi7
       refine W.skip (At.zad (W.seq (W.block (W.sr env [] [] [1,2,3,10,11,12,13,15,28,29,38,44,45,46] [3,36,38] rfl rfl rfl (.cons (inD hi7) .nil) .nil ?_))))
       refine W.seq ?_
       obtain ⟨y9,hy10,H⟩:=zac H
       refine W.region env [] [⟨roL 1 zaa y9,[],0,[]⟩] rfl rfl rfl .nil (.free (Ctr.sim (.cons (Sim.lit (f:=zcC) ([((s1.get q5).getD default),(y3.getD i7 default)]:List (List Int)) rfl rfl (fun _=>rfl)) .nil) (zhO ([((s1.get q5).getD default),(y3.getD i7 default)]:List (List Int)) hy10)) .nil) (At.kp [1,2,3,10,11,12,13,15,16,28,29,38,44,45,46] [3,36,38] ?_)
       refine At.zad ?_
       obtain ⟨hc11,H⟩:=zab H
       refine W.sr env [] [] [1,2,3,10,11,12,13,15,16,17,18,28,29,38,44,45,46] [3,36,38] rfl rfl rfl (.cons hc11 (.cons rfl .nil)) .nil ?_
       refine W.seq ?_
       obtain ⟨y12,hy13,H⟩:=zac H
       obtain ⟨y14,hy15,H⟩:=zac H
       refine W.region env [] [⟨.int .i64 (y12),[],0,[]⟩,⟨.int .i64 (y14),[],0,[]⟩] rfl rfl (by kernel_rfl) (.cons id (.cons id (.cons id (.cons id (.cons id (.cons id (.cons id (.cons id (.cons (fun h=>by rw [h];rfl) .nil))))))))) (.on (fun hW=>zdp p0 y9 p2 (zbf hy13 hW)) (.on (fun hW=>zdp p0 ((s7.get (q5+(((y3.getD i7 default).length:Nat):Int))).getD default) p2 (zbf hy15 hW)) .nil)) (At.kp [1,2,3,10,11,12,13,15,16,28,29,38,44,45,46,75] [3,36,38] ?_)
       refine At.zad (W.co H rfl (fun hb16 H=>?_) (fun hb16 H=>?_))
       · obtain ⟨hc17,H⟩:=zab H
         refine W.r1 env hc17 [1,2,3,10,11,12,13,28,29,38,44,45,46] [3,36,38] ?_
         refine At.zbY (.cons (.refl _) (.cons (y:=mapL (.slice none 0 0) (fun (x:(List Int))=>roL 1 zaa x) (s7.set (q5+(((y3.getD i7 default).length:Nat):Int)) y9)) (BSim.mseg (f:=(fun (x:(List Int))=>roL 1 zaa x)) (MSeg.set (MSeg.refl (fun (x:(List Int))=>roL 1 zaa x) _) y9 rfl)) (.cons (.refl _) .nil))) ?_
         refine At.inb (At.zad (W.region env [] [] rfl rfl rfl (.cons (incD hi7 hn7) .nil) .nil (At.kp [1,2,3,10,11,12,13,28,29,38,44,45,46] [3,36,38] ?_)))
         refine At.zaG (At.kp [1,2,3,10,11,12,13,28,29,38,44,45,46] [3,36,38] ?_)
         exact At.conv (.cons .qi (.cons .q (.cons .q (.cons .q (.cons .q (.cons .qi (.cons .q (.cons .qi (.cons .qi (.cons .q (.cons .q (.cons .qi (.cons .qi .nil))))))))))))) (.cons .q (.cons .q (.cons .q .nil))) (hK7 hi7 (s7.set (q5+(((y3.getD i7 default).length:Nat):Int)) y9) H)
       · refine W.skip (At.inb (At.zad (W.region env [] [] rfl rfl rfl (.cons (incD hi7 hn7) .nil) .nil (At.kp [1,2,3,10,11,12,13,28,29,38,44,45,46] [3,36,38] ?_))))
         refine At.zaG (At.kp [1,2,3,10,11,12,13,28,29,38,44,45,46] [3,36,38] ?_)
         exact At.conv (.cons .qi (.cons .q (.cons .q (.cons .q (.cons .q (.cons .qi (.cons .q (.cons .qi (.cons .qi (.cons .q (.cons .q (.cons .qi (.cons .qi .nil))))))))))))) (.cons .q (.cons .q (.cons .q .nil))) (hK7 hi7 s7 H)
     · have H:=H2 (geD hb8)
       refine W.exit (At.xthen (At.xthen (At.xhere (At.inb (At.zaG (At.kp [1,2,3,10,11,28,29,38] [38,3,36] ?_))))))
       exact At.conv (.cons .qi (.cons .q (.cons .q (.cons .q (.cons .q (.cons .qi (.cons .qi (.cons .q .nil)))))))) (.cons (.refl _) (.cons .q (.cons .q .nil))) (hK5 _ left2 s7 hp5 H)
 · have H:=H2 (geD hb2)
   refine W.exit (At.xthen (At.xthen (At.xhere (At.zad (W.seq (W.rg env [1,2,3,8,19] [3] ?_))))))
   refine W.block (At.kp [1,2,3,8,19] [3] ?_)
   refine W.loopGo H (fun (s19:Int)=>[(1,.int .i64 (p1)),(2,.bool (p2)),(3,.lp 3 0),(8,romL (.slice none 0 0) (fun (x:(List Int))=>roL 1 zaa x) s1),(19,.int .i64 (s19))]) (fun (s19:Int)=>[(3,.cells (zaj p0))]) (.cons .qi (.cons .q (.cons .q (.cons .q (.cons .qi .nil))))) (.cons .q .nil) (fun k19 s19 H K0 hK19=>?_)
   refine W.seq (W.rg env [1,2,3,8,19,89] [3] ?_)
   refine W.co H rfl (fun hb20 H=>?_) (fun hb20 H=>?_)
   · refine W.skip (At.zad (W.seq (W.block (W.sr env [] [] [1,2,3,8,19,20,21] [3] rfl rfl rfl (.cons rfl .nil) .nil ?_))))
     refine W.seq ?_
     obtain ⟨y21,hy22,H⟩:=zac H
     refine W.region env [] [⟨.bool (y21),[],0,[]⟩] rfl rfl rfl (.cons id (.cons id (.cons id (.cons id (.cons id .nil))))) (.on (fun hW=>zeQ p0 ((s1.get s19).getD default) p1 p2 (zbf hy22 hW)) .nil) (At.kp [1,2,3,8,19,20,105] [3] ?_)
     refine At.zad (W.co H rfl (fun hb23 H=>?_) (fun hb23 H=>?_))
     · refine W.rg env [6,7] [] ?_
       refine W.ret (At.rinb ?_)
       refine At.rthen ?_
       refine At.rthen ?_
       refine At.rinb ?_
       refine At.rthen ?_
       exact At.retN env.ty (((s1.get s19).getD default),true) H rfl rfl nofun (.refl _) hval
     · refine W.skip (At.inb (At.zad ?_))
       obtain ⟨hc24,H⟩:=zab H
       refine W.r1 env hc24 [1,2,3,8,19] [3] ?_
       refine At.zaG (At.kp [1,2,3,8,19] [3] ?_)
       exact At.conv (.cons .qi (.cons .q (.cons .q (.cons .q (.cons .qi .nil))))) (.cons .q .nil) (hK19 (s19+1) H)
   · refine W.exit (At.xthen (At.xthen (At.xhere (At.zad (W.rg env [6,7] [] ?_)))))
     exact W.ret (At.retN env.ty ([],false) H rfl rfl nofun (Sim.tupL (.cons (Sim.nil _ _) (.cons (.refl _) .nil))) hval)
theorem zil (p0:List Int) {r:List Int} (H:zcH p0=some r):CtrO Tryz.prog 59 [.buf 90000 p0.length] [(90000,bufL 3 1 zaa p0)] (.tup []) [(90000,bufL 3 1 zaa r)]:=
 zqY (Go.Av.enters_of Tryz.func59 (by kernel_rfl) (c:=_) rfl) (Any.slices_Sort_int zmo) (Any.slices_Sort_int_none zmo) 3 p0 H
theorem zi3 (fuel:Nat) (p0:Wear) (p1:(List Int)) (p2:Int) (p3:Int) (p4:Int) (p5:Bool) (post:((List Int)×Int)→Option Unit) {r:Unit} (H:zdm fuel p0 p1 p2 p3 p4 p5 post=some r):CtrN Tryz.prog 16 [.agg (zav p0),roL 1 zaa p1,.int .i64 (p2),.int .i64 (p3),.int .i64 (p4),.bool (p5)] (fun (y:((List Int)×Int))=>.tup [roL 1 zaa y.1,.int .i64 (y.2)]) (fun y=>post y=some r):=by
 unfold zdm at H
 refine CtrN.zcU (N:=59) Tryz.func16 (by kernel_rfl) (c:=_) rfl Tryz.ntmps16 rfl (fun w0 h0 hval=>?_)
 refine W.rg env [1,2,3,4,5,6] [6] ?_
 refine W.seq ?_
 obtain ⟨y1,hy2,H⟩:=zac H
 refine W.region env [] [⟨.tup [.agg (zaj y1.1),.int .i64 (y1.2)],[],0,[]⟩] rfl rfl rfl .nil (.free (zdz fuel p0 p1 p2 p3 p4 hy2) .nil) (At.kp [1,4,5,14,15] [14] ?_)
 refine At.zad (W.seq (W.rg env [1,4,5,14,15,31] [14] ?_))
 refine W.co H rfl (fun hb3 H=>?_) (fun hb3 H=>?_)
 · refine W.rg env [12,13] [] ?_
   refine W.ret (At.rthen ?_)
   exact At.retN env.ty ([],y1.2) H rfl rfl nofun (Sim.tupL (.cons (Sim.nil _ _) (.cons (.refl _) .nil))) hval
 · refine W.skip (At.zad (W.seq (W.zpG env [] 3 [] [] rfl rfl rfl rfl rfl rfl (fun _=>rfl) rfl .nil .nil (fun _=>.nil) (fun _=>.nil) (fun _=>rfl) (zgn fuel y1.1 p4 p5 _ H) (fun y4 H=>?_))))
   refine At.kp [1,16,17] [] ?_
   refine At.zad (W.seq (W.rg env [1,16,41] [] ?_))
   refine W.co H rfl (fun hb5 H=>?_) (fun hb5 H=>?_)
   · refine W.rg env [12,13] [] ?_
     refine W.ret (At.rthen ?_)
     exact At.retN env.ty ([],3) H rfl rfl nofun (Sim.tupL (.cons (Sim.nil _ _) (.cons (.refl _) .nil))) hval
   · refine W.skip (At.zad (W.rg env [1,16,18] [] ?_))
     refine W.seq (W.rg env [1,18,42,43,44] [] ?_)
     refine W.block (At.zht 18 518 3 1 (e:=fun i=>zaa (([]:List Int).getD i default)) rfl rfl ?_)
     refine At.kp [1,18,42,43,44] [518] ?_
     refine W.len (t:=42) rfl (fun hn6=>?_)
     refine W.zak H (fun i6 (s6:(List Int))=>[(1,roL 1 zaa p1),(18,.buf 518 (s6).length),(42,roL 1 zaa y4.1),(43,.int .i64 (((y4.1.length:Nat):Int))),(44,.int .i64 ((i6:Int)))]) (fun i6 (s6:(List Int))=>[(518,bufL 3 1 zaa s6)]) (.cons .q (.cons .qb (.cons .q (.cons .qi (.cons .qi .nil))))) (.cons .q .nil) (fun k6 i6 s6 hle6 H1 H2 K0 hK6=>?_)
     refine W.rg env [1,18,42,43,44,45] [518] ?_
     refine W.seq (W.cond rfl (fun hb7=>?_) (fun hb7=>?_))
     · have hi6:i6<y4.1.length:=ltD hb7
       have H:=H1 hi6
       refine W.skip (At.zad (W.seq (W.block (W.sr env [] [] [1,18,20,42,43,44] [518] rfl rfl rfl (.cons (inD hi6) .nil) .nil ?_))))
       obtain ⟨hc8,H⟩:=zab H
       obtain ⟨hc9,H⟩:=zab H
       refine W.region env [] [] rfl rfl rfl (.cons hc8 (.cons (rmI hc9) .nil)) .nil (At.kp [1,18,42,43,44] [518] ?_)
       refine At.zbY (.cons (y:=bufL 3 1 zaa (s6++([(p1.getD ((y4.1.getD i6 default)).toNat default)]:List Int))) (BSim.seg (Seg.push (Seg.refl zaa _) (Seg.lit (f:=zaa) (sz:=1) ([(p1.getD ((y4.1.getD i6 default)).toNat default)]:List Int) rfl rfl (fun _=>rfl)))) .nil) ?_
       refine At.inb (At.zad (W.region env [] [] rfl rfl rfl (.cons (incD hi6 hn6) .nil) .nil (At.kp [1,18,42,43,44] [518] ?_)))
       refine At.zaG (At.kp [1,18,42,43,44] [518] ?_)
       exact At.conv (.cons .q (.cons .qb (.cons .q (.cons .qi (.cons .qi .nil))))) (.cons .q .nil) (hK6 hi6 (s6++([(p1.getD ((y4.1.getD i6 default)).toNat default)]:List Int)) H)
     · have H:=H2 (geD hb7)
       refine W.exit (At.xthen (At.xthen (At.xhere (At.zad (W.seq ?_)))))
       obtain ⟨y10,hy11,H⟩:=zac H
       obtain ⟨hc12,H⟩:=zab H
       refine W.region env [] [⟨.tup [],[(518,bufL 3 1 zaa y10)],0,[518]⟩] rfl rfl (by kernel_rfl) .nil (.free (CtrO.sim (CtrO.ren (zil s6 hy11) [(90000,518)]) (.cons .qc .nil) (.cons (.refl _) .nil)) .nil) (At.kp [18] [518] ?_)
       refine At.zad (W.rg env [12,13] [518] ?_)
       exact W.ret (At.retN env.ty (y10,0) H rfl rfl (fun q hq=>by cases hq;exact (by first|rfl|(simp;done)|omega|(simp;omega))) (.refl _) hval)
theorem zkQ (p0:Int) (p1:Int):Ctr Tryz.prog 101 [.int .i64 (p0),.int .i64 (p1)] (.bool ((cmp_Less_int p0 p1))):=by
 obtain ⟨r,H⟩:∃ r,cmp_Less_int p0 p1=r:=⟨_,rfl⟩
 rw [H]
 unfold cmp_Less_int at H
 refine Ctr.ob Tryz.func101 Tryz.ntmps101 (fun w0 h0 hval=>?_)
 refine W.rg env [0,1] [] ?_
 refine W.sr env [] [⟨.bool ((cmp_isNaN_int p0)),[],0,[]⟩,⟨.bool ((cmp_isNaN_int p1)),[],0,[]⟩] [4] [] rfl rfl rfl (.cons id (.cons id (.cons id (.cons id (.cons id (.cons (fun h=>by rw [h];rfl) .nil)))))) (.free (zei p0) (.on (fun hW=>zei p1) .nil)) ?_
 refine W.ret ?_
 cases H
 exact At.rz env hval
theorem zfm (p0:Int):Ctr Tryz.prog 102 [.int .i64 (p0)] (.bool ((zb5 p0))):=by
 obtain ⟨r,H⟩:∃ r,zb5 p0=r:=⟨_,rfl⟩
 rw [H]
 unfold zb5 at H
 refine Ctr.ob Tryz.func102 Tryz.ntmps102 (fun w0 h0 hval=>?_)
 refine W.rg env [0] [] ?_
 refine W.rg env [2] [] ?_
 refine W.ret ?_
 cases H
 exact At.rz env hval
theorem zfz (fuel:Nat) (p0:(List Int)) (p1:Int) {r:(Int×Bool)} (H:zbx fuel p0 p1=some r):Ctr Tryz.prog 61 [roL 1 zaa p0,.int .i64 (p1)] (.tup [.int .i64 (r.1),.bool (r.2)]):=by
 unfold zbx at H
 refine Ctr.ob Tryz.func61 Tryz.ntmps61 (fun w0 h0 hval=>?_)
 refine W.rg env [0,1] [] ?_
 refine W.rg env [0,1,6] [] ?_
 refine W.rg env [0,1,6,7,8] [] ?_
 refine W.seq (W.block (At.kp [0,1,6,7,8] [] ?_))
 refine W.loopGo H (fun (s1:Int×Int)=>[(0,roL 1 zaa p0),(1,.int .i64 (p1)),(6,.int .i64 (((p0.length:Nat):Int))),(7,.int .i64 (s1.1)),(8,.int .i64 (s1.2))]) (fun (s1:Int×Int)=>[]) (.cons .q (.cons .qi (.cons .qi (.cons .qi (.cons .qi .nil))))) .nil (fun k1 s1 H K0 hK1=>?_)
 refine W.seq (W.rg env [0,1,6,7,8,15] [] ?_)
 refine W.co H rfl (fun hb2 H=>?_) (fun hb2 H=>?_)
 · refine W.skip (At.zad (W.block ?_))
   obtain ⟨hc3,H⟩:=zab H
   obtain ⟨hc4,H⟩:=zab H
   obtain ⟨hc5,H⟩:=zab H
   refine W.sr env [] [] [0,1,6,7,8,9] [] rfl rfl rfl (.cons hc3 (.cons hc4 (.cons (by decide) (.cons hc5 .nil)))) .nil ?_
   obtain ⟨hc6,H⟩:=zab H
   refine W.sr env [] [⟨.bool ((cmp_Less_int (p0.getD ((Int.fdiv (s1.1+s1.2) (2 ^ (1:Int).toNat))).toNat default) p1)),[],0,[]⟩] [0,1,6,7,8,9,27] [] rfl rfl rfl (.cons hc6 .nil) (.free (zkQ (p0.getD ((Int.fdiv (s1.1+s1.2) (2 ^ (1:Int).toNat))).toNat default) p1) .nil) ?_
   refine W.co H rfl (fun hb7 H=>?_) (fun hb7 H=>?_)
   · obtain ⟨hc8,H⟩:=zab H
     refine W.r1 env hc8 [0,1,6,7,8] [] ?_
     refine At.inb (At.zaG (At.kp [0,1,6,7,8] [] ?_))
     exact At.conv (.cons .q (.cons .qi (.cons .qi (.cons .qi (.cons .qi .nil))))) .nil (hK1 (((Int.fdiv (s1.1+s1.2) (2 ^ (1:Int).toNat))+1),s1.2) H)
   · refine W.region env [] [] rfl rfl rfl .nil .nil (At.kp [0,1,6,7,8] [] ?_)
     refine At.inb (At.zaG (At.kp [0,1,6,7,8] [] ?_))
     exact At.conv (.cons .q (.cons .qi (.cons .qi (.cons .qi (.cons .qi .nil))))) .nil (hK1 (s1.1,(Int.fdiv (s1.1+s1.2) (2 ^ (1:Int).toNat))) H)
 · refine W.exit (At.xthen (At.xthen (At.xhere (At.zad ?_))))
   obtain ⟨hc9,H⟩:=zab H
   obtain ⟨hc10,H⟩:=zab H
   refine W.sr env [] [⟨.bool ((zb5 (p0.getD (s1.1).toNat default))),[],0,[]⟩,⟨.bool ((zb5 p1)),[],0,[]⟩] [4,5] [] rfl rfl rfl (.cons hc9 (.cons id (.cons id (.cons id (.cons id (.cons id (.cons id (.cons hc10 (.cons id (.cons id (.cons id (.cons id (.cons id (.cons id (.cons id (.cons (fun hW h=>by revert hW h;first|(simp +contextual;done)|grind) (.cons id (.cons (fun hW h=>by revert hW h;first|(simp +contextual;done)|grind) (.cons id .nil))))))))))))))))))) (.on (fun hW=>zfm (p0.getD (s1.1).toNat default)) (.on (fun hW=>zfm p1) .nil)) ?_
   refine W.ret ?_
   cases H
   exact At.rz env hval
theorem zim (p0:(List Int)) (p1:Int) {r:Int} (H:zdP p0 p1=some r):Ctr Tryz.prog 103 [roL 1 zaa p0,.int .i64 (p1)] (.int .i64 (r)):=by
 unfold zdP at H
 refine Ctr.ob Tryz.func103 Tryz.ntmps103 (fun w0 h0 hval=>?_)
 refine W.rg env [0,1] [] ?_
 refine W.seq (W.rg env [0,1,7,8] [] ?_)
 refine W.block (At.kp [0,1,7,8] [] ?_)
 refine W.len (t:=0) rfl (fun hn1=>?_)
 refine W.zak H (fun i1 (s1:Unit)=>[(0,roL 1 zaa p0),(1,.int .i64 (p1)),(7,.int .i64 (((p0.length:Nat):Int))),(8,.int .i64 ((i1:Int)))]) (fun i1 (s1:Unit)=>[]) (.cons .q (.cons .qi (.cons .qi (.cons .qi .nil)))) .nil (fun k1 i1 s1 hle1 H1 H2 K0 hK1=>?_)
 refine W.rg env [0,1,7,8,9] [] ?_
 refine W.seq (W.cond rfl (fun hb2=>?_) (fun hb2=>?_))
 · have hi1:i1<p0.length:=ltD hb2
   have H:=H1 hi1
   refine W.skip (At.zad (W.seq (W.block (W.rg env [0,1,5,7,8] [] ?_))))
   refine W.sr env [] [] [0,1,5,7,8,16] [] rfl rfl rfl (.cons (inD hi1) .nil) .nil ?_
   refine W.co H rfl (fun hb3 H=>?_) (fun hb3 H=>?_)
   · refine W.rg env [4] [] ?_
     refine W.ret (At.rinb ?_)
     refine At.rthen ?_
     refine At.rthen ?_
     refine At.rinb ?_
     refine At.rthen ?_
     cases H
     exact At.rz env hval
   · refine W.skip (At.inb (At.zad (W.region env [] [] rfl rfl rfl (.cons (incD hi1 hn1) .nil) .nil (At.kp [0,1,7,8] [] ?_))))
     refine At.zaG (At.kp [0,1,7,8] [] ?_)
     exact At.conv (.cons .q (.cons .qi (.cons .qi (.cons .qi .nil)))) .nil (hK1 hi1 () H)
 · have H:=H2 (geD hb2)
   refine W.exit (At.xthen (At.xthen (At.xhere (At.zad (W.rg env [4] [] ?_)))))
   refine W.ret ?_
   cases H
   exact At.rz env hval
theorem zgP (p0:(List Int)) (p1:Int) {r:Bool} (H:zch p0 p1=some r):Ctr Tryz.prog 62 [roL 1 zaa p0,.int .i64 (p1)] (.bool (r)):=by
 unfold zch at H
 refine Ctr.ob Tryz.func62 Tryz.ntmps62 (fun w0 h0 hval=>?_)
 refine W.rg env [0,1] [] ?_
 refine W.seq ?_
 obtain ⟨y1,hy2,H⟩:=zac H
 refine W.region env [] [⟨.int .i64 (y1),[],0,[]⟩] rfl rfl rfl .nil (.free (zim p0 p1 hy2) .nil) (At.kp [4] [] ?_)
 refine At.zad (W.ret ?_)
 cases H
 exact At.rz env hval
theorem zho (fuel:Nat) (p0:Wear) (p1:(List Int)) (p2:Int) (p3:Int) (p4:Int) (p5:Bool) (p6:(List Int)) {r:Int} (H:zcz fuel p0 p1 p2 p3 p4 p5 p6=some r):Ctr Tryz.prog 17 [.agg (zav p0),roL 1 zaa p1,.int .i64 (p2),.int .i64 (p3),.int .i64 (p4),.bool (p5),roL 1 zaa p6] (.int .i64 (r)):=by
 unfold zcz at H
 refine Ctr.ob Tryz.func17 Tryz.ntmps17 (fun w0 h0 hval=>?_)
 refine W.rg env [1,2,3,4,5,6,7] [7] ?_
 refine W.seq ?_
 obtain ⟨y1,hy2,H⟩:=zac H
 refine W.region env [] [⟨.tup [.agg (zaj y1.1),.int .i64 (y1.2)],[],0,[]⟩] rfl rfl rfl .nil (.free (zdz fuel p0 p1 p2 p3 p4 hy2) .nil) (At.kp [1,4,5,6,15,16] [15] ?_)
 refine At.zad (W.seq (W.rg env [1,4,5,6,15,16,33] [15] ?_))
 refine W.co H rfl (fun hb3 H=>?_) (fun hb3 H=>?_)
 · refine W.rg env [14] [] ?_
   refine W.ret (At.rthen ?_)
   cases H
   exact At.rz env hval
 · refine W.skip (At.zad (W.seq ?_))
   obtain ⟨y4,hy5,H⟩:=zac H
   refine W.region env [] [⟨roL 1 zaa y4,[],0,[]⟩] rfl rfl rfl .nil (.free (zda y1.1 hy5) .nil) (At.kp [1,4,5,6,15,17] [15] ?_)
   refine At.zad (W.rg env [1,4,5,6,15,17,18] [15] ?_)
   refine W.seq (W.rg env [1,4,5,6,15,17,18,37,38,39] [15] ?_)
   refine W.block (At.zht 18 518 3 1 (e:=fun i=>zaa (([]:List Int).getD i default)) rfl rfl ?_)
   refine At.kp [1,4,5,6,15,17,18,37,38,39] [15,518] ?_
   refine W.len (t:=37) rfl (fun hn6=>?_)
   refine W.zak H (fun i6 (s6:(List Int))=>[(1,roL 1 zaa p1),(4,.int .i64 (p4)),(5,.bool (p5)),(6,roL 1 zaa p6),(15,.lp 15 0),(17,roL 1 zaa y4),(18,.buf 518 (s6).length),(37,roL 1 zaa p6),(38,.int .i64 (((p6.length:Nat):Int))),(39,.int .i64 ((i6:Int)))]) (fun i6 (s6:(List Int))=>[(15,.cells (zaj y1.1)),(518,bufL 3 1 zaa s6)]) (.cons .q (.cons .qi (.cons .q (.cons .q (.cons .q (.cons .q (.cons .qb (.cons .q (.cons .qi (.cons .qi .nil)))))))))) (.cons .q (.cons .q .nil)) (fun k6 i6 s6 hle6 H1 H2 K0 hK6=>?_)
   refine W.rg env [1,4,5,6,15,17,18,37,38,39,40] [15,518] ?_
   refine W.seq (W.cond rfl (fun hb7=>?_) (fun hb7=>?_))
   · have hi6:i6<p6.length:=ltD hb7
     have H:=H1 hi6
     refine W.skip (At.zad (W.seq (W.block (W.sr env [] [] [1,4,5,6,15,17,18,19,20,37,38,39] [15,518] rfl rfl rfl (.cons (inD hi6) .nil) .nil ?_))))
     refine W.seq ?_
     obtain ⟨y8,hy9,H⟩:=zac H
     refine W.region env [] [⟨.tup [.int .i64 (y8.1),.bool (y8.2)],[],0,[]⟩] rfl rfl rfl .nil (.free (zfz fuel p1 (p6.getD i6 default) hy9) .nil) (At.kp [1,4,5,6,15,17,18,19,20,21,22,37,38,39] [15,518] ?_)
     refine At.zad (W.seq (W.seq ?_))
     obtain ⟨hc10,H⟩:=zab H
     obtain ⟨hc11,H⟩:=zab H
     obtain ⟨y12,hy13,H⟩:=zac H
     refine W.region env [] [⟨.bool (y12),[],0,[]⟩] rfl rfl rfl (.cons id (.cons id (.cons hc10 (.cons id (.cons hc11 (.cons id (.cons id (.cons id (.cons id (.cons id (.cons id (.cons (fun hW h=>by revert hW h;first|(simp +contextual;done)|grind) (.cons (fun h=>by rw [h];rfl) (.cons id (.cons id (.cons id (.cons (fun h=>by rw [h];rfl) .nil))))))))))))))))) (.on (fun hW=>zgP y4 y8.1 (zbf hy13 hW)) .nil) (At.kp [1,4,5,6,15,17,18,21,37,38,39,70] [15,518] ?_)
     refine At.zad (W.co H rfl (fun hb14 H=>?_) (fun hb14 H=>?_))
     · refine W.rg env [14] [] ?_
       refine W.ret (At.rthen ?_)
       refine At.rinb ?_
       refine At.rthen ?_
       refine At.rthen ?_
       refine At.rinb ?_
       refine At.rthen ?_
       cases H
       exact At.rz env hval
     · refine W.skip (At.zad ?_)
       obtain ⟨hc15,H⟩:=zab H
       refine W.region env [] [] rfl rfl rfl (.cons (rmI hc15) .nil) .nil (At.kp [1,4,5,6,15,17,18,37,38,39] [15,518] ?_)
       refine At.zbY (.cons (.refl _) (.cons (y:=bufL 3 1 zaa (s6++([y8.1]:List Int))) (BSim.seg (Seg.push (Seg.refl zaa _) (Seg.lit (f:=zaa) (sz:=1) ([y8.1]:List Int) rfl rfl (fun _=>rfl)))) .nil)) ?_
       refine At.inb (At.zad (W.region env [] [] rfl rfl rfl (.cons (incD hi6 hn6) .nil) .nil (At.kp [1,4,5,6,15,17,18,37,38,39] [15,518] ?_)))
       refine At.zaG (At.kp [1,4,5,6,15,17,18,37,38,39] [15,518] ?_)
       exact At.conv (.cons .q (.cons .qi (.cons .q (.cons .q (.cons .q (.cons .q (.cons .qb (.cons .q (.cons .qi (.cons .qi .nil)))))))))) (.cons .q (.cons .q .nil)) (hK6 hi6 (s6++([y8.1]:List Int)) H)
   · have H:=H2 (geD hb7)
     refine W.exit (At.xthen (At.xthen (At.xhere (At.zad (W.seq (W.seq ?_))))))
     obtain ⟨y16,hy17,H⟩:=zac H
     refine W.region env [] [⟨.bool (y16),[],0,[]⟩] rfl rfl rfl (.cons (by first|rfl|(simp;done)|omega|(simp;omega)) .nil) (.free (zeQ y1.1 s6 p4 p5 hy17) .nil) (At.kp [81] [] ?_)
     refine At.zad (W.co H rfl (fun hb18 H=>?_) (fun hb18 H=>?_))
     · refine W.rg env [14] [] ?_
       refine W.ret (At.rthen ?_)
       cases H
       exact At.rz env hval
     · refine W.skip (At.zad (W.rg env [14] [] ?_))
       refine W.ret ?_
       cases H
       exact At.rz env hval
theorem zfN (fuel:Nat) (p0:gasoliertop_Winter) (post:Bool→Option Unit) {r:Unit} (H:zcl fuel p0 post=some r):CtrN Tryz.prog 3 [.agg [roL 2 za0 p0.Nights,roL 1 zaa p0.Batch,roL 3 zcD p0.Lives,roL 1 zaa p0.Burnt,roL 2 za0 p0.Looks,.int .i64 (p0.Many)]] (fun (y:Bool)=>.bool (y)) (fun y=>post y=some r):=by
 unfold zcl at H
 refine CtrN.zcU (N:=307) Tryz.func3 (by kernel_rfl) (c:=_) rfl Tryz.ntmps3 rfl (fun w0 h0 hval=>?_)
 refine W.rg env [1] [1] ?_
 refine W.seq ?_
 obtain ⟨y1,hy2,H⟩:=zac H
 refine W.region env [] [⟨.bool (y1),[],0,[]⟩] rfl rfl rfl .nil (.free (zhT 20000 hy2) .nil) (At.kp [1,3] [1] ?_)
 refine At.zad (W.seq ?_)
 obtain ⟨y3,hy4,H⟩:=zac H
 refine W.region env [] [⟨.tup [.agg (zav y3.1),.agg [roL 1 zaa y3.2.1.Lives,roL 1 zaa y3.2.1.Minutes],.bool (y3.2.2)],[],0,[]⟩] rfl rfl rfl .nil (.free (zgp fuel p0 hy4) .nil) (At.kp [1,3,4,5,6] [1,4,5] ?_)
 refine At.zad (W.seq (W.seq ?_))
 obtain ⟨y5,hy6,H⟩:=zac H
 obtain ⟨y7,hy8,H⟩:=zac H
 refine W.region env [] [⟨.int .i64 (y5),[],0,[]⟩,⟨.int .i64 (y7),[],0,[]⟩] rfl rfl rfl (.cons id (.cons (fun h=>by rw [h];rfl) (.cons id (.cons id (.cons (fun h=>by rw [h];rfl) (.cons id (.cons id (.cons id (.cons (fun h=>by rw [h];rfl) .nil))))))))) (.on (fun hW=>zdN y3.1 (zbf hy6 hW)) (.on (fun hW=>zfn fuel y3.1 9 y3.2.1 (zbf hy8 hW)) .nil)) (At.kp [1,4,5,60] [1,4,5] ?_)
 refine At.zad (W.co H rfl (fun hb9 H=>?_) (fun hb9 H=>?_))
 · refine W.rg env [2] [] ?_
   refine W.ret (At.rthen ?_)
   exact At.retN env.ty false H rfl rfl nofun (.refl _) hval
 · refine W.skip (At.zad (W.seq (W.region env [] [] rfl rfl rfl .nil .nil (At.kp [1,4,5,7] [1,4,5] ?_))))
   refine At.slot (t:=7) (v:=roL 1 zaa ([1,2,3,4]:List Int)) (Sim.lit (f:=zaa) ([1,2,3,4]:List Int) rfl rfl (fun _=>rfl)) ?_
   refine At.zad (W.seq (W.rg env [1,4,5,7,8] [1,4,5] ?_))
   refine W.block (At.kp [1,4,5,7,8] [1,4,5] ?_)
   refine W.loopGo H (fun (s10:Int×Wear)=>[(1,.lp 1 0),(4,.lp 4 0),(5,.lp 5 0),(7,roL 1 zaa ([1,2,3,4]:List Int)),(8,.int .i64 (s10.1))]) (fun (s10:Int×Wear)=>[(1,.cells [roL 2 za0 p0.Nights,roL 1 zaa p0.Batch,roL 3 zcD p0.Lives,roL 1 zaa p0.Burnt,roL 2 za0 p0.Looks,.int .i64 (p0.Many)]),(4,.cells (zav s10.2)),(5,.cells [roL 1 zaa y3.2.1.Lives,roL 1 zaa y3.2.1.Minutes])]) (.cons .q (.cons .q (.cons .q (.cons .q (.cons .qi .nil))))) (.cons .q (.cons .q (.cons .q .nil))) (fun k10 s10 H K0 hK10=>?_)
   refine W.seq (W.sr env [] [] [1,4,5,7,8,70] [1,4,5] rfl rfl rfl (.cons id (.cons id .nil)) .nil ?_)
   refine W.co H rfl (fun hb11 H=>?_) (fun hb11 H=>?_)
   · refine W.skip (At.zad (W.seq (W.block (W.seq ?_))))
     obtain ⟨hc12,H⟩:=zab H
     obtain ⟨y13,hy14,H⟩:=zac H
     obtain ⟨hc15,H⟩:=zab H
     refine W.region env [] [⟨.int .i64 (y13),[],0,[]⟩] rfl rfl rfl (.cons hc12 (.cons (by decide) (.cons hc15 .nil))) (.free (zaF ((p0.Looks.getD (s10.1).toNat default).x0) 4 hy14) .nil) (At.kp [1,4,5,7,8,9] [1,4,5] ?_)
     refine At.zad (W.seq ?_)
     obtain ⟨hc16,H⟩:=zab H
     obtain ⟨y17,hy18,H⟩:=zac H
     refine W.region env [] [⟨.int .i64 (y17),[],0,[]⟩] rfl rfl rfl (.cons hc16 (.cons (by decide) .nil)) (.free (zaF ((p0.Looks.getD (s10.1).toNat default).x1) 6 hy18) .nil) (At.kp [1,4,5,7,8,9,10] [1,4,5] ?_)
     refine At.zad (W.seq ?_)
     obtain ⟨y19,hy20,H⟩:=zac H
     refine W.region env [] [⟨.tup [roL 1 zaa y19.1,.int .i64 (y19.2)],[],0,[]⟩] rfl rfl rfl .nil (.free (Ctr.sim (.cons (.refl _) (.cons (.refl _) (.cons (Sim.lit (f:=zaa) ([(1+y13)]:List Int) rfl rfl (fun _=>rfl)) (.cons (.refl _) (.cons (.refl _) .nil))))) (zio fuel s10.2 y3.2.1 ([(1+y13)]:List Int) y17 9 hy20)) .nil) (At.kp [1,4,5,7,8,9,10,11,12] [1,4,5] ?_)
     refine At.zad (W.seq ?_)
     obtain ⟨hc21,H⟩:=zab H
     obtain ⟨y22,hy23,H⟩:=zac H
     refine W.region env [] [⟨.tup [.agg (zav y22.1),.int .i64 (y22.2)],[],0,[]⟩] rfl rfl rfl (.cons hc21 .nil) (.free (zgV fuel s10.2 (⟨(90+s10.1),(1+y13),y17,(decide (0<((y19.1.length:Nat):Int))),0,0⟩:Look) hy23) .nil) (At.kp [1,4,5,7,8,12,13,14] [1,4,5,13] ?_)
     refine At.zad (W.seq (W.sr env [] [] [1,4,5,7,8,13,115] [1,4,5,13] rfl rfl rfl (.cons id (.cons (fun h=>by rw [h];rfl) .nil)) .nil ?_))
     refine W.co H rfl (fun hb24 H=>?_) (fun hb24 H=>?_)
     · refine W.rg env [2] [] ?_
       refine W.ret (At.rthen ?_)
       refine At.rinb ?_
       refine At.rthen ?_
       refine At.rthen ?_
       refine At.rinb ?_
       refine At.rthen ?_
       exact At.retN env.ty false H rfl rfl nofun (.refl _) hval
     · refine W.skip (At.zad (W.region env [] [] rfl rfl rfl .nil .nil (At.kp [1,4,5,7,8] [1,4,5] ?_)))
       refine At.inb (At.zad ?_)
       obtain ⟨hc25,H⟩:=zab H
       refine W.r1 env hc25 [1,4,5,7,8] [1,4,5] ?_
       refine At.zaG (At.kp [1,4,5,7,8] [1,4,5] ?_)
       exact At.conv (.cons .q (.cons .q (.cons .q (.cons .q (.cons .qi .nil))))) (.cons .q (.cons .q (.cons .q .nil))) (hK10 ((s10.1+1),y22.1) H)
   · refine W.exit (At.xthen (At.xthen (At.xhere (At.zad (W.seq ?_)))))
     obtain ⟨y26,hy27,H⟩:=zac H
     refine W.region env [] [⟨.tup [.bool (y26.1),.int .i64 (y26.2)],[],0,[]⟩] rfl rfl rfl .nil (.free (zkP fuel s10.2 9 hy27) .nil) (At.kp [1,4,5,7,15,16] [1,4,5] ?_)
     refine At.zad (W.seq ?_)
     obtain ⟨y28,hy29,H⟩:=zac H
     refine W.region env [] [⟨.tup [roL 1 zaa y28.1,.int .i64 (y28.2)],[],0,[]⟩] rfl rfl rfl .nil (.free (zio fuel s10.2 y3.2.1 ([1,2,3,4]:List Int) 5 9 hy29) .nil) (At.kp [1,4,5,7,15,16,17,18] [1,4,5] ?_)
     refine At.zad (W.seq ?_)
     obtain ⟨y30,hy31,H⟩:=zac H
     refine W.region env [] [⟨.tup [.agg [.int .i64 (y30.1.Lo),.int .i64 (y30.1.Hi)],.int .i64 (y30.2)],[],0,[]⟩] rfl rfl rfl .nil (.free (zm4 fuel s10.2 ([1,2,3,4]:List Int) 5 9 hy31) .nil) (At.kp [1,4,5,7,15,16,17,18,19,20] [1,4,5,19] ?_)
     refine At.zad (W.seq ?_)
     obtain ⟨y32,hy33,H⟩:=zac H
     refine W.region env [] [⟨.int .i64 (y32),[],0,[]⟩] rfl rfl rfl .nil (.free (zaF p0.Many 5 hy33) .nil) (At.kp [4,5,7,15,16,17,18,19,20,21] [4,5,19] ?_)
     refine At.zad (W.seq ?_)
     obtain ⟨y34,hy35,H⟩:=zac H
     refine W.region env [] [⟨.tup [.int .i64 (y34.1),.int .i64 (y34.2)],[],0,[]⟩] rfl rfl rfl .nil (.free (zhA fuel s10.2 ([1,2,3,4]:List Int) 5 9 y32 hy35) .nil) (At.kp [4,5,7,15,16,17,18,19,20,21,22,23] [4,5,19] ?_)
     refine At.zad (W.seq (W.seq ?_))
     obtain ⟨y36,hy37,H⟩:=zac H
     refine W.region env [] [⟨.int .i64 (y36),[],0,[]⟩] rfl rfl rfl (.cons id (.cons (fun h=>by rw [h];rfl) (.cons id (.cons id (.cons id (.cons (fun h=>by rw [h];rfl) (.cons id (.cons (fun h=>by rw [h];rfl) (.cons id (.cons (fun h=>by rw [h];rfl) (.cons id (.cons (fun h=>by rw [h];rfl) (.cons id (.cons id (.cons id (.cons id (.cons (fun h=>by rw [h];rfl) (.cons id (.cons id (.cons id (.cons id (.cons (fun h=>by rw [h];rfl) (.cons id (.cons id (.cons id (.cons id (.cons id (.cons id (.cons (fun hW h=>by revert hW h;first|(simp +contextual;done)|grind) (.cons (fun h=>by rw [h];rfl) (.cons id (.cons id (.cons id (.cons id (.cons id (.cons id (.cons (fun hW h=>by revert hW h;first|(simp +contextual;done)|grind) (.cons (fun h=>by rw [h];rfl) .nil)))))))))))))))))))))))))))))))))))))) (.on (fun hW=>zfn fuel s10.2 9 y3.2.1 (zbf hy37 hW)) .nil) (At.kp [4,7,17,21,202] [4] ?_)
     refine At.zad (W.co H rfl (fun hb38 H=>?_) (fun hb38 H=>?_))
     · refine W.rg env [2] [] ?_
       refine W.ret (At.rthen ?_)
       exact At.retN env.ty false H rfl rfl nofun (.refl _) hval
     · refine W.skip (At.zad (W.seq (W.rg env [4,7,17,21,203,204,205] [4] ?_)))
       refine W.block (At.kp [4,7,17,21,203,204,205] [4] ?_)
       refine W.len (t:=203) rfl (fun hn39=>?_)
       refine W.zak H (fun i39 (s39:Unit)=>[(4,.lp 4 0),(7,roL 1 zaa ([1,2,3,4]:List Int)),(17,roL 1 zaa y28.1),(21,.int .i64 (y32)),(203,roL 1 zaa ([1,2,3,4]:List Int)),(204,.int .i64 (((([1,2,3,4]:List Int).length:Nat):Int))),(205,.int .i64 ((i39:Int)))]) (fun i39 (s39:Unit)=>[(4,.cells (zav s10.2))]) (.cons .q (.cons .q (.cons .q (.cons .qi (.cons .q (.cons .qi (.cons .qi .nil))))))) (.cons .q .nil) (fun k39 i39 s39 hle39 H1 H2 K0 hK39=>?_)
       refine W.rg env [4,7,17,21,203,204,205,206] [4] ?_
       refine W.seq (W.cond rfl (fun hb40=>?_) (fun hb40=>?_))
       · have hi39:i39<([1,2,3,4]:List Int).length:=ltD hb40
         have H:=H1 hi39
         refine W.skip (At.zad (W.seq (W.block (W.sr env [] [] [4,7,17,21,25,203,204,205] [4] rfl rfl rfl (.cons (inD hi39) .nil) .nil ?_))))
         refine W.seq ?_
         obtain ⟨y41,hy42,H⟩:=zac H
         refine W.region env [] [⟨.tup [.int .i64 (y41.1),.int .i64 (y41.2)],[],0,[]⟩] rfl rfl rfl .nil (.free (zhz fuel s10.2 (([1,2,3,4]:List Int).getD i39 default) 5 9 hy42) .nil) (At.kp [4,7,17,21,25,26,27,203,204,205] [4] ?_)
         refine At.zad (W.seq ?_)
         obtain ⟨y43,hy44,H⟩:=zac H
         obtain ⟨y45,hy46,H⟩:=zac H
         refine W.region env [] [⟨.bool (y43),[],0,[]⟩,⟨.bool (y45),[],0,[]⟩] rfl rfl rfl (.cons id (.cons id (.cons id (.cons id (.cons id (.cons id (.cons (fun hW h=>by revert hW h;first|(simp +contextual;done)|grind) (.cons (fun h=>by rw [h];rfl) (.cons id (.cons id (.cons id (.cons id (.cons id (.cons (fun hW h=>by revert hW h;first|(simp +contextual;done)|grind) (.cons (fun h=>by rw [h];rfl) .nil))))))))))))))) (.on (fun hW=>zdY y28.1 (([1,2,3,4]:List Int).getD i39 default) (zbf hy44 hW)) (.on (fun hW=>zdY y28.1 (([1,2,3,4]:List Int).getD i39 default) (zbf hy46 hW)) .nil)) (At.kp [4,7,17,21,203,204,205,235] [4] ?_)
         refine At.zad (W.co H rfl (fun hb47 H=>?_) (fun hb47 H=>?_))
         · refine W.rg env [2] [] ?_
           refine W.ret (At.rinb ?_)
           refine At.rthen ?_
           refine At.rthen ?_
           refine At.rinb ?_
           refine At.rthen ?_
           exact At.retN env.ty false H rfl rfl nofun (.refl _) hval
         · refine W.skip (At.inb (At.zad (W.region env [] [] rfl rfl rfl (.cons (incD hi39 hn39) .nil) .nil (At.kp [4,7,17,21,203,204,205] [4] ?_))))
           refine At.zaG (At.kp [4,7,17,21,203,204,205] [4] ?_)
           exact At.conv (.cons .q (.cons .q (.cons .q (.cons .qi (.cons .q (.cons .qi (.cons .qi .nil))))))) (.cons .q .nil) (hK39 hi39 () H)
       · have H:=H2 (geD hb40)
         refine W.exit (At.xthen (At.xthen (At.xhere (At.zad (W.rg env [4,7,17,21,28] [4] ?_)))))
         refine W.seq (W.zpG env [] 4 [] [] rfl rfl rfl rfl rfl rfl (fun _=>rfl) rfl .nil .nil (fun _=>.nil) (fun _=>.nil) (fun _=>rfl) (zi3 fuel s10.2 ([1,2,3,4]:List Int) 5 9 y32 (decide (y32<((y28.1.length:Nat):Int))) _ H) (fun y48 H=>?_))
         refine At.kp [4,7,17,21,28,29,30] [4] ?_
         refine At.zad (W.seq (W.seq ?_))
         obtain ⟨y49,hy50,H⟩:=zac H
         refine W.region env [] [⟨.int .i64 (y49),[],0,[]⟩] rfl rfl rfl (.cons id (.cons id (.cons id (.cons id (.cons id (.cons id (.cons (fun h=>by rw [h];rfl) .nil))))))) (.on (fun hW=>zho fuel s10.2 ([1,2,3,4]:List Int) 5 9 y32 (decide (y32<((y28.1.length:Nat):Int))) y48.1 (zbf hy50 hW)) .nil) (At.kp [4,7,17,21,28,29,259] [4] ?_)
         refine At.zad (W.co H rfl (fun hb51 H=>?_) (fun hb51 H=>?_))
         · refine W.rg env [2] [] ?_
           refine W.ret (At.rthen ?_)
           exact At.retN env.ty false H rfl rfl nofun (.refl _) hval
         · refine W.skip (At.zad (W.seq (W.rg env [4,7,17,21,28,260,261,262] [4] ?_)))
           refine W.block (At.kp [4,7,17,21,28,260,261,262] [4] ?_)
           refine W.len (t:=260) rfl (fun hn52=>?_)
           refine W.zak H (fun i52 (s52:Wear)=>[(4,.lp 4 0),(7,roL 1 zaa ([1,2,3,4]:List Int)),(17,roL 1 zaa y28.1),(21,.int .i64 (y32)),(28,.bool ((decide (y32<((y28.1.length:Nat):Int))))),(260,roL 1 zaa y48.1),(261,.int .i64 (((y48.1.length:Nat):Int))),(262,.int .i64 ((i52:Int)))]) (fun i52 (s52:Wear)=>[(4,.cells (zav s52))]) (.cons .q (.cons .q (.cons .q (.cons .qi (.cons .q (.cons .q (.cons .qi (.cons .qi .nil)))))))) (.cons .q .nil) (fun k52 i52 s52 hle52 H1 H2 K0 hK52=>?_)
           refine W.rg env [4,7,17,21,28,260,261,262,263] [4] ?_
           refine W.seq (W.cond rfl (fun hb53=>?_) (fun hb53=>?_))
           · have hi52:i52<y48.1.length:=ltD hb53
             have H:=H1 hi52
             refine W.skip (At.zad (W.seq (W.block (W.sr env [] [] [4,7,17,21,28,31,32,260,261,262] [4] rfl rfl rfl (.cons (inD hi52) .nil) .nil ?_))))
             refine W.seq (W.seq ?_)
             obtain ⟨y54,hy55,H⟩:=zac H
             refine W.region env [] [⟨.bool (y54),[],0,[]⟩] rfl rfl rfl .nil (.free (zdY y28.1 (y48.1.getD i52 default) hy55) .nil) (At.kp [4,7,17,21,28,31,32,260,261,262,271] [4] ?_)
             refine At.zad (W.co H rfl (fun hb56 H=>?_) (fun hb56 H=>?_))
             · refine W.rg env [2] [] ?_
               refine W.ret (At.rthen ?_)
               refine At.rinb ?_
               refine At.rthen ?_
               refine At.rthen ?_
               refine At.rinb ?_
               refine At.rthen ?_
               exact At.retN env.ty true H rfl rfl nofun (.refl _) hval
             · refine W.skip (At.zad (W.seq ?_))
               obtain ⟨hc57,H⟩:=zab H
               obtain ⟨y58,hy59,H⟩:=zac H
               refine W.region env [] [⟨.tup [.agg (zav y58.1),.int .i64 (y58.2)],[],0,[]⟩] rfl rfl rfl (.cons hc57 .nil) (.free (zgV fuel s52 (⟨(200+(i52:Int)),(y48.1.getD i52 default),5,(decide (y32<((y28.1.length:Nat):Int))),0,0⟩:Look) hy59) .nil) (At.kp [4,7,17,21,28,33,34,260,261,262] [4,33] ?_)
               refine At.zad (W.seq (W.rg env [4,7,17,21,28,33,260,261,262,283] [4,33] ?_))
               refine W.co H rfl (fun hb60 H=>?_) (fun hb60 H=>?_)
               · refine W.rg env [2] [] ?_
                 refine W.ret (At.rthen ?_)
                 refine At.rinb ?_
                 refine At.rthen ?_
                 refine At.rthen ?_
                 refine At.rinb ?_
                 refine At.rthen ?_
                 exact At.retN env.ty false H rfl rfl nofun (.refl _) hval
               · refine W.skip (At.zad (W.region env [] [] rfl rfl rfl .nil .nil (At.kp [4,7,17,21,28,260,261,262] [4] ?_)))
                 refine At.inb (At.zad (W.region env [] [] rfl rfl rfl (.cons (incD hi52 hn52) .nil) .nil (At.kp [4,7,17,21,28,260,261,262] [4] ?_)))
                 refine At.zaG (At.kp [4,7,17,21,28,260,261,262] [4] ?_)
                 exact At.conv (.cons .q (.cons .q (.cons .q (.cons .qi (.cons .q (.cons .q (.cons .qi (.cons .qi .nil)))))))) (.cons .q .nil) (hK52 hi52 y58.1 H)
           · have H:=H2 (geD hb53)
             refine W.exit (At.xthen (At.xthen (At.xhere (At.zad (W.seq ?_)))))
             obtain ⟨y61,hy62,H⟩:=zac H
             refine W.region env [] [⟨.tup [.int .i64 (y61.1),.int .i64 (y61.2)],[],0,[]⟩] rfl rfl rfl .nil (.free (zhA fuel s52 ([1,2,3,4]:List Int) 5 9 y32 hy62) .nil) (At.kp [28,35,36] [] ?_)
             refine At.zad (W.sr env [] [] [2] [] rfl rfl rfl (.cons id (.cons id (.cons id (.cons id (.cons id (.cons id (.cons id (.cons id .nil)))))))) .nil ?_)
             exact W.ret (At.retN env.ty (((decide (y61.2=0)) && ((decide (y61.1=1)) == (decide (y32<((y28.1.length:Nat):Int))))) && (!((decide (y61.1=0)) == (decide (y32<((y28.1.length:Nat):Int)))))) H rfl rfl nofun (.refl _) hval)
theorem zgq (fuel:Nat) (p0:gasoliertop_Winter) {r:Bool} (H:zcF fuel p0=some r):Ctr Tryz.prog 3 [.agg [roL 2 za0 p0.Nights,roL 1 zaa p0.Batch,roL 3 zcD p0.Lives,roL 1 zaa p0.Burnt,roL 2 za0 p0.Looks,.int .i64 (p0.Many)]] (.bool r):=by
 obtain ⟨u,H2,hr⟩:=zoZ H
 subst hr
 exact CtrN.one (zfN fuel p0 _ H2) zpL
end Go.Sp
