/- Printed by gen.py: contracts, part 2. -/
import Derived.Test.YtilbmfgiigbeiaaGreatCtr1
set_option linter.all false
set_option maxRecDepth 100000
set_option maxHeartbeats 1000000
namespace Go.Sp
open Go Go.Av Go.Proofs
theorem zhX (fuel:Nat):∀ (n:Nat) (p0:Int) (c0:Int) (c1:(Option crew_plan)) (c2:Int) (c3:(List Int)) {r:(Int×Int)} (H:zcQ fuel n p0 c0 c1 c2 c3=some r),CtrO Tryz.prog 44 [.int .i64 (p0),.lp 90000 0,.lp 90001 0,.lp 90002 0,.lp 90003 0,.lp 90004 0] [(90000,.cells [.int .i64 (c0)]),(90001,.cells [.po c1.isSome [roL 4 zal ((c1.getD default).Crew.Tasks),roL 1 zac ((c1.getD default).Crew.Travel),roL 3 zak ((c1.getD default).Crew.Hands),roL 1 zaa ((c1.getD default).next)]]),(90002,.cells [.int .i64 (c2)]),(90003,.cells [roL 1 zaa c3]),(90004,.cells [.fn (.func 44) [] [.lp 90000 0,.lp 90001 0,.lp 90002 0,.lp 90003 0,.lp 90004 0]])] (.tup []) [(90000,.cells [.int .i64 (r.1)]),(90001,.cells [.po c1.isSome [roL 4 zal ((c1.getD default).Crew.Tasks),roL 1 zac ((c1.getD default).Crew.Travel),roL 3 zak ((c1.getD default).Crew.Hands),roL 1 zaa ((c1.getD default).next)]]),(90002,.cells [.int .i64 (r.2)]),(90003,.cells [roL 1 zaa c3]),(90004,.cells [.fn (.func 44) [] [.lp 90000 0,.lp 90001 0,.lp 90002 0,.lp 90003 0,.lp 90004 0]])]:=by
 intro n;induction n with
 | zero=>intro p0 c0 c1 c2 c3 r H;cases H
 | succ n ih=>
  intro p0 c0 c1 c2 c3 r H
  have H:zcE fuel (zcQ fuel n) p0 c0 c1 c2 c3=some r:=H
  unfold zcE at H
  refine CtrL.zan (N:=36) Tryz.func44 (by kernel_rfl) (c:=_) rfl Tryz.ntmps44 rfl rfl (fun w0 h0 ρb hval hdom hent=>?_)
  refine W.seq ?_
  obtain ⟨hc1,H⟩:=zab H
  obtain ⟨hc2,H⟩:=zab H
  refine W.sr env [] [] [0,1,2,3,4,5,12] [90000,90001,90002,90003,90004] rfl rfl rfl (.cons hc1 (.cons hc2 .nil)) .nil ?_
  refine W.cond rfl (fun hb3=>?_) (fun hb3=>?_)
  · have H:=zai H hb3
    refine W.ret ?_
    refine At.rthen ?_
    cases H
    exact At.retL env.ty [90000,90001,90002,90003,90004] rfl rfl rfl rfl (.cons (.refl _) (.cons (.refl _) (.cons (.refl _) (.cons (.refl _) (.cons (.refl _) .nil))))) (.refl _) hval hdom hent rfl rfl
  · have H:=zag H hb3
    refine W.skip ?_
    refine At.zad ?_
    obtain ⟨hc4,H⟩:=zab H
    obtain ⟨hc5,H⟩:=zab H
    refine W.sr env [] [] [0,2,3,4,5] [90000,90001,90002,90003,90004] rfl rfl (by first|rfl|kernel_rfl) (.cons hc4 (.cons hc5 .nil)) .nil ?_
    obtain ⟨hc6,H⟩:=zab H
    refine W.sr env [] [⟨.clo (.func 91) [] [.rp [.rp [roL 4 zal ((c1.getD default).Crew.Tasks),roL 1 zac ((c1.getD default).Crew.Travel),roL 3 zak ((c1.getD default).Crew.Hands),roL 1 zaa ((c1.getD default).next)]],.rp [.int .i64 (p0)]],[],0,[]⟩] [3,4,5,19] [90000,90001,90002,90003,90004] rfl rfl rfl .nil (.free (Ctr.sim (.cons (Sim.zib hc6) (.cons (.refl _) .nil)) (zc4 (c1.getD default) p0)) .nil) ?_
    refine W.block ?_
    obtain ⟨it7,hit7,H⟩:=zaf H
    refine At.keep (ts:=[3,4,5,19]) (ids:=[90000,90001,90002,90003,90004]) rfl rfl ?_
    refine W.zdk H (fun (x:Int)=>[.int .i64 (x)]) (zcR (c1.getD default) p0 hit7) rfl (fun _=>⟨rfl,rfl⟩) rfl rfl rfl (fun (s8:Int×Int)=>[(90000,.cells [.int .i64 (s8.1)]),(90001,.cells [.po c1.isSome [roL 4 zal ((c1.getD default).Crew.Tasks),roL 1 zac ((c1.getD default).Crew.Travel),roL 3 zak ((c1.getD default).Crew.Hands),roL 1 zaa ((c1.getD default).next)]]),(90002,.cells [.int .i64 (s8.2)]),(90003,.cells [roL 1 zaa c3]),(90004,.cells [.fn (.func 44) [] [.lp 90000 0,.lp 90001 0,.lp 90002 0,.lp 90003 0,.lp 90004 0]])]) (.cons .q (.cons .q (.cons .q (.cons .q (.cons .q .nil))))) (fun (x7:Int)=>[(3,.lp 90002 0),(4,.lp 90003 0),(5,.lp 90004 0),(7,.int .i64 (x7))]) (fun (x7:Int) (s8:Int×Int)=>[(90000,.cells [.int .i64 (s8.1)]),(90001,.cells [.po c1.isSome [roL 4 zal ((c1.getD default).Crew.Tasks),roL 1 zac ((c1.getD default).Crew.Travel),roL 3 zak ((c1.getD default).Crew.Hands),roL 1 zaa ((c1.getD default).next)]]),(90002,.cells [.int .i64 (s8.2)]),(90003,.cells [roL 1 zaa c3]),(90004,.cells [.fn (.func 44) [] [.lp 90000 0,.lp 90001 0,.lp 90002 0,.lp 90003 0,.lp 90004 0]])]) (fun _ (_:Unit)=>False) (fun _ _=>[]) (fun _ _ h=>h.elim) hval (fun h1 vs gh st lp x7 s8 K hK=>?_) (fun k8 h1 vs gh st lp x7 s8 H Qr hQ8 hX8=>?_) (fun s8 H=>?_) (fun _ _ h=>h.elim)
    · refine W.region env [] [] rfl rfl rfl .nil .nil (At.keep (ts:=[3,4,5,7]) (ids:=[90000,90001,90002,90003,90004]) rfl rfl ?_)
      refine At.zaE (At.keep (ts:=[3,4,5,7]) (ids:=[90000,90001,90002,90003,90004]) rfl rfl ?_)
      exact hK
    · refine W.block ?_
      obtain ⟨hc9,H⟩:=zab H
      obtain ⟨hc10,H⟩:=zab H
      refine W.sr env [] [] [4,5,7] [90000,90001,90002,90003,90004] rfl rfl (by first|rfl|kernel_rfl) (.cons hc9 (.cons hc10 .nil)) .nil ?_
      obtain ⟨hc11,H⟩:=zab H
      refine W.sr env [] [] [4,5,7,29] [90000,90001,90002,90003,90004] rfl rfl rfl (.cons hc11 .nil) .nil ?_
      refine W.cond rfl (fun hb12=>?_) (fun hb12=>?_)
      · have H:=zai H hb12
        obtain ⟨hc13,H⟩:=zab H
        obtain ⟨y14,hy15,H⟩:=zaf H
        refine W.region env [] [⟨.tup [],[(90000,.cells [.int .i64 (y14.1)]),(90001,.cells [.po c1.isSome [roL 4 zal ((c1.getD default).Crew.Tasks),roL 1 zac ((c1.getD default).Crew.Travel),roL 3 zak ((c1.getD default).Crew.Hands),roL 1 zaa ((c1.getD default).next)]]),(90002,.cells [.int .i64 (y14.2)]),(90003,.cells [roL 1 zaa c3]),(90004,.cells [.fn (.func 44) [] [.lp 90000 0,.lp 90001 0,.lp 90002 0,.lp 90003 0,.lp 90004 0]])],0,[90000,90001,90002,90003,90004]⟩] rfl rfl (by kernel_rfl) (.cons hc13 .nil) (.free (CtrO.sim (CtrO.ren (ih (c3.getD (x7).toNat default) s8.1 c1 (((s8.2:Int).toNat ||| (((1:Int) * 2 ^ (x7:Int).toNat):Int).toNat:Nat):Int) c3 hy15) [(90000,90000),(90001,90001),(90002,90002),(90003,90003),(90004,90004)]) (.cons (.refl _) (.cons (.refl _) (.cons (.refl _) (.cons (.refl _) (.cons (.refl _) (.cons (.refl _) .nil)))))) (.cons (.refl _) (.cons (.refl _) (.cons (.refl _) (.cons (.refl _) (.cons (.refl _) .nil)))))) .nil) (At.keep (ts:=[]) (ids:=[90000,90001,90002,90003,90004]) rfl rfl ?_)
        refine At.inb ?_
        refine At.keep (ts:=[]) (ids:=[90000,90001,90002,90003,90004]) rfl rfl ?_
        exact At.conv .nil (.cons .q (.cons .q (.cons .q (.cons .q (.cons .q .nil))))) (hQ8 (y14.1,y14.2) H)
      · have H:=zag H hb12
        refine W.skip ?_
        refine At.inb ?_
        refine At.keep (ts:=[]) (ids:=[90000,90001,90002,90003,90004]) rfl rfl ?_
        exact At.conv .nil (.cons .q (.cons .q (.cons .q (.cons .q (.cons .q .nil))))) (hQ8 (s8.1,(((s8.2:Int).toNat ||| (((1:Int) * 2 ^ (x7:Int).toNat):Int).toNat:Nat):Int)) H)
    · refine At.inb ?_
      refine At.zm3 ?_
      cases H
      exact At.retL env.ty [90000,90001,90002,90003,90004] rfl rfl rfl rfl (.cons (.refl _) (.cons (.refl _) (.cons (.refl _) (.cons (.refl _) (.cons (.refl _) .nil))))) (.refl _) hval hdom hent rfl rfl
theorem zmD (fuel:Nat) (p0:Crew) {r:((List Int)×Int)} (H:zf0 fuel p0=some r):Ctr Tryz.prog 13 [.agg [roL 4 zal p0.Tasks,roL 1 zac p0.Travel,roL 3 zak p0.Hands]] (.tup [roL 1 zaa r.1,.int .i64 (r.2)]):=by
 unfold zf0 at H
 refine Ctr.zan (N:=64) Tryz.func13 (by kernel_rfl) (c:=_) rfl Tryz.ntmps13 rfl (fun w0 h0 hval=>?_)
 refine W.rg env [1] [1] ?_
 refine W.seq ?_
 refine W.seq ?_
 obtain ⟨y1,hy2,H⟩:=zaf H
 refine W.region env [] [⟨.int .i64 (y1),[],0,[]⟩] rfl rfl rfl .nil (.free (zcT p0 hy2) .nil) (At.keep (ts:=[1,4]) (ids:=[1]) rfl rfl ?_)
 refine At.zad ?_
 refine W.rg env [1,4,17] [1] ?_
 refine W.cond rfl (fun hb3=>?_) (fun hb3=>?_)
 · have H:=zai H hb3
   refine W.rg env [2,3] [] ?_
   refine W.ret ?_
   refine At.rthen ?_
   cases H
   exact At.ret env.ty rfl rfl nofun (Sim.tupL (.cons (Sim.nil _ _) (.cons (.refl _) .nil))) hval
 · have H:=zag H hb3
   refine W.skip ?_
   refine At.zad ?_
   refine W.seq ?_
   obtain ⟨y4,hy5,H⟩:=zaf H
   refine W.region env [] [⟨.po y4.isSome [roL 4 zal ((y4.getD default).Crew.Tasks),roL 1 zac ((y4.getD default).Crew.Travel),roL 3 zak ((y4.getD default).Crew.Hands),roL 1 zaa ((y4.getD default).next)],[],0,[]⟩] rfl rfl rfl .nil (.free (zch p0 (fun x0=>some (zbM x0)) 42 [] [] (fun x0 r h=>by cases h;exact zdK x0) hy5) .nil) (At.keep (ts:=[5]) (ids:=[5]) rfl rfl ?_)
   refine At.zad ?_
   refine W.seq ?_
   obtain ⟨hc6,H⟩:=zab H
   obtain ⟨y7,hy8,H⟩:=zaf H
   refine W.region env [] [⟨.tup [roL 1 zaa y7.1,roL 1 zaa y7.2],[],0,[]⟩] rfl rfl rfl .nil (.free (Ctr.sim (.cons (Sim.zib hc6) .nil) (zda fuel (y4.getD default) hy8)) .nil) (At.keep (ts:=[5,6,7]) (ids:=[5,6]) rfl rfl ?_)
   refine At.zad ?_
   refine W.rg env [5,6,7,8,9] [5,6,8,9] ?_
   refine W.rg env [5,6,7,8,9,10] [5,6,8,9,10] ?_
   refine W.rg env [7,8,9,10] [5,6,8,9,10] ?_
   refine W.seq ?_
   refine W.rg env [7,8,9,10,28,29] [5,6,8,9,10] ?_
   refine W.block ?_
   refine At.keep (ts:=[7,8,9,10,28,29]) (ids:=[5,6,8,9,10]) rfl rfl ?_
   refine W.len (t:=7) rfl (fun (hn9:y7.2.length≤maxLen)=>?_)
   refine W.zah H (fun i9 (s9:Int×Int)=>[(7,roL 1 zaa y7.2),(8,.lp 8 0),(9,.lp 9 0),(10,.lp 10 0),(28,.int .i64 (((y7.2.length:Nat):Int))),(29,.int .i64 ((i9:Int)))]) (fun i9 (s9:Int×Int)=>[(5,.cells [.po y4.isSome [roL 4 zal ((y4.getD default).Crew.Tasks),roL 1 zac ((y4.getD default).Crew.Travel),roL 3 zak ((y4.getD default).Crew.Hands),roL 1 zaa ((y4.getD default).next)]]),(6,.cells [roL 1 zaa y7.1]),(8,.cells [.int .i64 (s9.1)]),(9,.cells [.int .i64 (s9.2)]),(10,.cells [.fn (.func 44) [] [.lp 8 0,.lp 5 0,.lp 9 0,.lp 6 0,.lp 10 0]])]) (.cons .q (.cons .q (.cons .q (.cons .q (.cons .qi (.cons .qi .nil)))))) (.cons .q (.cons .q (.cons .q (.cons .q (.cons .q .nil))))) (fun k9 i9 s9 hle9 H1 H2 K0 hK9=>?_)
   refine W.rg env [7,8,9,10,28,29,30] [5,6,8,9,10] ?_
   refine W.seq ?_
   refine W.cond rfl (fun hb10=>?_) (fun hb10=>?_)
   · have hi9:i9<y7.2.length:=by have:=of_decide_eq_true hb10;omega
     have H:=H1 hi9
     refine W.skip ?_
     refine At.zad ?_
     refine W.seq ?_
     refine W.block ?_
     refine W.rg env [7,8,9,10,11,28,29] [5,6,8,9,10] ?_
     refine W.sr env [] [] [7,8,9,10,11,28,29,36] [5,6,8,9,10] rfl rfl rfl (.cons (⟨by omega,by omega⟩:0≤(i9:Int)∧(i9:Int)<((y7.2.length:Nat):Int)) .nil) .nil ?_
     refine W.cond rfl (fun hb11=>?_) (fun hb11=>?_)
     · have H:=zai H hb11
       obtain ⟨y12,hy13,H⟩:=zaf H
       refine W.region env [] [⟨.tup [],[(8,.cells [.int .i64 (y12.1)]),(5,.cells [.po y4.isSome [roL 4 zal ((y4.getD default).Crew.Tasks),roL 1 zac ((y4.getD default).Crew.Travel),roL 3 zak ((y4.getD default).Crew.Hands),roL 1 zaa ((y4.getD default).next)]]),(9,.cells [.int .i64 (y12.2)]),(6,.cells [roL 1 zaa y7.1]),(10,.cells [.fn (.func 44) [] [.lp 8 0,.lp 5 0,.lp 9 0,.lp 6 0,.lp 10 0]])],0,[8,5,9,6,10]⟩] rfl rfl (by kernel_rfl) .nil (.free (CtrO.sim (CtrO.ren (zhX fuel fuel (i9:Int) s9.1 y4 s9.2 y7.1 hy13) [(90000,8),(90001,5),(90002,9),(90003,6),(90004,10)]) (.cons (.refl _) (.cons (.refl _) (.cons (.refl _) (.cons (.refl _) (.cons (.refl _) (.cons (.refl _) .nil)))))) (.cons (.refl _) (.cons (.refl _) (.cons (.refl _) (.cons (.refl _) (.cons (.refl _) .nil)))))) .nil) (At.keep (ts:=[7,8,9,10,28,29]) (ids:=[5,6,8,9,10]) rfl rfl ?_)
       refine At.inb ?_
       refine At.zad ?_
       refine W.region env [] [] rfl rfl rfl (.cons (by unfold inI;have:=hn9;(try unfold maxLen at this);omega) .nil) .nil (At.keep (ts:=[7,8,9,10,28,29]) (ids:=[5,6,8,9,10]) rfl rfl ?_)
       refine At.zaE (At.keep (ts:=[7,8,9,10,28,29]) (ids:=[5,6,8,9,10]) rfl rfl ?_)
       exact At.conv (.cons .q (.cons .q (.cons .q (.cons .q (.cons .qi (.cons .qi .nil)))))) (.cons .q (.cons .q (.cons .q (.cons .q (.cons .q .nil))))) (hK9 hi9 (y12.1,y12.2) H)
     · have H:=zag H hb11
       refine W.skip ?_
       refine At.inb ?_
       refine At.zad ?_
       refine W.region env [] [] rfl rfl rfl (.cons (by unfold inI;have:=hn9;(try unfold maxLen at this);omega) .nil) .nil (At.keep (ts:=[7,8,9,10,28,29]) (ids:=[5,6,8,9,10]) rfl rfl ?_)
       refine At.zaE (At.keep (ts:=[7,8,9,10,28,29]) (ids:=[5,6,8,9,10]) rfl rfl ?_)
       exact At.conv (.cons .q (.cons .q (.cons .q (.cons .q (.cons .qi (.cons .qi .nil)))))) (.cons .q (.cons .q (.cons .q (.cons .q (.cons .q .nil))))) (hK9 hi9 (s9.1,s9.2) H)
   · have H:=H2 (by have:=of_decide_eq_false hb10;omega)
     refine W.exit ?_
     refine At.xthen ?_
     refine At.xthen ?_
     refine At.xhere ?_
     refine At.zad ?_
     refine W.rg env [7,8,9,12] [8,9] ?_
     refine W.seq ?_
     refine W.rg env [8,9,12,42,43] [8,9] ?_
     refine W.block ?_
     refine At.zeR 12 512 3 1 (e:=fun i=>zaa (([]:List Int).getD i default)) rfl rfl ?_
     refine At.keep (ts:=[8,9,12,42,43]) (ids:=[8,9,512]) rfl rfl ?_
     obtain ⟨hn14,H⟩:=zab H
     refine W.zah H (fun i14 (s14:(List Int))=>[(8,.lp 8 0),(9,.lp 9 0),(12,.buf 512 (s14).length),(42,.int .i64 (((y7.2.length:Nat):Int))),(43,.int .i64 ((i14:Int)))]) (fun i14 (s14:(List Int))=>[(8,.cells [.int .i64 (s9.1)]),(9,.cells [.int .i64 (s9.2)]),(512,bufL 3 1 zaa s14)]) (.cons .q (.cons .q (.cons .qb (.cons .qi (.cons .qi .nil))))) (.cons .q (.cons .q (.cons .q .nil))) (fun k14 i14 s14 hle14 H1 H2 K0 hK14=>?_)
     refine W.rg env [8,9,12,42,43,44] [8,9,512] ?_
     refine W.seq ?_
     refine W.cond rfl (fun hb15=>?_) (fun hb15=>?_)
     · have hi14:i14<y7.2.length:=by have:=of_decide_eq_true hb15;omega
       have H:=H1 hi14
       refine W.skip ?_
       refine At.zad ?_
       refine W.seq ?_
       refine W.block ?_
       refine W.rg env [8,9,12,13,42,43] [8,9,512] ?_
       obtain ⟨hc16,H⟩:=zab H
       obtain ⟨hc17,H⟩:=zab H
       obtain ⟨hc18,H⟩:=zab H
       obtain ⟨hc19,H⟩:=zab H
       refine W.sr env [] [] [8,9,12,13,42,43,57] [8,9,512] rfl rfl rfl (.cons hc16 (.cons hc17 (.cons hc18 (.cons id (.cons id (.cons hc19 (.cons id (.cons id (.cons id .nil))))))))) .nil ?_
       refine W.cond rfl (fun hb20=>?_) (fun hb20=>?_)
       · have H:=zai H hb20
         obtain ⟨hc21,H⟩:=zab H
         refine W.region env [] [] rfl rfl rfl (.cons (⟨by first|rfl|(simp;done)|omega|(simp;omega),by have:=hc21;first|simpa using this|(unfold room at this ⊢;simp at this ⊢;omega)⟩) .nil) .nil (At.keep (ts:=[8,9,12,42,43]) (ids:=[8,9,512]) rfl rfl ?_)
         refine At.zbo (.cons (.refl _) (.cons (.refl _) (.cons (y:=bufL 3 1 zaa (s14++([(i14:Int)]:List Int))) (BSim.seg (Seg.push (Seg.refl zaa _) (Seg.lit (f:=zaa) (sz:=1) ([(i14:Int)]:List Int) rfl rfl (fun _=>rfl)))) .nil))) ?_
         refine At.inb ?_
         refine At.zad ?_
         refine W.region env [] [] rfl rfl rfl (.cons (by unfold inI;have:=hn14;(try unfold maxLen at this);omega) .nil) .nil (At.keep (ts:=[8,9,12,42,43]) (ids:=[8,9,512]) rfl rfl ?_)
         refine At.zaE (At.keep (ts:=[8,9,12,42,43]) (ids:=[8,9,512]) rfl rfl ?_)
         exact At.conv (.cons .q (.cons .q (.cons .qb (.cons .qi (.cons .qi .nil))))) (.cons .q (.cons .q (.cons .q .nil))) (hK14 hi14 (s14++([(i14:Int)]:List Int)) H)
       · have H:=zag H hb20
         refine W.skip ?_
         refine At.inb ?_
         refine At.zad ?_
         refine W.region env [] [] rfl rfl rfl (.cons (by unfold inI;have:=hn14;(try unfold maxLen at this);omega) .nil) .nil (At.keep (ts:=[8,9,12,42,43]) (ids:=[8,9,512]) rfl rfl ?_)
         refine At.zaE (At.keep (ts:=[8,9,12,42,43]) (ids:=[8,9,512]) rfl rfl ?_)
         exact At.conv (.cons .q (.cons .q (.cons .qb (.cons .qi (.cons .qi .nil))))) (.cons .q (.cons .q (.cons .q .nil))) (hK14 hi14 s14 H)
     · have H:=H2 (by have:=of_decide_eq_false hb15;omega)
       refine W.exit ?_
       refine At.xthen ?_
       refine At.xthen ?_
       refine At.xhere ?_
       refine At.zad ?_
       refine W.rg env [2,3] [512] ?_
       refine W.ret ?_
       cases H
       exact At.ret env.ty rfl rfl (fun q hq=>by cases hq;exact (by first|rfl|(simp;done)|omega|(simp;omega))) (.refl _) hval
theorem zfo (p0:crew_plan) (p1:(List Int)) {r:Bool} (H:zbL p0 p1=some r):Ctr Tryz.prog 111 [.rp [roL 4 zal p0.Crew.Tasks,roL 1 zac p0.Crew.Travel,roL 3 zak p0.Crew.Hands,roL 1 zaa p0.next],roL 1 zaa p1] (.bool (r)):=by
 unfold zbL at H
 refine Ctr.zan (N:=48) Tryz.func111 (by kernel_rfl) (c:=_) rfl Tryz.ntmps111 rfl (fun w0 h0 hval=>?_)
 refine W.rg env [0,1] [] ?_
 refine W.seq ?_
 refine W.rg env [0,1,7,8,9] [] ?_
 refine W.block ?_
 refine At.keep (ts:=[0,1,7,8,9]) (ids:=[]) rfl rfl ?_
 refine W.len (t:=7) rfl (fun (hn1:p1.length≤maxLen)=>?_)
 refine W.zah H (fun i1 (s1:Unit)=>[(0,.rp [roL 4 zal p0.Crew.Tasks,roL 1 zac p0.Crew.Travel,roL 3 zak p0.Crew.Hands,roL 1 zaa p0.next]),(1,roL 1 zaa p1),(7,roL 1 zaa p1),(8,.int .i64 (((p1.length:Nat):Int))),(9,.int .i64 ((i1:Int)))]) (fun i1 (s1:Unit)=>[]) (.cons .q (.cons .q (.cons .q (.cons .qi (.cons .qi .nil))))) .nil (fun k1 i1 s1 hle1 H1 H2 K0 hK1=>?_)
 refine W.rg env [0,1,7,8,9,10] [] ?_
 refine W.seq ?_
 refine W.cond rfl (fun hb2=>?_) (fun hb2=>?_)
 · have hi1:i1<p1.length:=by have:=of_decide_eq_true hb2;omega
   have H:=H1 hi1
   refine W.skip ?_
   refine At.zad ?_
   refine W.seq ?_
   refine W.block ?_
   refine W.sr env [] [] [0,1,5,6,7,8,9] [] rfl rfl rfl (.cons (⟨by omega,by omega⟩:0≤(i1:Int)∧(i1:Int)<((p1.length:Nat):Int)) .nil) .nil ?_
   obtain ⟨hc3,H⟩:=zab H
   obtain ⟨hc4,H⟩:=zab H
   obtain ⟨hc5,H⟩:=zab H
   obtain ⟨hc6,H⟩:=zab H
   obtain ⟨hc7,H⟩:=zab H
   obtain ⟨hc8,H⟩:=zab H
   refine W.sr env [] [⟨.bool ((zaH (p1.getD i1 default) 0 (((p0.next.length:Nat):Int) - 1))),[],0,[]⟩] [0,1,7,8,9,43] [] rfl rfl (by kernel_rfl) (.cons hc3 (.cons id (.cons id (.cons id (.cons id (.cons id (.cons hc4 (.cons id (.cons hc5 (.cons id (.cons id (.cons id (.cons hc6 (.cons id (.cons id (.cons id (.cons hc7 (.cons id (.cons id (.cons hc8 (.cons id (.cons id (.cons id (.cons (fun hW h=>by revert hW h;first|(simp +contextual;done)|grind) (.cons (fun h=>by rw [h];rfl) .nil))))))))))))))))))))))))) (.free (zcq (p1.getD i1 default) 0 (((p0.next.length:Nat):Int) - 1)) .nil) ?_
   refine W.cond rfl (fun hb9=>?_) (fun hb9=>?_)
   · have H:=zai H hb9
     refine W.rg env [4] [] ?_
     refine W.ret ?_
     refine At.rinb ?_
     refine At.rthen ?_
     refine At.rthen ?_
     refine At.rinb ?_
     refine At.rthen ?_
     cases H
     exact At.ret env.ty rfl rfl nofun (.refl _) hval
   · have H:=zag H hb9
     refine W.skip ?_
     refine At.inb ?_
     refine At.zad ?_
     refine W.region env [] [] rfl rfl rfl (.cons (by unfold inI;have:=hn1;(try unfold maxLen at this);omega) .nil) .nil (At.keep (ts:=[0,1,7,8,9]) (ids:=[]) rfl rfl ?_)
     refine At.zaE (At.keep (ts:=[0,1,7,8,9]) (ids:=[]) rfl rfl ?_)
     exact At.conv (.cons .q (.cons .q (.cons .q (.cons .qi (.cons .qi .nil))))) .nil (hK1 hi1 () H)
 · have H:=H2 (by have:=of_decide_eq_false hb2;omega)
   refine W.exit ?_
   refine At.xthen ?_
   refine At.xthen ?_
   refine At.xhere ?_
   refine At.zad ?_
   refine W.rg env [4] [] ?_
   refine W.ret ?_
   cases H
   exact At.ret env.ty rfl rfl nofun (.refl _) hval
theorem zeI (p0:crew_plan) (p1:(List (List Int))) {r:Bool} (H:zbu p0 p1=some r):Ctr Tryz.prog 93 [.rp [roL 4 zal p0.Crew.Tasks,roL 1 zac p0.Crew.Travel,roL 3 zak p0.Crew.Hands,roL 1 zaa p0.next],roL 1 zaj p1] (.bool (r)):=by
 unfold zbu at H
 refine Ctr.zan (N:=64) Tryz.func93 (by kernel_rfl) (c:=_) rfl Tryz.ntmps93 rfl (fun w0 h0 hval=>?_)
 refine W.rg env [0,1] [] ?_
 refine W.rg env [0,1,5] [] ?_
 refine W.seq ?_
 refine W.rg env [0,1,5,10,11,12] [] ?_
 refine W.block ?_
 refine At.keep (ts:=[0,1,5,10,11,12]) (ids:=[]) rfl rfl ?_
 refine W.len (t:=10) rfl (fun (hn1:p1.length≤maxLen)=>?_)
 refine W.zah H (fun i1 (s1:Int)=>[(0,.rp [roL 4 zal p0.Crew.Tasks,roL 1 zac p0.Crew.Travel,roL 3 zak p0.Crew.Hands,roL 1 zaa p0.next]),(1,roL 1 zaj p1),(5,.int .i64 (s1)),(10,roL 1 zaj p1),(11,.int .i64 (((p1.length:Nat):Int))),(12,.int .i64 ((i1:Int)))]) (fun i1 (s1:Int)=>[]) (.cons .q (.cons .q (.cons .qi (.cons .q (.cons .qi (.cons .qi .nil)))))) .nil (fun k1 i1 s1 hle1 H1 H2 K0 hK1=>?_)
 refine W.rg env [0,1,5,10,11,12,13] [] ?_
 refine W.seq ?_
 refine W.cond rfl (fun hb2=>?_) (fun hb2=>?_)
 · have hi1:i1<p1.length:=by have:=of_decide_eq_true hb2;omega
   have H:=H1 hi1
   refine W.skip ?_
   refine At.zad ?_
   refine W.seq ?_
   refine W.block ?_
   refine W.sr env [] [] [0,1,5,6,7,10,11,12] [] rfl rfl rfl (.cons (⟨by omega,by omega⟩:0≤(i1:Int)∧(i1:Int)<((p1.length:Nat):Int)) .nil) .nil ?_
   refine W.seq ?_
   refine W.seq ?_
   obtain ⟨y3,hy4,H⟩:=zaf H
   obtain ⟨hc5,H⟩:=zab H
   obtain ⟨hc6,H⟩:=zab H
   obtain ⟨hc7,H⟩:=zab H
   obtain ⟨hc8,H⟩:=zab H
   refine W.region env [] [⟨.bool (y3),[],0,[]⟩] rfl rfl (by kernel_rfl) (.cons id (.cons id (.cons hc5 (.cons id (.cons hc6 (.cons id (.cons id (.cons id (.cons hc7 (.cons id (.cons id (.cons hc8 (.cons id (.cons id (.cons id (.cons id (.cons id (.cons (fun hW h=>by revert hW h;first|(simp +contextual;done)|grind) (.cons (fun h=>by rw [h];rfl) .nil))))))))))))))))))) (.free (zfo p0 (p1.getD i1 default) hy4) .nil) (At.keep (ts:=[0,1,5,7,10,11,12,37]) (ids:=[]) rfl rfl ?_)
   refine At.zad ?_
   refine W.cond rfl (fun hb9=>?_) (fun hb9=>?_)
   · have H:=zai H hb9
     refine W.rg env [4] [] ?_
     refine W.ret ?_
     refine At.rthen ?_
     refine At.rinb ?_
     refine At.rthen ?_
     refine At.rthen ?_
     refine At.rinb ?_
     refine At.rthen ?_
     cases H
     exact At.ret env.ty rfl rfl nofun (.refl _) hval
   · have H:=zag H hb9
     refine W.skip ?_
     refine At.zad ?_
     refine W.rg env [0,1,5,10,11,12,38,39,40] [] ?_
     refine W.block ?_
     refine At.keep (ts:=[0,1,5,10,11,12,38,39,40]) (ids:=[]) rfl rfl ?_
     refine W.len (t:=38) rfl (fun (hn10:(p1.getD i1 default).length≤maxLen)=>?_)
     refine W.zah H (fun i10 (s10:Int)=>[(0,.rp [roL 4 zal p0.Crew.Tasks,roL 1 zac p0.Crew.Travel,roL 3 zak p0.Crew.Hands,roL 1 zaa p0.next]),(1,roL 1 zaj p1),(5,.int .i64 (s10)),(10,roL 1 zaj p1),(11,.int .i64 (((p1.length:Nat):Int))),(12,.int .i64 ((i1:Int))),(38,roL 1 zaa (p1.getD i1 default)),(39,.int .i64 ((((p1.getD i1 default).length:Nat):Int))),(40,.int .i64 ((i10:Int)))]) (fun i10 (s10:Int)=>[]) (.cons .q (.cons .q (.cons .qi (.cons .q (.cons .qi (.cons .qi (.cons .q (.cons .qi (.cons .qi .nil))))))))) .nil (fun k10 i10 s10 hle10 H1 H2 K0 hK10=>?_)
     refine W.rg env [0,1,5,10,11,12,38,39,40,41] [] ?_
     refine W.seq ?_
     refine W.cond rfl (fun hb11=>?_) (fun hb11=>?_)
     · have hi10:i10<(p1.getD i1 default).length:=by have:=of_decide_eq_true hb11;omega
       have H:=H1 hi10
       refine W.skip ?_
       refine At.zad ?_
       refine W.seq ?_
       refine W.block ?_
       refine W.sr env [] [] [0,1,5,9,10,11,12,38,39,40] [] rfl rfl rfl (.cons (⟨by omega,by omega⟩:0≤(i10:Int)∧(i10:Int)<(((p1.getD i1 default).length:Nat):Int)) .nil) .nil ?_
       refine W.seq ?_
       obtain ⟨hc12,H⟩:=zab H
       obtain ⟨hc13,H⟩:=zab H
       refine W.sr env [] [] [0,1,5,9,10,11,12,38,39,40,48] [] rfl rfl rfl (.cons hc12 (.cons hc13 .nil)) .nil ?_
       refine W.cond rfl (fun hb14=>?_) (fun hb14=>?_)
       · have H:=zai H hb14
         refine W.rg env [4] [] ?_
         refine W.ret ?_
         refine At.rthen ?_
         refine At.rinb ?_
         refine At.rthen ?_
         refine At.rthen ?_
         refine At.rinb ?_
         refine At.rinb ?_
         refine At.rthen ?_
         refine At.rthen ?_
         refine At.rinb ?_
         refine At.rthen ?_
         cases H
         exact At.ret env.ty rfl rfl nofun (.refl _) hval
       · have H:=zag H hb14
         refine W.skip ?_
         refine At.zad ?_
         obtain ⟨hc15,H⟩:=zab H
         obtain ⟨hc16,H⟩:=zab H
         refine W.region env [] [] rfl rfl rfl (.cons hc15 (.cons hc16 .nil)) .nil (At.keep (ts:=[0,1,5,10,11,12,38,39,40]) (ids:=[]) rfl rfl ?_)
         refine At.inb ?_
         refine At.zad ?_
         refine W.region env [] [] rfl rfl rfl (.cons (by unfold inI;have:=hn10;(try unfold maxLen at this);omega) .nil) .nil (At.keep (ts:=[0,1,5,10,11,12,38,39,40]) (ids:=[]) rfl rfl ?_)
         refine At.zaE (At.keep (ts:=[0,1,5,10,11,12,38,39,40]) (ids:=[]) rfl rfl ?_)
         exact At.conv (.cons .q (.cons .q (.cons .qi (.cons .q (.cons .qi (.cons .qi (.cons .q (.cons .qi (.cons .qi .nil))))))))) .nil (hK10 hi10 (((s10:Int).toNat ||| (((1:Int) * 2 ^ (((p1.getD i1 default).getD i10 default):Int).toNat):Int).toNat:Nat):Int) H)
     · have H:=H2 (by have:=of_decide_eq_false hb11;omega)
       refine W.exit ?_
       refine At.xthen ?_
       refine At.xthen ?_
       refine At.xhere ?_
       refine At.inb ?_
       refine At.zad ?_
       refine W.region env [] [] rfl rfl rfl (.cons (by unfold inI;have:=hn1;(try unfold maxLen at this);omega) .nil) .nil (At.keep (ts:=[0,1,5,10,11,12]) (ids:=[]) rfl rfl ?_)
       refine At.zaE (At.keep (ts:=[0,1,5,10,11,12]) (ids:=[]) rfl rfl ?_)
       exact At.conv (.cons .q (.cons .q (.cons .qi (.cons .q (.cons .qi (.cons .qi .nil)))))) .nil (hK1 hi1 s10 H)
 · have H:=H2 (by have:=of_decide_eq_false hb2;omega)
   refine W.exit ?_
   refine At.xthen ?_
   refine At.xthen ?_
   refine At.xhere ?_
   refine At.zad ?_
   obtain ⟨hc17,H⟩:=zab H
   obtain ⟨hc18,H⟩:=zab H
   refine W.sr env [] [] [4] [] rfl rfl rfl (.cons hc17 (.cons hc18 .nil)) .nil ?_
   refine W.ret ?_
   cases H
   exact At.ret env.ty rfl rfl nofun (.refl _) hval
theorem zcS (p0:Crew) (p1:(List (List Int))) {r:((Option crew_plan)×Int)} (H:zb0 p0 p1=some r):Ctr Tryz.prog 49 [.agg [roL 4 zal p0.Tasks,roL 1 zac p0.Travel,roL 3 zak p0.Hands],roL 1 zaj p1] (.tup [.po r.1.isSome [roL 4 zal ((r.1.getD default).Crew.Tasks),roL 1 zac ((r.1.getD default).Crew.Travel),roL 3 zak ((r.1.getD default).Crew.Hands),roL 1 zaa ((r.1.getD default).next)],.int .i64 (r.2)]):=by
 unfold zb0 at H
 refine Ctr.zan (N:=20) Tryz.func49 (by kernel_rfl) (c:=_) rfl Tryz.ntmps49 rfl (fun w0 h0 hval=>?_)
 refine W.rg env [1,2] [2] ?_
 refine W.seq ?_
 refine W.seq ?_
 obtain ⟨y1,hy2,H⟩:=zaf H
 refine W.region env [] [⟨.int .i64 (y1),[],0,[]⟩] rfl rfl rfl .nil (.free (zcT p0 hy2) .nil) (At.keep (ts:=[1,2,6]) (ids:=[2]) rfl rfl ?_)
 refine At.zad ?_
 refine W.rg env [1,2,6,11] [2] ?_
 refine W.cond rfl (fun hb3=>?_) (fun hb3=>?_)
 · have H:=zai H hb3
   refine W.rg env [4,5] [] ?_
   refine W.ret ?_
   refine At.rthen ?_
   cases H
   exact At.ret env.ty rfl rfl nofun (Sim.tupL (.cons (Sim.zoW rfl) (.cons (.refl _) .nil))) hval
 · have H:=zag H hb3
   refine W.skip ?_
   refine At.zad ?_
   refine W.seq ?_
   obtain ⟨y4,hy5,H⟩:=zaf H
   refine W.region env [] [⟨.po y4.isSome [roL 4 zal ((y4.getD default).Crew.Tasks),roL 1 zac ((y4.getD default).Crew.Travel),roL 3 zak ((y4.getD default).Crew.Hands),roL 1 zaa ((y4.getD default).next)],[],0,[]⟩] rfl rfl rfl .nil (.free (zch p0 (fun x0=>some (zbM x0)) 42 [] [] (fun x0 r h=>by cases h;exact zdK x0) hy5) .nil) (At.keep (ts:=[1,7]) (ids:=[]) rfl rfl ?_)
   refine At.zad ?_
   refine W.seq ?_
   refine W.seq ?_
   obtain ⟨hc6,H⟩:=zab H
   obtain ⟨y7,hy8,H⟩:=zaf H
   refine W.region env [] [⟨.bool (y7),[],0,[]⟩] rfl rfl rfl .nil (.free (Ctr.sim (.cons (Sim.zib hc6) (.cons (.refl _) .nil)) (zeI (y4.getD default) p1 hy8)) .nil) (At.keep (ts:=[7,18]) (ids:=[]) rfl rfl ?_)
   refine At.zad ?_
   refine W.cond rfl (fun hb9=>?_) (fun hb9=>?_)
   · have H:=zai H hb9
     refine W.rg env [4,5] [] ?_
     refine W.ret ?_
     refine At.rthen ?_
     cases H
     exact At.ret env.ty rfl rfl nofun (Sim.tupL (.cons (Sim.zoW rfl) (.cons (.refl _) .nil))) hval
   · have H:=zag H hb9
     refine W.skip ?_
     refine At.zad ?_
     refine W.rg env [4,5] [] ?_
     refine W.ret ?_
     cases H
     exact At.ret env.ty rfl rfl nofun (.refl _) hval
theorem zf8 (p0:Crew) (p1:(List (List Int))) {r:Int} (H:zcf p0 p1=some r):Ctr Tryz.prog 15 [.agg [roL 4 zal p0.Tasks,roL 1 zac p0.Travel,roL 3 zak p0.Hands],roL 1 zaj p1] (.int .i64 (r)):=by
 unfold zcf at H
 refine Ctr.zan (N:=14) Tryz.func15 (by kernel_rfl) (c:=_) rfl Tryz.ntmps15 rfl (fun w0 h0 hval=>?_)
 refine W.rg env [1,2] [2] ?_
 refine W.seq ?_
 obtain ⟨y1,hy2,H⟩:=zaf H
 refine W.region env [] [⟨.tup [.po y1.1.isSome [roL 4 zal ((y1.1.getD default).Crew.Tasks),roL 1 zac ((y1.1.getD default).Crew.Travel),roL 3 zak ((y1.1.getD default).Crew.Hands),roL 1 zaa ((y1.1.getD default).next)],.int .i64 (y1.2)],[],0,[]⟩] rfl rfl rfl .nil (.free (zcS p0 p1 hy2) .nil) (At.keep (ts:=[6]) (ids:=[]) rfl rfl ?_)
 refine At.zad ?_
 refine W.rg env [4] [] ?_
 refine W.ret ?_
 cases H
 exact At.ret env.ty rfl rfl nofun (.refl _) hval
theorem zh6 (p0:Crew) (p1:(List Int)) (p2:Int) {r:Int} (H:zc0 p0 p1 p2=some r):Ctr Tryz.prog 16 [.agg [roL 4 zal p0.Tasks,roL 1 zac p0.Travel,roL 3 zak p0.Hands],roL 1 zaa p1,.int .i64 (p2)] (.int .i64 (r)):=by
 unfold zc0 at H
 refine Ctr.zan (N:=87) Tryz.func16 (by kernel_rfl) (c:=_) rfl Tryz.ntmps16 rfl (fun w0 h0 hval=>?_)
 refine W.rg env [1,2,3] [3] ?_
 refine W.seq ?_
 refine W.seq ?_
 obtain ⟨y1,hy2,H⟩:=zaf H
 refine W.region env [] [⟨.int .i64 (y1),[],0,[]⟩] rfl rfl rfl .nil (.free (zcT p0 hy2) .nil) (At.keep (ts:=[1,2,3,7]) (ids:=[3]) rfl rfl ?_)
 refine At.zad ?_
 refine W.rg env [1,2,3,7,16] [3] ?_
 refine W.cond rfl (fun hb3=>?_) (fun hb3=>?_)
 · have H:=zai H hb3
   refine W.rg env [6] [] ?_
   refine W.ret ?_
   refine At.rthen ?_
   cases H
   exact At.ret env.ty rfl rfl nofun (.refl _) hval
 · have H:=zag H hb3
   refine W.skip ?_
   refine At.zad ?_
   refine W.seq ?_
   obtain ⟨y4,hy5,H⟩:=zaf H
   refine W.region env [] [⟨.po y4.isSome [roL 4 zal ((y4.getD default).Crew.Tasks),roL 1 zac ((y4.getD default).Crew.Travel),roL 3 zak ((y4.getD default).Crew.Hands),roL 1 zaa ((y4.getD default).next)],[],0,[]⟩] rfl rfl rfl .nil (.free (zch p0 (fun x0=>some (zbM x0)) 42 [] [] (fun x0 r h=>by cases h;exact zdK x0) hy5) .nil) (At.keep (ts:=[1,2,8]) (ids:=[]) rfl rfl ?_)
   refine At.zad ?_
   refine W.seq ?_
   refine W.rg env [1,2,8,20,21,22] [] ?_
   refine W.block ?_
   refine At.keep (ts:=[1,2,8,20,21,22]) (ids:=[]) rfl rfl ?_
   refine W.len (t:=20) rfl (fun (hn6:p1.length≤maxLen)=>?_)
   refine W.zah H (fun i6 (s6:Unit)=>[(1,roL 1 zaa p1),(2,.int .i64 (p2)),(8,.po y4.isSome [roL 4 zal ((y4.getD default).Crew.Tasks),roL 1 zac ((y4.getD default).Crew.Travel),roL 3 zak ((y4.getD default).Crew.Hands),roL 1 zaa ((y4.getD default).next)]),(20,roL 1 zaa p1),(21,.int .i64 (((p1.length:Nat):Int))),(22,.int .i64 ((i6:Int)))]) (fun i6 (s6:Unit)=>[]) (.cons .q (.cons .qi (.cons .q (.cons .q (.cons .qi (.cons .qi .nil)))))) .nil (fun k6 i6 s6 hle6 H1 H2 K0 hK6=>?_)
   refine W.rg env [1,2,8,20,21,22,23] [] ?_
   refine W.seq ?_
   refine W.cond rfl (fun hb7=>?_) (fun hb7=>?_)
   · have hi6:i6<p1.length:=by have:=of_decide_eq_true hb7;omega
     have H:=H1 hi6
     refine W.skip ?_
     refine At.zad ?_
     refine W.seq ?_
     refine W.block ?_
     refine W.sr env [] [] [1,2,8,9,10,20,21,22] [] rfl rfl rfl (.cons (⟨by omega,by omega⟩:0≤(i6:Int)∧(i6:Int)<((p1.length:Nat):Int)) .nil) .nil ?_
     refine W.seq ?_
     obtain ⟨hc8,H⟩:=zab H
     obtain ⟨hc9,H⟩:=zab H
     obtain ⟨hc10,H⟩:=zab H
     obtain ⟨hc11,H⟩:=zab H
     refine W.sr env [] [⟨.bool ((zaH (p1.getD i6 default) 0 (((((y4.getD default).next).length:Nat):Int) - 1))),[],0,[]⟩] [1,2,8,9,10,20,21,22,48] [] rfl rfl rfl (.cons hc8 (.cons hc9 (.cons id (.cons id (.cons hc10 (.cons id (.cons hc11 (.cons id (.cons id (.cons id (.cons id (.cons id (.cons id (.cons (fun hW h=>by revert hW h;first|(simp +contextual;done)|grind) (.cons (fun h=>by rw [h];rfl) .nil))))))))))))))) (.free (zcq (p1.getD i6 default) 0 (((((y4.getD default).next).length:Nat):Int) - 1)) .nil) ?_
     refine W.cond rfl (fun hb12=>?_) (fun hb12=>?_)
     · have H:=zai H hb12
       refine W.rg env [6] [] ?_
       refine W.ret ?_
       refine At.rthen ?_
       refine At.rinb ?_
       refine At.rthen ?_
       refine At.rthen ?_
       refine At.rinb ?_
       refine At.rthen ?_
       cases H
       exact At.ret env.ty rfl rfl nofun (.refl _) hval
     · have H:=zag H hb12
       refine W.skip ?_
       refine At.zad ?_
       refine W.seq ?_
       obtain ⟨hc13,H⟩:=zab H
       refine W.region env [] [] rfl rfl rfl (.cons hc13 .nil) .nil (At.keep (ts:=[1,2,8,10,20,21,22,51,52,53]) (ids:=[]) rfl rfl ?_)
       refine At.slot (t:=51) (v:=roL 1 zaa (p1.take i6)) (Sim.seg (Seg.take zaa p1 i6 (by omega))) ?_
       refine At.zad ?_
       refine W.block ?_
       refine At.keep (ts:=[1,2,8,10,20,21,22,51,52,53]) (ids:=[]) rfl rfl ?_
       refine W.len (t:=51) rfl (fun (hn14:(p1.take i6).length≤maxLen)=>?_)
       refine W.zah H (fun i14 (s14:Unit)=>[(1,roL 1 zaa p1),(2,.int .i64 (p2)),(8,.po y4.isSome [roL 4 zal ((y4.getD default).Crew.Tasks),roL 1 zac ((y4.getD default).Crew.Travel),roL 3 zak ((y4.getD default).Crew.Hands),roL 1 zaa ((y4.getD default).next)]),(10,.int .i64 ((p1.getD i6 default))),(20,roL 1 zaa p1),(21,.int .i64 (((p1.length:Nat):Int))),(22,.int .i64 ((i6:Int))),(51,roL 1 zaa (p1.take i6)),(52,.int .i64 ((((p1.take i6).length:Nat):Int))),(53,.int .i64 ((i14:Int)))]) (fun i14 (s14:Unit)=>[]) (.cons .q (.cons .qi (.cons .q (.cons .qi (.cons .q (.cons .qi (.cons .qi (.cons .q (.cons .qi (.cons .qi .nil)))))))))) .nil (fun k14 i14 s14 hle14 H1 H2 K0 hK14=>?_)
       refine W.rg env [1,2,8,10,20,21,22,51,52,53,54] [] ?_
       refine W.seq ?_
       refine W.cond rfl (fun hb15=>?_) (fun hb15=>?_)
       · have hi14:i14<(p1.take i6).length:=by have:=of_decide_eq_true hb15;omega
         have H:=H1 hi14
         refine W.skip ?_
         refine At.zad ?_
         refine W.seq ?_
         refine W.block ?_
         refine W.sr env [] [] [1,2,8,10,12,20,21,22,51,52,53] [] rfl rfl rfl (.cons (⟨by omega,by omega⟩:0≤(i14:Int)∧(i14:Int)<(((p1.take i6).length:Nat):Int)) .nil) .nil ?_
         obtain ⟨hc16,H⟩:=zab H
         obtain ⟨hc17,H⟩:=zab H
         obtain ⟨hc18,H⟩:=zab H
         obtain ⟨hc19,H⟩:=zab H
         obtain ⟨hc20,H⟩:=zab H
         obtain ⟨hc21,H⟩:=zab H
         obtain ⟨hc22,H⟩:=zab H
         obtain ⟨hc23,H⟩:=zab H
         refine W.sr env [] [] [1,2,8,10,20,21,22,51,52,53,80] [] rfl rfl rfl (.cons hc16 (.cons hc17 (.cons hc18 (.cons hc19 (.cons hc20 (.cons id (.cons id (.cons id (.cons hc21 (.cons id (.cons id (.cons id (.cons hc22 (.cons id (.cons id (.cons hc23 (.cons id (.cons id (.cons (fun h=>by rw [h];rfl) .nil))))))))))))))))))) .nil ?_
         refine W.cond rfl (fun hb24=>?_) (fun hb24=>?_)
         · have H:=zai H hb24
           refine W.rg env [6] [] ?_
           refine W.ret ?_
           refine At.rinb ?_
           refine At.rthen ?_
           refine At.rthen ?_
           refine At.rinb ?_
           refine At.rinb ?_
           refine At.rthen ?_
           refine At.rthen ?_
           refine At.rinb ?_
           refine At.rthen ?_
           cases H
           exact At.ret env.ty rfl rfl nofun (.refl _) hval
         · have H:=zag H hb24
           refine W.skip ?_
           refine At.inb ?_
           refine At.zad ?_
           refine W.region env [] [] rfl rfl rfl (.cons (by unfold inI;have:=hn14;(try unfold maxLen at this);omega) .nil) .nil (At.keep (ts:=[1,2,8,10,20,21,22,51,52,53]) (ids:=[]) rfl rfl ?_)
           refine At.zaE (At.keep (ts:=[1,2,8,10,20,21,22,51,52,53]) (ids:=[]) rfl rfl ?_)
           exact At.conv (.cons .q (.cons .qi (.cons .q (.cons .qi (.cons .q (.cons .qi (.cons .qi (.cons .q (.cons .qi (.cons .qi .nil)))))))))) .nil (hK14 hi14 () H)
       · have H:=H2 (by have:=of_decide_eq_false hb15;omega)
         refine W.exit ?_
         refine At.xthen ?_
         refine At.xthen ?_
         refine At.xhere ?_
         refine At.inb ?_
         refine At.zad ?_
         refine W.region env [] [] rfl rfl rfl (.cons (by unfold inI;have:=hn6;(try unfold maxLen at this);omega) .nil) .nil (At.keep (ts:=[1,2,8,20,21,22]) (ids:=[]) rfl rfl ?_)
         refine At.zaE (At.keep (ts:=[1,2,8,20,21,22]) (ids:=[]) rfl rfl ?_)
         exact At.conv (.cons .q (.cons .qi (.cons .q (.cons .q (.cons .qi (.cons .qi .nil)))))) .nil (hK6 hi6 () H)
   · have H:=H2 (by have:=of_decide_eq_false hb7;omega)
     refine W.exit ?_
     refine At.xthen ?_
     refine At.xthen ?_
     refine At.xhere ?_
     refine At.zad ?_
     refine W.seq ?_
     refine W.rg env [86] [] ?_
     refine W.cond rfl (fun hb25=>?_) (fun hb25=>?_)
     · have H:=zai H hb25
       refine W.rg env [6] [] ?_
       refine W.ret ?_
       refine At.rthen ?_
       cases H
       exact At.ret env.ty rfl rfl nofun (.refl _) hval
     · have H:=zag H hb25
       refine W.skip ?_
       refine At.zad ?_
       refine W.rg env [6] [] ?_
       refine W.ret ?_
       cases H
       exact At.ret env.ty rfl rfl nofun (.refl _) hval
theorem zgX (p0:Int):Ctr Tryz.prog 94 [.int .i64 (p0)] (.bool ((zbz p0))):=by
 obtain ⟨r,H⟩:∃ r,zbz p0=r:=⟨_,rfl⟩
 rw [H]
 unfold zbz at H
 refine Ctr.zan (N:=5) Tryz.func94 (by kernel_rfl) (c:=_) rfl Tryz.ntmps94 rfl (fun w0 h0 hval=>?_)
 refine W.rg env [0] [] ?_
 refine W.sr env [] [⟨.bool ((zaB p0 0 1439)),[],0,[]⟩] [2] [] rfl rfl rfl .nil (.free (zbQ p0 0 1439) .nil) ?_
 refine W.ret ?_
 cases H
 exact At.ret env.ty rfl rfl nofun (.refl _) hval
theorem zeG (p0:(List Int)) (p1:Int→Option Bool) (p1_g:Nat) (p1_a p1_b:List AV) (p1_h:∀ x0 r,p1 x0=some r→Ctr Tryz.prog p1_g (p1_a++([.int .i64 (x0)]++p1_b)) (.bool (r))) {r:Int} (H:zaR p0 p1=some r):Ctr Tryz.prog 106 [roL 1 zaa p0,.clo (.func p1_g) p1_a p1_b] (.int .i64 (r)):=by
 unfold zaR at H
 refine Ctr.zan (N:=19) Tryz.func106 (by kernel_rfl) (c:=_) rfl Tryz.ntmps106 rfl (fun w0 h0 hval=>?_)
 refine W.rg env [0,1] [] ?_
 refine W.seq ?_
 refine W.rg env [0,1,7,8] [] ?_
 refine W.block ?_
 refine At.keep (ts:=[0,1,7,8]) (ids:=[]) rfl rfl ?_
 refine W.len (t:=0) rfl (fun (hn1:p0.length≤maxLen)=>?_)
 refine W.zah H (fun i1 (s1:Unit)=>[(0,roL 1 zaa p0),(1,.clo (.func p1_g) p1_a p1_b),(7,.int .i64 (((p0.length:Nat):Int))),(8,.int .i64 ((i1:Int)))]) (fun i1 (s1:Unit)=>[]) (.cons .q (.cons .q (.cons .qi (.cons .qi .nil)))) .nil (fun k1 i1 s1 hle1 H1 H2 K0 hK1=>?_)
 refine W.rg env [0,1,7,8,9] [] ?_
 refine W.seq ?_
 refine W.cond rfl (fun hb2=>?_) (fun hb2=>?_)
 · have hi1:i1<p0.length:=by have:=of_decide_eq_true hb2;omega
   have H:=H1 hi1
   refine W.skip ?_
   refine At.zad ?_
   refine W.seq ?_
   refine W.block ?_
   refine W.rg env [0,1,5,7,8] [] ?_
   refine W.seq ?_
   obtain ⟨y3,hy4,H⟩:=zaf H
   refine W.region env [] [⟨.bool (y3),[],0,[]⟩] rfl rfl rfl (.cons (⟨by omega,by omega⟩:0≤(i1:Int)∧(i1:Int)<((p0.length:Nat):Int)) .nil) (.free (p1_h (p0.getD i1 default) _ hy4) .nil) (At.keep (ts:=[0,1,5,7,8,16]) (ids:=[]) rfl rfl ?_)
   refine At.zad ?_
   refine W.cond rfl (fun hb5=>?_) (fun hb5=>?_)
   · have H:=zai H hb5
     refine W.rg env [4] [] ?_
     refine W.ret ?_
     refine At.rinb ?_
     refine At.rthen ?_
     refine At.rthen ?_
     refine At.rinb ?_
     refine At.rthen ?_
     cases H
     exact At.ret env.ty rfl rfl nofun (.refl _) hval
   · have H:=zag H hb5
     refine W.skip ?_
     refine At.inb ?_
     refine At.zad ?_
     refine W.region env [] [] rfl rfl rfl (.cons (by unfold inI;have:=hn1;(try unfold maxLen at this);omega) .nil) .nil (At.keep (ts:=[0,1,7,8]) (ids:=[]) rfl rfl ?_)
     refine At.zaE (At.keep (ts:=[0,1,7,8]) (ids:=[]) rfl rfl ?_)
     exact At.conv (.cons .q (.cons .q (.cons .qi (.cons .qi .nil)))) .nil (hK1 hi1 () H)
 · have H:=H2 (by have:=of_decide_eq_false hb2;omega)
   refine W.exit ?_
   refine At.xthen ?_
   refine At.xthen ?_
   refine At.xhere ?_
   refine At.zad ?_
   refine W.rg env [4] [] ?_
   refine W.ret ?_
   cases H
   exact At.ret env.ty rfl rfl nofun (.refl _) hval
theorem zbP (p0:(List Int)) (p1:Int→Option Bool) (p1_g:Nat) (p1_a p1_b:List AV) (p1_h:∀ x0 r,p1 x0=some r→Ctr Tryz.prog p1_g (p1_a++([.int .i64 (x0)]++p1_b)) (.bool (r))) {r:Bool} (H:zaD p0 p1=some r):Ctr Tryz.prog 73 [roL 1 zaa p0,.clo (.func p1_g) p1_a p1_b] (.bool (r)):=by
 unfold zaD at H
 refine Ctr.zan (N:=9) Tryz.func73 (by kernel_rfl) (c:=_) rfl Tryz.ntmps73 rfl (fun w0 h0 hval=>?_)
 refine W.rg env [0,1] [] ?_
 refine W.seq ?_
 obtain ⟨y1,hy2,H⟩:=zaf H
 refine W.region env [] [⟨.int .i64 (y1),[],0,[]⟩] rfl rfl rfl .nil (.free (zeG p0 p1 p1_g p1_a p1_b p1_h hy2) .nil) (At.keep (ts:=[4]) (ids:=[]) rfl rfl ?_)
 refine At.zad ?_
 refine W.ret ?_
 cases H
 exact At.ret env.ty rfl rfl nofun (.refl _) hval
theorem zgD (p0:Int) (c0:Chart) {r:Bool} (H:zbX p0 c0=some r):Ctr Tryz.prog 95 [.int .i64 (p0),.rp [.int .i64 (c0.Places),roL 7 zaC c0.Ways]] (.bool (r)):=by
 unfold zbX at H
 refine Ctr.zan (N:=10) Tryz.func95 (by kernel_rfl) (c:=_) rfl Tryz.ntmps95 rfl (fun w0 h0 hval=>?_)
 refine W.rg env [0,1] [] ?_
 obtain ⟨hc1,H⟩:=zab H
 refine W.sr env [] [⟨.bool ((zaB p0 0 (c0.Places - 1))),[],0,[]⟩] [3] [] rfl rfl rfl (.cons hc1 .nil) (.free (zbQ p0 0 (c0.Places - 1)) .nil) ?_
 refine W.ret ?_
 cases H
 exact At.ret env.ty rfl rfl nofun (.refl _) hval
theorem zh0 (p0:Chart) (p1:Int) (p2:(List Int)) {r:Int} (H:zcs p0 p1 p2=some r):Ctr Tryz.prog 51 [.agg [.int .i64 (p0.Places),roL 7 zaC p0.Ways],.int .i64 (p1),roL 1 zaa p2] (.int .i64 (r)):=by
 unfold zcs at H
 refine Ctr.zan (N:=21) Tryz.func51 (by kernel_rfl) (c:=_) rfl Tryz.ntmps51 rfl (fun w0 h0 hval=>?_)
 refine W.rg env [1,2,3] [3] ?_
 refine W.seq ?_
 refine W.seq ?_
 obtain ⟨y1,hy2,H⟩:=zaf H
 refine W.region env [] [⟨.int .i64 (y1),[],0,[]⟩] rfl rfl rfl .nil (.free (zeB p0 hy2) .nil) (At.keep (ts:=[1,2,3,7]) (ids:=[3]) rfl rfl ?_)
 refine At.zad ?_
 refine W.rg env [1,2,3,7,11] [3] ?_
 refine W.cond rfl (fun hb3=>?_) (fun hb3=>?_)
 · have H:=zai H hb3
   refine W.rg env [6] [] ?_
   refine W.ret ?_
   refine At.rthen ?_
   cases H
   exact At.ret env.ty rfl rfl nofun (.refl _) hval
 · have H:=zag H hb3
   refine W.skip ?_
   refine At.zad ?_
   refine W.seq ?_
   refine W.seq ?_
   obtain ⟨y4,hy5,H⟩:=zaf H
   refine W.region env [] [⟨.bool ((zbz p1)),[],0,[]⟩,⟨.bool (y4),[],0,[]⟩] rfl rfl rfl (.cons id (.cons id (.cons (fun h=>by rw [h];rfl) .nil))) (.free (zgX p1) (.on (fun hW=>zbP p2 (fun x0=>zbX x0 p0) 95 [] ([.rp [.int .i64 (p0.Places),roL 7 zaC p0.Ways]]) (fun x0 r h=>zgD x0 p0 h) (zai hy5 hW)) .nil)) (At.keep (ts:=[20]) (ids:=[]) rfl rfl ?_)
   refine At.zad ?_
   refine W.cond rfl (fun hb6=>?_) (fun hb6=>?_)
   · have H:=zai H hb6
     refine W.rg env [6] [] ?_
     refine W.ret ?_
     refine At.rthen ?_
     cases H
     exact At.ret env.ty rfl rfl nofun (.refl _) hval
   · have H:=zag H hb6
     refine W.skip ?_
     refine At.zad ?_
     refine W.rg env [6] [] ?_
     refine W.ret ?_
     cases H
     exact At.ret env.ty rfl rfl nofun (.refl _) hval
theorem zjt (p0:(List Int)):Ctr Tryz.prog 54 [roL 1 zaa p0] (.clo (.func 97) [] [.rp [roL 1 zaa p0]]):=by
 refine Ctr.zan (N:=4) Tryz.func54 (by kernel_rfl) (c:=_) rfl Tryz.ntmps54 rfl (fun w0 h0 hval=>?_)
 refine W.rg env [1] [1] ?_
 refine W.rg env [2] [1] ?_
 refine W.ret ?_
 exact At.ret env.ty rfl rfl nofun (.refl _) hval
theorem zkm (p0:Chart) (p1:Int) (p2:Int) (p3:Int→Option Int) (p3_g:Nat) (p3_a p3_b:List AV) (p3_h:∀ x0 r,p3 x0=some r→Ctr Tryz.prog p3_g (p3_a++([.int .i64 (x0)]++p3_b)) (.int .i64 (r))):Ctr Tryz.prog 96 [.agg [.int .i64 (p0.Places),roL 7 zaC p0.Ways],.int .i64 (p1),.int .i64 (p2),.clo (.func p3_g) p3_a p3_b] (.clo (.func 112) [] [.rp [.int .i64 (p0.Places),roL 7 zaC p0.Ways],.rp [.int .i64 (p1)],.rp [.int .i64 (p2)],.rp [.clo (.func p3_g) p3_a p3_b]]):=by
 refine Ctr.zan (N:=10) Tryz.func96 (by kernel_rfl) (c:=_) rfl Tryz.ntmps96 rfl (fun w0 h0 hval=>?_)
 refine W.rg env [4,5,6,7] [4,5,6,7] ?_
 refine W.rg env [8] [4,5,6,7] ?_
 refine W.ret ?_
 exact At.ret env.ty rfl rfl nofun (.refl _) hval
theorem zjv (p0:Way) (p1:Int) {r:(Int×Bool)} (H:zc7 p0 p1=some r):Ctr Tryz.prog 113 [.agg [.int .i64 (p0.From),.int .i64 (p0.To),.int .i64 (p0.Takes.Lo),.int .i64 (p0.Takes.Hi),.int .i64 (p0.Open.Lo),.int .i64 (p0.Open.Hi),.int .i64 (p0.Every)],.int .i64 (p1)] (.tup [.int .i64 (r.1),.bool (r.2)]):=by
 unfold zc7 at H
 refine Ctr.zan (N:=42) Tryz.func113 (by kernel_rfl) (c:=_) rfl Tryz.ntmps113 rfl (fun w0 h0 hval=>?_)
 refine W.rg env [1,2] [2] ?_
 refine W.rg env [2,6] [2] ?_
 refine W.seq ?_
 refine W.rg env [2,6,15] [2] ?_
 refine W.zhG H (fun (s1:Int)=>[(2,.lp 2 0),(6,.int .i64 (s1))]) (fun (s1:Int)=>[(2,.cells [.int .i64 (p0.From),.int .i64 (p0.To),.int .i64 (p0.Takes.Lo),.int .i64 (p0.Takes.Hi),.int .i64 (p0.Open.Lo),.int .i64 (p0.Open.Hi),.int .i64 (p0.Every)])]) (fun s1 H=>?_) (fun k1 H hK1=>?_)
 · refine W.sr env [] [] [4,5] [] rfl rfl (by first|rfl|kernel_rfl) .nil .nil ?_
   refine W.ret ?_
   cases H
   exact At.ret env.ty rfl rfl nofun (.refl _) hval
 · refine W.cond rfl (fun hb2=>?_) (fun hb2=>?_)
   · have H:=zai H hb2
     obtain ⟨hc3,H⟩:=zab H
     refine W.sr env [] [] [2,7] [2] rfl rfl rfl (.cons hc3 .nil) .nil ?_
     obtain ⟨hc4,H⟩:=zab H
     obtain ⟨hc5,H⟩:=zab H
     obtain ⟨hc6,H⟩:=zab H
     obtain ⟨hc7,H⟩:=zab H
     obtain ⟨hc8,H⟩:=zab H
     refine W.region env [] [] rfl rfl (by first|rfl|kernel_rfl) (.cons hc4 (.cons hc5 (.cons hc6 (.cons hc7 (.cons hc8 .nil))))) .nil (At.keep (ts:=[2,6]) (ids:=[2]) rfl rfl ?_)
     refine At.zaE (At.keep (ts:=[2,6]) (ids:=[2]) rfl rfl ?_)
     exact At.conv (.cons .q (.cons .qi .nil)) (.cons .q .nil) (hK1 (p0.Open.Lo+((Int.tdiv ((((max p1 p0.Open.Lo) - p0.Open.Lo)+p0.Every) - 1) p0.Every) * p0.Every)) H)
   · have H:=zag H hb2
     refine W.skip ?_
     refine At.zaE (At.keep (ts:=[2,6]) (ids:=[2]) rfl rfl ?_)
     exact At.conv (.cons .q (.cons .qi .nil)) (.cons .q .nil) (hK1 (max p1 p0.Open.Lo) H)
theorem zih (c0:Chart) (c1:Int) (c2:Int) (c3:Int→Option Int) (c3_g:Nat) (c3_a c3_b:List AV) (c3_h:∀ x0 r,c3 x0=some r→Ctr Tryz.prog c3_g (c3_a++([.int .i64 (x0)]++c3_b)) (.int .i64 (r))) {r:List (Int×Int)} (H:zcM c0 c1 c2 c3=some r):Iter Tryz.prog 112 [.rp [.int .i64 (c0.Places),roL 7 zaC c0.Ways],.rp [.int .i64 (c1)],.rp [.int .i64 (c2)],.rp [.clo (.func c3_g) c3_a c3_b]] (r.map (fun (x:Int×Int)=>[.int .i64 (x.1),.int .i64 (x.2)])):=by
 unfold zcM at H
 have hYl:=Yl.start r
 skip
 refine Iter.zan (N:=49) Tryz.func112 (by kernel_rfl) (c:=_) rfl Tryz.ntmps112 rfl (fun w0 h0 lp J hJ hval hY=>?_)
 refine W.rg env [0,2,3,4,11,12,13] [] ?_
 refine W.block ?_
 refine At.keep (ts:=[0,2,3,4,11,12,13]) (ids:=[]) rfl rfl ?_
 refine W.len (t:=11) rfl (fun (hn1:c0.Ways.length≤maxLen)=>?_)
 refine W.zlE H hYl (fun i1 (s1:Unit)=>[(0,.fn (.yield lp) [] []),(2,.rp [.int .i64 (c1)]),(3,.rp [.int .i64 (c2)]),(4,.rp [.clo (.func c3_g) c3_a c3_b]),(11,roL 7 zaC c0.Ways),(12,.int .i64 (((c0.Ways.length:Nat):Int))),(13,.int .i64 ((i1:Int)))]) (fun i1 (s1:Unit)=>[]) (.cons .q (.cons .q (.cons .q (.cons .q (.cons .q (.cons .qi (.cons .qi .nil))))))) .nil (fun k1 i1 s1 g r hle1 hYl H1 H2 K0 hK1=>?_)
 refine W.rg env [0,2,3,4,11,12,13,14] [] ?_
 refine W.seq ?_
 refine W.cond rfl (fun hb2=>?_) (fun hb2=>?_)
 · have hi1:i1<c0.Ways.length:=by have:=of_decide_eq_true hb2;omega
   have H:=H1 hi1
   refine W.skip ?_
   refine At.zad ?_
   refine W.seq ?_
   refine W.joinI H hYl (fun (s3:Unit)=>[(0,.fn (.yield lp) [] []),(2,.rp [.int .i64 (c1)]),(3,.rp [.int .i64 (c2)]),(4,.rp [.clo (.func c3_g) c3_a c3_b]),(11,roL 7 zaC c0.Ways),(12,.int .i64 (((c0.Ways.length:Nat):Int))),(13,.int .i64 ((i1:Int)))]) (fun (s3:Unit)=>[]) (fun s3 g r hYl H=>?_) (fun k3 H hK3=>?_)
   · refine W.region env [] [] rfl rfl rfl (.cons (by unfold inI;have:=hn1;(try unfold maxLen at this);omega) .nil) .nil (At.keep (ts:=[0,2,3,4,11,12,13]) (ids:=[]) rfl rfl ?_)
     refine At.zaE (At.keep (ts:=[0,2,3,4,11,12,13]) (ids:=[]) rfl rfl ?_)
     exact At.conv (.cons .q (.cons .q (.cons .q (.cons .q (.cons .q (.cons .qi (.cons .qi .nil))))))) .nil (hK1 hi1 () _ _ hYl H)
   · refine W.block ?_
     refine W.sr env [] [] [0,2,3,4,6,7,11,12,13] [7] rfl rfl rfl (.cons (⟨by omega,by omega⟩:0≤(i1:Int)∧(i1:Int)<((c0.Ways.length:Nat):Int)) .nil) .nil ?_
     refine W.seq ?_
     refine W.rg env [0,2,3,4,6,7,11,12,13,21] [7] ?_
     refine W.cond rfl (fun hb4=>?_) (fun hb4=>?_)
     · have H:=zai H hb4
       refine W.exit ?_
       refine At.xthen ?_
       refine At.xhere ?_
       refine At.zaE (At.keep (ts:=[0,2,3,4,11,12,13]) (ids:=[]) rfl rfl ?_)
       exact At.conv (.cons .q (.cons .q (.cons .q (.cons .q (.cons .q (.cons .qi (.cons .qi .nil))))))) .nil (hK3 () _ _ hYl H)
     · have H:=zag H hb4
       refine W.skip ?_
       refine At.zad ?_
       refine W.seq ?_
       obtain ⟨y5,hy6,H⟩:=zaf H
       refine W.region env [] [⟨.tup [.int .i64 (y5.1),.bool (y5.2)],[],0,[]⟩] rfl rfl rfl .nil (.free (zjv (c0.Ways.getD i1 default) c2 hy6) .nil) (At.keep (ts:=[0,2,3,4,6,8,9,11,12,13]) (ids:=[]) rfl rfl ?_)
       refine At.zad ?_
       refine W.seq ?_
       obtain ⟨y7,hy8,H⟩:=zaf H
       obtain ⟨hc9,H⟩:=zab H
       obtain ⟨y10,hy11,H⟩:=zaf H
       obtain ⟨hc12,H⟩:=zab H
       refine W.zpn env hY [] 17 [⟨.int .i64 (y7),[],0,[]⟩,⟨.int .i64 (y10),[],0,[]⟩] [] rfl rfl rfl rfl rfl rfl rfl rfl (fun b=>rfl) rfl (.cons id (.cons id (.cons hc9 (.cons id (.cons id (.cons id (.cons id (.cons id (.cons id (.cons hc12 (.cons id (.cons id .nil)))))))))))) (.on (fun hW=>c3_h (i1:Int) _ (zai hy8 hW)) (.on (fun hW=>c3_h (i1:Int) _ (zai hy11 hW)) .nil)) (.cons id (.cons id (.cons id .nil))) (fun b=>(.cons id (.cons id .nil))) (fun b=>.nil) (fun hW=>Yl.item (fun (x:Int×Int)=>[.int .i64 (x.1),.int .i64 (x.2)]) H hYl hW) (fun b g1 hg1 hg2=>?_)
       refine At.keep (ts:=[0,2,3,4,11,12,13,47]) (ids:=[]) rfl rfl ?_
       refine At.zad ?_
       rcases Yl.split hg1 hg2 with ⟨hw1,hw2,rfl⟩|⟨hw1,hw2,hw3⟩
       · refine W.cond rfl (fun hb=>?_) (fun hb=>?_)
         · refine W.ret ?_
           refine At.rinb ?_
           refine At.rthen ?_
           refine At.rthen ?_
           refine At.rinb ?_
           exact At.iret rfl (.inl rfl) hval
         · exact absurd hb (by rw [hw1,hw2];simp)
       · refine W.cond rfl (fun hb=>?_) (fun hb=>?_)
         · exact absurd hb (by intro hb;simp only [Bool.and_eq_true,Bool.not_eq_true'] at hb;have:=hw1 (by first|exact hb.1|(simp only [Bool.and_eq_true];exact hb.1));rw [this] at hb;simp at hb)
         · obtain ⟨r,H,hYl⟩:=Yl.next H hYl hw2 hw3
           refine W.skip ?_
           refine At.inb ?_
           refine At.zaE (At.keep (ts:=[0,2,3,4,11,12,13]) (ids:=[]) rfl rfl ?_)
           exact At.conv (.cons .q (.cons .q (.cons .q (.cons .q (.cons .q (.cons .qi (.cons .qi .nil))))))) .nil (hK3 () _ _ hYl H)
 · have H:=H2 (by have:=of_decide_eq_false hb2;omega)
   refine W.exit ?_
   refine At.xthen ?_
   refine At.xthen ?_
   refine At.xhere ?_
   refine At.zjZ ?_
   exact At.iret rfl (.inr (Yl.fin (fun (x:Int×Int)=>[.int .i64 (x.1),.int .i64 (x.2)]) H hYl)) hval
theorem zju (fuel:Nat) (p0:Chart) (p1:Int) (p2:Int) (p3:Int→Option Int) (p3_g:Nat) (p3_a p3_b:List AV) (p3_h:∀ x0 r,p3 x0=some r→Ctr Tryz.prog p3_g (p3_a++([.int .i64 (x0)]++p3_b)) (.int .i64 (r))) {r:(Mp round_reached)} (H:zdB fuel p0 p1 p2 p3=some r):Ctr Tryz.prog 53 [.agg [.int .i64 (p0.Places),roL 7 zaC p0.Ways],.int .i64 (p1),.int .i64 (p2),.clo (.func p3_g) p3_a p3_b] (romL (.agg #[.int .i64 0,.int .i64 0]) (fun (x:round_reached)=>.agg [.int .i64 (x.at_),.int .i64 (x.way)]) r):=by
 unfold zdB at H
 refine Ctr.zan (N:=110) Tryz.func53 (by kernel_rfl) (c:=_) rfl Tryz.ntmps53 rfl (fun w0 h0 hval=>?_)
 refine W.rg env [1,2,3,4] [4] ?_
 refine W.scope ?_
 refine W.seq ?_
 refine W.region env [] [] rfl rfl rfl .nil .nil (At.keep (ts:=[1,2,3,4,9]) (ids:=[4,9,23]) rfl rfl ?_)
 refine At.zbo (.cons (.refl _) (.cons (.refl _) (.cons (y:=mapL (.agg #[.int .i64 0,.int .i64 0]) (fun (x:round_reached)=>.agg [.int .i64 (x.at_),.int .i64 (x.way)]) (Mp.empty:Mp round_reached)) (BSim.mseg (f:=(fun (x:round_reached)=>.agg [.int .i64 (x.at_),.int .i64 (x.way)])) (MSeg.empty rfl)) .nil))) ?_
 refine At.zad ?_
 refine W.seq ?_
 refine W.region env [] [] rfl rfl rfl .nil .nil (At.keep (ts:=[3,4,9,10]) (ids:=[4,9,10,23,24]) rfl rfl ?_)
 refine At.zbo (.cons (.refl _) (.cons (.refl _) (.cons (.refl _) (.cons (.refl _) (.cons (y:=mapL (.agg #[.int .i64 0,.int .i64 0]) (fun (x:round_reached)=>.agg [.int .i64 (x.at_),.int .i64 (x.way)]) ((Mp.empty:Mp round_reached).set p1 (⟨p2,(-1)⟩:round_reached))) (BSim.mseg (f:=(fun (x:round_reached)=>.agg [.int .i64 (x.at_),.int .i64 (x.way)])) (MSeg.set (MSeg.empty rfl) (⟨p2,(-1)⟩:round_reached) rfl)) .nil))))) ?_
 refine At.zad ?_
 refine W.seq ?_
 refine W.label ?_
 refine At.zad ?_
 refine W.seq ?_
 refine W.block ?_
 refine At.keep (ts:=[3,4,9,10]) (ids:=[4,9,10,23,24]) rfl rfl ?_
 refine W.loopGo H (fun (s1:(Mp round_reached)×(Mp round_reached))=>[(3,.clo (.func p3_g) p3_a p3_b),(4,.lp 4 0),(9,.lp 9 0),(10,.lp 10 0)]) (fun (s1:(Mp round_reached)×(Mp round_reached))=>[(4,.cells [.int .i64 (p0.Places),roL 7 zaC p0.Ways]),(9,.cells [.mp 23]),(10,.cells [.mp 24]),(23,mapL (.agg #[.int .i64 0,.int .i64 0]) (fun (x:round_reached)=>.agg [.int .i64 (x.at_),.int .i64 (x.way)]) s1.1),(24,mapL (.agg #[.int .i64 0,.int .i64 0]) (fun (x:round_reached)=>.agg [.int .i64 (x.at_),.int .i64 (x.way)]) s1.2)]) (.cons .q (.cons .q (.cons .q (.cons .q .nil)))) (.cons .q (.cons .q (.cons .q (.cons .q (.cons .q .nil))))) (fun k1 s1 H K0 hK1=>?_)
 refine W.block ?_
 refine W.rg env [3,4,9,10,11] [4,9,10,23,24] ?_
 refine W.seq ?_
 refine W.rg env [3,4,9,10,11,30,31] [4,9,10,23,24] ?_
 refine W.block ?_
 refine At.keep (ts:=[3,4,9,10,11,30,31]) (ids:=[4,9,10,23,24]) rfl rfl ?_
 obtain ⟨hn2,H⟩:=zab H
 refine W.zah H (fun i2 (s2:Int)=>[(3,.clo (.func p3_g) p3_a p3_b),(4,.lp 4 0),(9,.lp 9 0),(10,.lp 10 0),(11,.int .i64 (s2)),(30,.int .i64 (p0.Places)),(31,.int .i64 ((i2:Int)))]) (fun i2 (s2:Int)=>[(4,.cells [.int .i64 (p0.Places),roL 7 zaC p0.Ways]),(9,.cells [.mp 23]),(10,.cells [.mp 24]),(23,mapL (.agg #[.int .i64 0,.int .i64 0]) (fun (x:round_reached)=>.agg [.int .i64 (x.at_),.int .i64 (x.way)]) s1.1),(24,mapL (.agg #[.int .i64 0,.int .i64 0]) (fun (x:round_reached)=>.agg [.int .i64 (x.at_),.int .i64 (x.way)]) s1.2)]) (.cons .q (.cons .q (.cons .q (.cons .q (.cons .qi (.cons .qi (.cons .qi .nil))))))) (.cons .q (.cons .q (.cons .q (.cons .q (.cons .q .nil))))) (fun k2 i2 s2 hle2 H1 H2 K0 hK2=>?_)
 refine W.rg env [3,4,9,10,11,30,31,32] [4,9,10,23,24] ?_
 refine W.seq ?_
 refine W.cond rfl (fun hb3=>?_) (fun hb3=>?_)
 · have hi2:i2<(p0.Places).toNat:=by have:=of_decide_eq_true hb3;omega
   have H:=H1 hi2
   refine W.skip ?_
   refine At.zad ?_
   refine W.seq ?_
   refine W.block ?_
   refine W.rg env [3,4,9,10,11,12,30,31] [4,9,10,23,24] ?_
   refine W.sr env [] [] [3,4,9,10,11,12,13,14,30,31] [4,9,10,13,23,24] rfl rfl rfl (.cons rfl .nil) .nil ?_
   refine W.sr env [] [] [3,4,9,10,11,12,30,31,53] [4,9,10,23,24] rfl rfl rfl (.cons id (.cons id (.cons id (.cons (fun _=>rfl) (.cons id (.cons id (.cons id (.cons id (.cons id (.cons id (.cons (fun hW h=>by revert hW h;first|(simp +contextual;done)|grind) (.cons id .nil)))))))))))) .nil ?_
   refine W.cond rfl (fun hb4=>?_) (fun hb4=>?_)
   · have H:=zai H hb4
     refine W.region env [] [] rfl rfl rfl .nil .nil (At.keep (ts:=[3,4,9,10,11,30,31]) (ids:=[4,9,10,23,24]) rfl rfl ?_)
     refine At.inb ?_
     refine At.zad ?_
     refine W.region env [] [] rfl rfl rfl (.cons (by unfold inI;have:=hn2;(try unfold maxLen at this);omega) .nil) .nil (At.keep (ts:=[3,4,9,10,11,30,31]) (ids:=[4,9,10,23,24]) rfl rfl ?_)
     refine At.zaE (At.keep (ts:=[3,4,9,10,11,30,31]) (ids:=[4,9,10,23,24]) rfl rfl ?_)
     exact At.conv (.cons .q (.cons .q (.cons .q (.cons .q (.cons .qi (.cons .qi (.cons .qi .nil))))))) (.cons .q (.cons .q (.cons .q (.cons .q (.cons .q .nil))))) (hK2 hi2 (i2:Int) H)
   · have H:=zag H hb4
     refine W.skip ?_
     refine At.inb ?_
     refine At.zad ?_
     refine W.region env [] [] rfl rfl rfl (.cons (by unfold inI;have:=hn2;(try unfold maxLen at this);omega) .nil) .nil (At.keep (ts:=[3,4,9,10,11,30,31]) (ids:=[4,9,10,23,24]) rfl rfl ?_)
     refine At.zaE (At.keep (ts:=[3,4,9,10,11,30,31]) (ids:=[4,9,10,23,24]) rfl rfl ?_)
     exact At.conv (.cons .q (.cons .q (.cons .q (.cons .q (.cons .qi (.cons .qi (.cons .qi .nil))))))) (.cons .q (.cons .q (.cons .q (.cons .q (.cons .q .nil))))) (hK2 hi2 s2 H)
 · have H:=H2 (by have:=of_decide_eq_false hb3;omega)
   refine W.exit ?_
   refine At.xthen ?_
   refine At.xthen ?_
   refine At.xhere ?_
   refine At.zad ?_
   refine W.seq ?_
   refine W.rg env [3,4,9,10,11,57] [4,9,10,23,24] ?_
   refine W.cond rfl (fun hb5=>?_) (fun hb5=>?_)
   · have H:=zai H hb5
     refine W.exit ?_
     refine At.xthen ?_
     refine At.xpast rfl ?_
     refine At.xthen ?_
     refine At.xhere ?_
     refine At.zad ?_
     refine W.rg env [8] [23] ?_
     refine W.ret ?_
     refine At.rins ?_
     cases H
     exact At.ret env.ty rfl rfl nofun (.refl _) hval
   · have H:=zag H hb5
     refine W.skip ?_
     refine At.zad ?_
     refine W.sr env [] [] [3,4,9,10,11,15] [4,9,10,15,23,24] rfl rfl rfl (.cons rfl .nil) .nil ?_
     refine W.seq ?_
     refine W.region env [] [] rfl rfl rfl (.cons rfl .nil) .nil (At.keep (ts:=[3,4,9,10,11,15]) (ids:=[4,9,10,15,23,24]) rfl rfl ?_)
     refine At.zbo (.cons (.refl _) (.cons (.refl _) (.cons (.refl _) (.cons (.refl _) (.cons (.refl _) (.cons (y:=mapL (.agg #[.int .i64 0,.int .i64 0]) (fun (x:round_reached)=>.agg [.int .i64 (x.at_),.int .i64 (x.way)]) (s1.2.del s2)) (BSim.mseg (f:=(fun (x:round_reached)=>.agg [.int .i64 (x.at_),.int .i64 (x.way)])) (MSeg.del (MSeg.refl (fun (x:round_reached)=>.agg [.int .i64 (x.at_),.int .i64 (x.way)]) _) rfl)) .nil)))))) ?_
     refine At.zad ?_
     refine W.seq ?_
     refine W.region env [] [] rfl rfl rfl .nil .nil (At.keep (ts:=[3,4,9,10,11,15]) (ids:=[4,9,10,15,23,24]) rfl rfl ?_)
     refine At.zbo (.cons (.refl _) (.cons (.refl _) (.cons (.refl _) (.cons (.refl _) (.cons (y:=mapL (.agg #[.int .i64 0,.int .i64 0]) (fun (x:round_reached)=>.agg [.int .i64 (x.at_),.int .i64 (x.way)]) (s1.1.set s2 ((s1.2.get s2).getD default))) (BSim.mseg (f:=(fun (x:round_reached)=>.agg [.int .i64 (x.at_),.int .i64 (x.way)])) (MSeg.set (MSeg.refl (fun (x:round_reached)=>.agg [.int .i64 (x.at_),.int .i64 (x.way)]) _) ((s1.2.get s2).getD default) rfl)) (.cons (.refl _) .nil)))))) ?_
     refine At.zad ?_
     refine W.sr env [] [⟨.clo (.func 112) [] [.rp [.int .i64 (p0.Places),roL 7 zaC p0.Ways],.rp [.int .i64 (s2)],.rp [.int .i64 (((s1.2.get s2).getD default).at_)],.rp [.clo (.func p3_g) p3_a p3_b]],[],0,[]⟩] [3,4,9,10,71] [4,9,10,23,24] rfl rfl rfl .nil (.free (zkm p0 s2 (((s1.2.get s2).getD default).at_) p3 p3_g p3_a p3_b p3_h) .nil) ?_
     refine W.block ?_
     obtain ⟨it6,hit6,H⟩:=zaf H
     refine At.keep (ts:=[3,4,9,10,71]) (ids:=[4,9,10,23,24]) rfl rfl ?_
     refine W.zdk H (fun (x:Int×Int)=>[.int .i64 (x.1),.int .i64 (x.2)]) (zih p0 s2 (((s1.2.get s2).getD default).at_) p3 p3_g p3_a p3_b p3_h hit6) rfl (fun _=>⟨rfl,rfl⟩) rfl rfl rfl (fun (s7:(Mp round_reached))=>[(4,.cells [.int .i64 (p0.Places),roL 7 zaC p0.Ways]),(9,.cells [.mp 23]),(10,.cells [.mp 24]),(23,mapL (.agg #[.int .i64 0,.int .i64 0]) (fun (x:round_reached)=>.agg [.int .i64 (x.at_),.int .i64 (x.way)]) (s1.1.set s2 ((s1.2.get s2).getD default))),(24,mapL (.agg #[.int .i64 0,.int .i64 0]) (fun (x:round_reached)=>.agg [.int .i64 (x.at_),.int .i64 (x.way)]) s7)]) (.cons .q (.cons .q (.cons .q (.cons .q (.cons .q .nil))))) (fun (x6:Int×Int)=>[(4,.lp 4 0),(9,.lp 9 0),(10,.lp 10 0),(16,.int .i64 (x6.1)),(17,.int .i64 (x6.2))]) (fun (x6:Int×Int) (s7:(Mp round_reached))=>[(4,.cells [.int .i64 (p0.Places),roL 7 zaC p0.Ways]),(9,.cells [.mp 23]),(10,.cells [.mp 24]),(23,mapL (.agg #[.int .i64 0,.int .i64 0]) (fun (x:round_reached)=>.agg [.int .i64 (x.at_),.int .i64 (x.way)]) (s1.1.set s2 ((s1.2.get s2).getD default))),(24,mapL (.agg #[.int .i64 0,.int .i64 0]) (fun (x:round_reached)=>.agg [.int .i64 (x.at_),.int .i64 (x.way)]) s7)]) (fun _ (_:Unit)=>False) (fun _ _=>[]) (fun _ _ h=>h.elim) hval (fun h1 vs gh st lp x6 s7 K hK=>?_) (fun k7 h1 vs gh st lp x6 s7 H Qr hQ7 hX7=>?_) (fun s7 H=>?_) (fun _ _ h=>h.elim)
     · refine W.rg env [4,9,10,16,73] [4,9,10,23,24] ?_
       refine W.region env [] [] rfl rfl rfl .nil .nil (At.keep (ts:=[4,9,10,16,17]) (ids:=[4,9,10,23,24]) rfl rfl ?_)
       refine At.zaE (At.keep (ts:=[4,9,10,16,17]) (ids:=[4,9,10,23,24]) rfl rfl ?_)
       exact hK
     · refine W.block ?_
       obtain ⟨hc8,H⟩:=zab H
       refine W.sr env [] [] [9,10,16,17,18] [4,9,10,23,24] rfl rfl rfl (.cons hc8 .nil) .nil ?_
       refine W.sr env [] [] [10,16,17,18,20] [4,9,10,23,24] rfl rfl rfl (.cons rfl .nil) .nil ?_
       refine W.sr env [] [] [10,16,17,18,20,21,22] [4,9,10,21,23,24] rfl rfl rfl (.cons rfl .nil) .nil ?_
       refine W.sr env [] [] [10,16,17,18,103] [4,9,10,23,24] rfl rfl rfl (.cons id (.cons id (.cons id (.cons id (.cons id (.cons id (.cons (fun hW h=>by revert hW h;first|(simp +contextual;done)|grind) (.cons id .nil)))))))) .nil ?_
       refine W.cond rfl (fun hb9=>?_) (fun hb9=>?_)
       · have H:=zai H hb9
         refine W.region env [] [] rfl rfl rfl .nil .nil (At.keep (ts:=[]) (ids:=[4,9,10,23,24]) rfl rfl ?_)
         refine At.zbo (.cons (.refl _) (.cons (.refl _) (.cons (.refl _) (.cons (.refl _) (.cons (y:=mapL (.agg #[.int .i64 0,.int .i64 0]) (fun (x:round_reached)=>.agg [.int .i64 (x.at_),.int .i64 (x.way)]) (s7.set ((p0.Ways.getD (x6.1).toNat default).To) (⟨x6.2,x6.1⟩:round_reached))) (BSim.mseg (f:=(fun (x:round_reached)=>.agg [.int .i64 (x.at_),.int .i64 (x.way)])) (MSeg.set (MSeg.refl (fun (x:round_reached)=>.agg [.int .i64 (x.at_),.int .i64 (x.way)]) _) (⟨x6.2,x6.1⟩:round_reached) rfl)) .nil))))) ?_
         refine At.inb ?_
         refine At.keep (ts:=[]) (ids:=[4,9,10,23,24]) rfl rfl ?_
         exact At.conv .nil (.cons .q (.cons .q (.cons .q (.cons .q (.cons .q .nil))))) (hQ7 (s7.set ((p0.Ways.getD (x6.1).toNat default).To) (⟨x6.2,x6.1⟩:round_reached)) H)
       · have H:=zag H hb9
         refine W.skip ?_
         refine At.inb ?_
         refine At.keep (ts:=[]) (ids:=[4,9,10,23,24]) rfl rfl ?_
         exact At.conv .nil (.cons .q (.cons .q (.cons .q (.cons .q (.cons .q .nil))))) (hQ7 s7 H)
     · refine At.inb ?_
       refine At.inb ?_
       refine At.zaE (At.keep (ts:=[3,4,9,10]) (ids:=[4,9,10,23,24]) rfl rfl ?_)
       exact At.conv (.cons .q (.cons .q (.cons .q (.cons .q .nil)))) (.cons .q (.cons .q (.cons .q (.cons .q (.cons .q .nil))))) (hK1 ((s1.1.set s2 ((s1.2.get s2).getD default)),s7) H)
theorem zhZ (p0:Int) (c0:(List Int)) {r:Int} (H:zb6 p0 c0=some r):Ctr Tryz.prog 97 [.int .i64 (p0),.rp [roL 1 zaa c0]] (.int .i64 (r)):=by
 unfold zb6 at H
 refine Ctr.zan (N:=8) Tryz.func97 (by kernel_rfl) (c:=_) rfl Tryz.ntmps97 rfl (fun w0 h0 hval=>?_)
 refine W.rg env [0,1] [] ?_
 obtain ⟨hc1,H⟩:=zab H
 refine W.sr env [] [] [3] [] rfl rfl rfl (.cons hc1 .nil) .nil ?_
 refine W.ret ?_
 cases H
 exact At.ret env.ty rfl rfl nofun (.refl _) hval
theorem zh1 (p0:Chart) (p1:(Mp round_reached)) {r:(List Int)} (H:zcV p0 p1=some r):Ctr Tryz.prog 52 [.agg [.int .i64 (p0.Places),roL 7 zaC p0.Ways],romL (.agg #[.int .i64 0,.int .i64 0]) (fun (x:round_reached)=>.agg [.int .i64 (x.at_),.int .i64 (x.way)]) p1] (roL 1 zaa r):=by
 unfold zcV at H
 refine Ctr.zan (N:=34) Tryz.func52 (by kernel_rfl) (c:=_) rfl Tryz.ntmps52 rfl (fun w0 h0 hval=>?_)
 refine W.rg env [1,2] [2] ?_
 refine W.seq ?_
 obtain ⟨hc1,H⟩:=zab H
 refine W.region env [] [] rfl rfl rfl (.cons hc1 .nil) .nil (At.keep (ts:=[1,2,5]) (ids:=[2,11]) rfl rfl ?_)
 refine At.zbo (.cons (.refl _) (.cons (y:=bufL 3 1 zaa (List.replicate (p0.Places).toNat (0:Int))) (BSim.seg (Seg.made (f:=zaa) 0 rfl)) .nil)) ?_
 refine At.zad ?_
 refine W.seq ?_
 refine W.rg env [1,5,13,14] [11] ?_
 refine W.block ?_
 refine At.keep (ts:=[1,5,13,14]) (ids:=[11]) rfl rfl ?_
 obtain ⟨hn2,H⟩:=zab H
 refine W.zah H (fun i2 (s2:(List Int))=>[(1,romL (.agg #[.int .i64 0,.int .i64 0]) (fun (x:round_reached)=>.agg [.int .i64 (x.at_),.int .i64 (x.way)]) p1),(5,.buf 11 (s2).length),(13,.int .i64 (p0.Places)),(14,.int .i64 ((i2:Int)))]) (fun i2 (s2:(List Int))=>[(11,bufL 3 1 zaa s2)]) (.cons .q (.cons .qb (.cons .qi (.cons .qi .nil)))) (.cons .q .nil) (fun k2 i2 s2 hle2 H1 H2 K0 hK2=>?_)
 refine W.rg env [1,5,13,14,15] [11] ?_
 refine W.seq ?_
 refine W.cond rfl (fun hb3=>?_) (fun hb3=>?_)
 · have hi2:i2<(p0.Places).toNat:=by have:=of_decide_eq_true hb3;omega
   have H:=H1 hi2
   refine W.skip ?_
   refine At.zad ?_
   refine W.seq ?_
   refine W.block ?_
   refine W.rg env [1,5,6,13,14] [11] ?_
   refine W.seq ?_
   obtain ⟨hc4,H⟩:=zab H
   refine W.region env [] [] rfl rfl rfl (.cons (⟨by first|rfl|(simp;done)|omega|(simp;omega),hc4⟩) (.cons (⟨by first|rfl|(simp;done)|omega|(simp;omega),(by have:=hc4;first|omega|(simp only [List.length_set];omega)|(simp only [Int.toNat_natCast] at *;omega)|(simp at this ⊢;omega))⟩) .nil)) .nil (At.keep (ts:=[1,5,6,13,14]) (ids:=[11]) rfl rfl ?_)
   refine At.zbo (.cons (y:=bufL 3 1 zaa (s2.set i2 (-1))) (BSim.seg (Seg.set (Seg.refl zaa _) (-1) rfl)) .nil) ?_
   refine At.zad ?_
   refine W.sr env [] [] [1,5,6,7,8,13,14] [7,11] rfl rfl rfl (.cons rfl .nil) .nil ?_
   refine W.rg env [1,5,6,7,13,14,26] [7,11] ?_
   refine W.cond rfl (fun hb5=>?_) (fun hb5=>?_)
   · have H:=zai H hb5
     obtain ⟨hc6,H⟩:=zab H
     refine W.region env [] [] rfl rfl rfl (.cons (⟨by first|rfl|(simp;done)|omega|(simp;omega),hc6⟩) (.cons (⟨by first|rfl|(simp;done)|omega|(simp;omega),(by have:=hc6;first|omega|(simp only [List.length_set];omega)|(simp only [Int.toNat_natCast] at *;omega)|(simp at this ⊢;omega))⟩) .nil)) .nil (At.keep (ts:=[1,5,13,14]) (ids:=[11]) rfl rfl ?_)
     refine At.zbo (.cons (y:=bufL 3 1 zaa ((s2.set i2 (-1)).set i2 (((p1.get (i2:Int)).getD default).at_))) (BSim.seg (Seg.set (Seg.refl zaa _) (((p1.get (i2:Int)).getD default).at_) rfl)) .nil) ?_
     refine At.inb ?_
     refine At.zad ?_
     refine W.region env [] [] rfl rfl rfl (.cons (by unfold inI;have:=hn2;(try unfold maxLen at this);omega) .nil) .nil (At.keep (ts:=[1,5,13,14]) (ids:=[11]) rfl rfl ?_)
     refine At.zaE (At.keep (ts:=[1,5,13,14]) (ids:=[11]) rfl rfl ?_)
     exact At.conv (.cons .q (.cons .qb (.cons .qi (.cons .qi .nil)))) (.cons .q .nil) (hK2 hi2 ((s2.set i2 (-1)).set i2 (((p1.get (i2:Int)).getD default).at_)) H)
   · have H:=zag H hb5
     refine W.skip ?_
     refine At.inb ?_
     refine At.zad ?_
     refine W.region env [] [] rfl rfl rfl (.cons (by unfold inI;have:=hn2;(try unfold maxLen at this);omega) .nil) .nil (At.keep (ts:=[1,5,13,14]) (ids:=[11]) rfl rfl ?_)
     refine At.zaE (At.keep (ts:=[1,5,13,14]) (ids:=[11]) rfl rfl ?_)
     exact At.conv (.cons .q (.cons .qb (.cons .qi (.cons .qi .nil)))) (.cons .q .nil) (hK2 hi2 (s2.set i2 (-1)) H)
 · have H:=H2 (by have:=of_decide_eq_false hb3;omega)
   refine W.exit ?_
   refine At.xthen ?_
   refine At.xthen ?_
   refine At.xhere ?_
   refine At.zad ?_
   refine W.rg env [4] [11] ?_
   refine W.ret ?_
   cases H
   exact At.ret env.ty rfl rfl (fun q hq=>by cases hq;exact (by first|rfl|(simp;done)|omega|(simp;omega))) (.refl _) hval
theorem zii (fuel:Nat) (p0:Chart) (p1:(List Int)) (p2:Int) (p3:Int) {r:((List Int)×Int)} (H:zcN fuel p0 p1 p2 p3=some r):Ctr Tryz.prog 17 [.agg [.int .i64 (p0.Places),roL 7 zaC p0.Ways],roL 1 zaa p1,.int .i64 (p2),.int .i64 (p3)] (.tup [roL 1 zaa r.1,.int .i64 (r.2)]):=by
 unfold zcN at H
 refine Ctr.zan (N:=31) Tryz.func17 (by kernel_rfl) (c:=_) rfl Tryz.ntmps17 rfl (fun w0 h0 hval=>?_)
 refine W.rg env [1,2,3,4] [4] ?_
 refine W.seq ?_
 refine W.seq ?_
 obtain ⟨y1,hy2,H⟩:=zaf H
 refine W.region env [] [⟨.int .i64 (y1),[],0,[]⟩] rfl rfl rfl .nil (.free (Ctr.sim (.cons (.refl _) (.cons (.refl _) (.cons (Sim.lit (f:=zaa) ([p2]:List Int) rfl rfl (fun _=>rfl)) .nil))) (zh0 p0 p3 ([p2]:List Int) hy2)) .nil) (At.keep (ts:=[1,2,3,4,10]) (ids:=[4]) rfl rfl ?_)
 refine At.zad ?_
 refine W.rg env [1,2,3,4,10,17] [4] ?_
 refine W.cond rfl (fun hb3=>?_) (fun hb3=>?_)
 · have H:=zai H hb3
   refine W.rg env [8,9] [] ?_
   refine W.ret ?_
   refine At.rthen ?_
   cases H
   exact At.ret env.ty rfl rfl nofun (Sim.tupL (.cons (Sim.nil _ _) (.cons (.refl _) .nil))) hval
 · have H:=zag H hb3
   refine W.skip ?_
   refine At.zad ?_
   refine W.seq ?_
   refine W.seq ?_
   obtain ⟨y4,hy5,H⟩:=zaf H
   refine W.region env [] [⟨.bool (y4),[],0,[]⟩] rfl rfl rfl .nil (.free (zeZ p0 p1 hy5) .nil) (At.keep (ts:=[1,2,3,4,22]) (ids:=[4]) rfl rfl ?_)
   refine At.zad ?_
   refine W.cond rfl (fun hb6=>?_) (fun hb6=>?_)
   · have H:=zai H hb6
     refine W.rg env [8,9] [] ?_
     refine W.ret ?_
     refine At.rthen ?_
     cases H
     exact At.ret env.ty rfl rfl nofun (Sim.tupL (.cons (Sim.nil _ _) (.cons (.refl _) .nil))) hval
   · have H:=zag H hb6
     refine W.skip ?_
     refine At.zad ?_
     refine W.seq ?_
     obtain ⟨y7,hy8,H⟩:=zaf H
     obtain ⟨y9,hy10,H⟩:=zaf H
     refine W.region env [] [⟨.clo (.func 97) [] [.rp [roL 1 zaa p1]],[],0,[]⟩,⟨romL (.agg #[.int .i64 0,.int .i64 0]) (fun (x:round_reached)=>.agg [.int .i64 (x.at_),.int .i64 (x.way)]) y7,[],0,[]⟩,⟨roL 1 zaa y9,[],0,[]⟩] rfl rfl (by kernel_rfl) .nil (.free (zjt p1) (.free (zju fuel p0 p2 p3 (fun x0=>zb6 x0 p1) 97 [] ([.rp [roL 1 zaa p1]]) (fun x0 r h=>zhZ x0 p1 h) hy8) (.free (zh1 p0 y7 hy10) .nil))) (At.keep (ts:=[8,9]) (ids:=[]) rfl rfl ?_)
     refine At.zad ?_
     refine W.ret ?_
     cases H
     exact At.ret env.ty rfl rfl nofun (.refl _) hval
theorem zgF (p0:Int):Ctr Tryz.prog 98 [.int .i64 (p0)] (.bool ((zb1 p0))):=by
 obtain ⟨r,H⟩:∃ r,zb1 p0=r:=⟨_,rfl⟩
 rw [H]
 unfold zb1 at H
 refine Ctr.zan (N:=6) Tryz.func98 (by kernel_rfl) (c:=_) rfl Tryz.ntmps98 rfl (fun w0 h0 hval=>?_)
 refine W.rg env [0] [] ?_
 refine W.sr env [] [⟨.bool ((zaH p0 0 600)),[],0,[]⟩] [2] [] rfl rfl rfl .nil (.free (zcq p0 0 600) .nil) ?_
 refine W.ret ?_
 cases H
 exact At.ret env.ty rfl rfl nofun (.refl _) hval
theorem zh5 (p0:(List (List Int))) (p1:(List (List Int))) {r:Bool} (H:zcZ p0 p1=some r):Ctr Tryz.prog 55 [roL 1 zaj p0,roL 1 zaj p1] (.bool (r)):=by
 unfold zcZ at H
 refine Ctr.zan (N:=33) Tryz.func55 (by kernel_rfl) (c:=_) rfl Tryz.ntmps55 rfl (fun w0 h0 hval=>?_)
 refine W.rg env [0,1] [] ?_
 refine W.seq ?_
 refine W.rg env [0,1,11] [] ?_
 refine W.cond rfl (fun hb1=>?_) (fun hb1=>?_)
 · have H:=zai H hb1
   refine W.rg env [4] [] ?_
   refine W.ret ?_
   refine At.rthen ?_
   cases H
   exact At.ret env.ty rfl rfl nofun (.refl _) hval
 · have H:=zag H hb1
   refine W.skip ?_
   refine At.zad ?_
   refine W.seq ?_
   refine W.rg env [0,12,13,14] [] ?_
   refine W.block ?_
   refine At.keep (ts:=[0,12,13,14]) (ids:=[]) rfl rfl ?_
   refine W.len (t:=12) rfl (fun (hn2:p1.length≤maxLen)=>?_)
   refine W.zah H (fun i2 (s2:Unit)=>[(0,roL 1 zaj p0),(12,roL 1 zaj p1),(13,.int .i64 (((p1.length:Nat):Int))),(14,.int .i64 ((i2:Int)))]) (fun i2 (s2:Unit)=>[]) (.cons .q (.cons .q (.cons .qi (.cons .qi .nil)))) .nil (fun k2 i2 s2 hle2 H1 H2 K0 hK2=>?_)
   refine W.rg env [0,12,13,14,15] [] ?_
   refine W.seq ?_
   refine W.cond rfl (fun hb3=>?_) (fun hb3=>?_)
   · have hi2:i2<p1.length:=by have:=of_decide_eq_true hb3;omega
     have H:=H1 hi2
     refine W.skip ?_
     refine At.zad ?_
     refine W.seq ?_
     refine W.block ?_
     refine W.sr env [] [] [0,5,6,12,13,14] [] rfl rfl rfl (.cons (⟨by omega,by omega⟩:0≤(i2:Int)∧(i2:Int)<((p1.length:Nat):Int)) .nil) .nil ?_
     refine W.seq ?_
     obtain ⟨hc4,H⟩:=zab H
     obtain ⟨hc5,H⟩:=zab H
     obtain ⟨y6,hy7,H⟩:=zaf H
     refine W.region env [] [⟨.bool (y6),[],0,[]⟩] rfl rfl rfl (.cons hc4 (.cons hc5 (.cons id (.cons (fun h=>by rw [h];rfl) .nil)))) (.on (fun hW=>zbP (p1.getD i2 default) (fun x0=>some (zb1 x0)) 98 [] [] (fun x0 r h=>by cases h;exact zgF x0) (zai hy7 hW)) .nil) (At.keep (ts:=[0,12,13,14,31]) (ids:=[]) rfl rfl ?_)
     refine At.zad ?_
     refine W.cond rfl (fun hb8=>?_) (fun hb8=>?_)
     · have H:=zai H hb8
       refine W.rg env [4] [] ?_
       refine W.ret ?_
       refine At.rinb ?_
       refine At.rthen ?_
       refine At.rthen ?_
       refine At.rinb ?_
       refine At.rthen ?_
       cases H
       exact At.ret env.ty rfl rfl nofun (.refl _) hval
     · have H:=zag H hb8
       refine W.skip ?_
       refine At.inb ?_
       refine At.zad ?_
       refine W.region env [] [] rfl rfl rfl (.cons (by unfold inI;have:=hn2;(try unfold maxLen at this);omega) .nil) .nil (At.keep (ts:=[0,12,13,14]) (ids:=[]) rfl rfl ?_)
       refine At.zaE (At.keep (ts:=[0,12,13,14]) (ids:=[]) rfl rfl ?_)
       exact At.conv (.cons .q (.cons .q (.cons .qi (.cons .qi .nil)))) .nil (hK2 hi2 () H)
   · have H:=H2 (by have:=of_decide_eq_false hb3;omega)
     refine W.exit ?_
     refine At.xthen ?_
     refine At.xthen ?_
     refine At.xhere ?_
     refine At.zad ?_
     refine W.rg env [4] [] ?_
     refine W.ret ?_
     cases H
     exact At.ret env.ty rfl rfl nofun (.refl _) hval
theorem zf1 (p0:List Int) {r:List Int} (H:zbV p0=some r):CtrO Tryz.prog 56 [.buf 90000 p0.length] [(90000,bufL 3 1 zaa p0)] (.tup []) [(90000,bufL 3 1 zaa r)]:=
 zob (Go.Av.enters_of Tryz.func56 (by kernel_rfl) (c:=_) rfl) (Any.slices_Sort_int zjJ) (Any.slices_Sort_int_none zjJ) 3 p0 H
theorem zln (p0:Crew) (p1:(List (List Int))) (p2:(List (List Int))) {r:((List Int)×Int)} (H:zeX p0 p1 p2=some r):Ctr Tryz.prog 18 [.agg [roL 4 zal p0.Tasks,roL 1 zac p0.Travel,roL 3 zak p0.Hands],roL 1 zaj p1,roL 1 zaj p2] (.tup [roL 1 zaa r.1,.int .i64 (r.2)]):=by
 unfold zeX at H
 refine Ctr.zan (N:=96) Tryz.func18 (by kernel_rfl) (c:=_) rfl Tryz.ntmps18 rfl (fun w0 h0 hval=>?_)
 refine W.rg env [1,2,3] [3] ?_
 refine W.seq ?_
 refine W.seq ?_
 obtain ⟨y1,hy2,H⟩:=zaf H
 refine W.region env [] [⟨.tup [.po y1.1.isSome [roL 4 zal ((y1.1.getD default).Crew.Tasks),roL 1 zac ((y1.1.getD default).Crew.Travel),roL 3 zak ((y1.1.getD default).Crew.Hands),roL 1 zaa ((y1.1.getD default).next)],.int .i64 (y1.2)],[],0,[]⟩] rfl rfl rfl .nil (.free (zcS p0 p1 hy2) .nil) (At.keep (ts:=[1,2,3,9]) (ids:=[3]) rfl rfl ?_)
 refine At.zad ?_
 refine W.rg env [1,2,3,9,23] [3] ?_
 refine W.cond rfl (fun hb3=>?_) (fun hb3=>?_)
 · have H:=zai H hb3
   refine W.rg env [6,7] [] ?_
   refine W.ret ?_
   refine At.rthen ?_
   cases H
   exact At.ret env.ty rfl rfl nofun (Sim.tupL (.cons (Sim.nil _ _) (.cons (.refl _) .nil))) hval
 · have H:=zag H hb3
   refine W.skip ?_
   refine At.zad ?_
   refine W.seq ?_
   refine W.seq ?_
   obtain ⟨y4,hy5,H⟩:=zaf H
   refine W.region env [] [⟨.bool (y4),[],0,[]⟩] rfl rfl rfl .nil (.free (zh5 p1 p2 hy5) .nil) (At.keep (ts:=[1,2,3,28]) (ids:=[3]) rfl rfl ?_)
   refine At.zad ?_
   refine W.cond rfl (fun hb6=>?_) (fun hb6=>?_)
   · have H:=zai H hb6
     refine W.rg env [6,7] [] ?_
     refine W.ret ?_
     refine At.rthen ?_
     cases H
     exact At.ret env.ty rfl rfl nofun (Sim.tupL (.cons (Sim.nil _ _) (.cons (.refl _) .nil))) hval
   · have H:=zag H hb6
     refine W.skip ?_
     refine At.zad ?_
     refine W.rg env [1,2,3,10] [3] ?_
     refine W.seq ?_
     refine W.rg env [2,3,10,29,30,31] [3] ?_
     refine W.block ?_
     refine At.zeR 10 510 3 1 (e:=fun i=>zaa (([]:List Int).getD i default)) rfl rfl ?_
     refine At.keep (ts:=[2,3,10,29,30,31]) (ids:=[3,510]) rfl rfl ?_
     refine W.len (t:=29) rfl (fun (hn7:p1.length≤maxLen)=>?_)
     refine W.zah H (fun i7 (s7:(List Int))=>[(2,roL 1 zaj p2),(3,.lp 3 0),(10,.buf 510 (s7).length),(29,roL 1 zaj p1),(30,.int .i64 (((p1.length:Nat):Int))),(31,.int .i64 ((i7:Int)))]) (fun i7 (s7:(List Int))=>[(3,.cells [roL 4 zal p0.Tasks,roL 1 zac p0.Travel,roL 3 zak p0.Hands]),(510,bufL 3 1 zaa s7)]) (.cons .q (.cons .q (.cons .qb (.cons .q (.cons .qi (.cons .qi .nil)))))) (.cons .q (.cons .q .nil)) (fun k7 i7 s7 hle7 H1 H2 K0 hK7=>?_)
     refine W.rg env [2,3,10,29,30,31,32] [3,510] ?_
     refine W.seq ?_
     refine W.cond rfl (fun hb8=>?_) (fun hb8=>?_)
     · have hi7:i7<p1.length:=by have:=of_decide_eq_true hb8;omega
       have H:=H1 hi7
       refine W.skip ?_
       refine At.zad ?_
       refine W.seq ?_
       refine W.block ?_
       refine W.sr env [] [] [2,3,10,11,12,29,30,31] [3,510] rfl rfl rfl (.cons (⟨by omega,by omega⟩:0≤(i7:Int)∧(i7:Int)<((p1.length:Nat):Int)) .nil) .nil ?_
       obtain ⟨hc9,H⟩:=zab H
       obtain ⟨hc10,H⟩:=zab H
       refine W.sr env [] [] [2,3,10,11,12,13,29,30,31] [3,510] rfl rfl (by first|rfl|kernel_rfl) (.cons hc9 (.cons hc10 .nil)) .nil ?_
       refine W.seq ?_
       obtain ⟨hc11,H⟩:=zab H
       refine W.region env [] [] rfl rfl rfl (.cons hc11 .nil) .nil (At.keep (ts:=[2,3,10,11,12,13,29,30,31,45,46,47]) (ids:=[3,510]) rfl rfl ?_)
       refine At.slot (t:=45) (v:=roL 1 zaa ((p1.getD i7 default).drop 1)) (Sim.seg (Seg.drop zaa (p1.getD i7 default) 1)) ?_
       refine At.zad ?_
       refine W.block ?_
       refine At.keep (ts:=[2,3,10,11,12,13,29,30,31,45,46,47]) (ids:=[3,510]) rfl rfl ?_
       refine W.len (t:=45) rfl (fun (hn12:((p1.getD i7 default).drop 1).length≤maxLen)=>?_)
       refine W.zah H (fun i12 (s12:Int×(List Int))=>[(2,roL 1 zaj p2),(3,.lp 3 0),(10,.buf 510 (s12.2).length),(11,.int .i64 ((i7:Int))),(12,roL 1 zaa (p1.getD i7 default)),(13,.int .i64 (s12.1)),(29,roL 1 zaj p1),(30,.int .i64 (((p1.length:Nat):Int))),(31,.int .i64 ((i7:Int))),(45,roL 1 zaa ((p1.getD i7 default).drop 1)),(46,.int .i64 (((((p1.getD i7 default).drop 1).length:Nat):Int))),(47,.int .i64 ((i12:Int)))]) (fun i12 (s12:Int×(List Int))=>[(3,.cells [roL 4 zal p0.Tasks,roL 1 zac p0.Travel,roL 3 zak p0.Hands]),(510,bufL 3 1 zaa s12.2)]) (.cons .q (.cons .q (.cons .qb (.cons .qi (.cons .q (.cons .qi (.cons .q (.cons .qi (.cons .qi (.cons .q (.cons .qi (.cons .qi .nil)))))))))))) (.cons .q (.cons .q .nil)) (fun k12 i12 s12 hle12 H1 H2 K0 hK12=>?_)
       refine W.rg env [2,3,10,11,12,13,29,30,31,45,46,47,48] [3,510] ?_
       refine W.seq ?_
       refine W.cond rfl (fun hb13=>?_) (fun hb13=>?_)
       · have hi12:i12<((p1.getD i7 default).drop 1).length:=by have:=of_decide_eq_true hb13;omega
         have H:=H1 hi12
         refine W.skip ?_
         refine At.zad ?_
         refine W.seq ?_
         refine W.block ?_
         refine W.sr env [] [] [2,3,10,11,12,13,14,15,29,30,31,45,46,47] [3,510] rfl rfl rfl (.cons (⟨by omega,by omega⟩:0≤(i12:Int)∧(i12:Int)<((((p1.getD i7 default).drop 1).length:Nat):Int)) .nil) .nil ?_
         obtain ⟨hc14,H⟩:=zab H
         obtain ⟨hc15,H⟩:=zab H
         obtain ⟨hc16,H⟩:=zab H
         obtain ⟨hc17,H⟩:=zab H
         obtain ⟨hc18,H⟩:=zab H
         obtain ⟨hc19,H⟩:=zab H
         refine W.sr env [] [] [2,3,10,11,12,13,15,29,30,31,45,46,47] [3,510] rfl rfl (by first|rfl|kernel_rfl) (.cons hc14 (.cons hc15 (.cons hc16 (.cons hc17 (.cons hc18 (.cons hc19 .nil)))))) .nil ?_
         refine W.seq ?_
         obtain ⟨hc20,H⟩:=zab H
         refine W.sr env [] [] [2,3,10,11,12,13,15,29,30,31,45,46,47,78] [3,510] rfl rfl rfl (.cons hc20 .nil) .nil ?_
         refine W.zhG H (fun (s21:(List Int))=>[(2,roL 1 zaj p2),(3,.lp 3 0),(10,.buf 510 (s21).length),(11,.int .i64 ((i7:Int))),(12,roL 1 zaa (p1.getD i7 default)),(13,.int .i64 ((s12.1+((p0.Tasks.getD (((p1.getD i7 default).getD i12 default)).toNat default).Serve+((p2.getD i7 default).getD i12 default))))),(15,.int .i64 ((((p1.getD i7 default).drop 1).getD i12 default))),(29,roL 1 zaj p1),(30,.int .i64 (((p1.length:Nat):Int))),(31,.int .i64 ((i7:Int))),(45,roL 1 zaa ((p1.getD i7 default).drop 1)),(46,.int .i64 (((((p1.getD i7 default).drop 1).length:Nat):Int))),(47,.int .i64 ((i12:Int)))]) (fun (s21:(List Int))=>[(3,.cells [roL 4 zal p0.Tasks,roL 1 zac p0.Travel,roL 3 zak p0.Hands]),(510,bufL 3 1 zaa s21)]) (fun s21 H=>?_) (fun k21 H hK21=>?_)
         · obtain ⟨hc22,H⟩:=zab H
           refine W.region env [] [] rfl rfl rfl (.cons hc22 .nil) .nil (At.keep (ts:=[2,3,10,11,12,13,29,30,31,45,46,47]) (ids:=[3,510]) rfl rfl ?_)
           refine At.inb ?_
           refine At.zad ?_
           refine W.region env [] [] rfl rfl rfl (.cons (by unfold inI;have:=hn12;(try unfold maxLen at this);omega) .nil) .nil (At.keep (ts:=[2,3,10,11,12,13,29,30,31,45,46,47]) (ids:=[3,510]) rfl rfl ?_)
           refine At.zaE (At.keep (ts:=[2,3,10,11,12,13,29,30,31,45,46,47]) (ids:=[3,510]) rfl rfl ?_)
           exact At.conv (.cons .q (.cons .q (.cons .qb (.cons .qi (.cons .q (.cons .qi (.cons .q (.cons .qi (.cons .qi (.cons .q (.cons .qi (.cons .qi .nil)))))))))))) (.cons .q (.cons .q .nil)) (hK12 hi12 ((max (s12.1+((p0.Tasks.getD (((p1.getD i7 default).getD i12 default)).toNat default).Serve+((p2.getD i7 default).getD i12 default))) ((p0.Tasks.getD ((((p1.getD i7 default).drop 1).getD i12 default)).toNat default).At)),s21) H)
         · refine W.cond rfl (fun hb23=>?_) (fun hb23=>?_)
           · have H:=zai H hb23
             obtain ⟨hc24,H⟩:=zab H
             refine W.region env [] [] rfl rfl rfl (.cons (⟨by first|rfl|(simp;done)|omega|(simp;omega),by have:=hc24;first|simpa using this|(unfold room at this ⊢;simp at this ⊢;omega)⟩) .nil) .nil (At.keep (ts:=[2,3,10,11,12,13,15,29,30,31,45,46,47]) (ids:=[3,510]) rfl rfl ?_)
             refine At.zbo (.cons (.refl _) (.cons (y:=bufL 3 1 zaa (s12.2++([(((p1.getD i7 default).drop 1).getD i12 default)]:List Int))) (BSim.seg (Seg.push (Seg.refl zaa _) (Seg.lit (f:=zaa) (sz:=1) ([(((p1.getD i7 default).drop 1).getD i12 default)]:List Int) rfl rfl (fun _=>rfl)))) .nil)) ?_
             refine At.zaE (At.keep (ts:=[2,3,10,11,12,13,15,29,30,31,45,46,47]) (ids:=[3,510]) rfl rfl ?_)
             exact At.conv (.cons .q (.cons .q (.cons .qb (.cons .qi (.cons .q (.cons .qi (.cons .qi (.cons .q (.cons .qi (.cons .qi (.cons .q (.cons .qi (.cons .qi .nil))))))))))))) (.cons .q (.cons .q .nil)) (hK21 (s12.2++([(((p1.getD i7 default).drop 1).getD i12 default)]:List Int)) H)
           · have H:=zag H hb23
             refine W.skip ?_
             refine At.zaE (At.keep (ts:=[2,3,10,11,12,13,15,29,30,31,45,46,47]) (ids:=[3,510]) rfl rfl ?_)
             exact At.conv (.cons .q (.cons .q (.cons .qb (.cons .qi (.cons .q (.cons .qi (.cons .qi (.cons .q (.cons .qi (.cons .qi (.cons .q (.cons .qi (.cons .qi .nil))))))))))))) (.cons .q (.cons .q .nil)) (hK21 s12.2 H)
       · have H:=H2 (by have:=of_decide_eq_false hb13;omega)
         refine W.exit ?_
         refine At.xthen ?_
         refine At.xthen ?_
         refine At.xhere ?_
         refine At.inb ?_
         refine At.zad ?_
         refine W.region env [] [] rfl rfl rfl (.cons (by unfold inI;have:=hn7;(try unfold maxLen at this);omega) .nil) .nil (At.keep (ts:=[2,3,10,29,30,31]) (ids:=[3,510]) rfl rfl ?_)
         refine At.zaE (At.keep (ts:=[2,3,10,29,30,31]) (ids:=[3,510]) rfl rfl ?_)
         exact At.conv (.cons .q (.cons .q (.cons .qb (.cons .q (.cons .qi (.cons .qi .nil)))))) (.cons .q (.cons .q .nil)) (hK7 hi7 s12.2 H)
     · have H:=H2 (by have:=of_decide_eq_false hb8;omega)
       refine W.exit ?_
       refine At.xthen ?_
       refine At.xthen ?_
       refine At.xhere ?_
       refine At.zad ?_
       refine W.seq ?_
       obtain ⟨y25,hy26,H⟩:=zaf H
       obtain ⟨hc27,H⟩:=zab H
       refine W.region env [] [⟨.tup [],[(510,bufL 3 1 zaa y25)],0,[510]⟩] rfl rfl (by kernel_rfl) .nil (.free (CtrO.sim (CtrO.ren (zf1 s7 hy26) [(90000,510)]) (.cons .qc .nil) (.cons (.refl _) .nil)) .nil) (At.keep (ts:=[10]) (ids:=[510]) rfl rfl ?_)
       refine At.zad ?_
       refine W.rg env [6,7] [510] ?_
       refine W.ret ?_
       cases H
       exact At.ret env.ty rfl rfl (fun q hq=>by cases hq;exact (by first|rfl|(simp;done)|omega|(simp;omega))) (.refl _) hval
theorem ze0 (p0:gasoliertop_Town) (p1:Night) {r:Truth} (H:zbC p0 p1=some r):Ctr Tryz.prog 19 [.agg [roL 3 zaF p0.Ways,roL 3 zaF p0.Lamps,.int .i64 (p0.Law.x0),.int .i64 (p0.Law.x1),.int .i64 (p0.Law.x2),.int .i64 (p0.Law.x3),.int .i64 (p0.Night.x0),.int .i64 (p0.Night.x1),.int .i64 (p0.Night.x2),.int .i64 (p0.Night.x3),roL 2 zbb p0.Hands],.agg [.int .i64 (p1.No),.int .i64 (p1.Set.Lo),.int .i64 (p1.Set.Hi),.int .i64 (p1.Rise.Lo),.int .i64 (p1.Rise.Hi),.int .i64 (p1.Light.Lo),.int .i64 (p1.Light.Hi),.int .i64 (p1.Fog)]] (.agg [.int .i64 (r.Set),.int .i64 (r.Rise),.int .i64 (r.Light),.bool (r.Fog)]):=by
 unfold zbC at H
 refine Ctr.zan (N:=45) Tryz.func19 (by kernel_rfl) (c:=_) rfl Tryz.ntmps19 rfl (fun w0 h0 hval=>?_)
 refine W.rg env [2,3,4] [2,3,4] ?_
 refine W.seq ?_
 obtain ⟨hc1,H⟩:=zab H
 obtain ⟨hc2,H⟩:=zab H
 obtain ⟨y3,hy4,H⟩:=zaf H
 obtain ⟨hc5,H⟩:=zab H
 obtain ⟨y6,hy7,H⟩:=zaf H
 obtain ⟨hc8,H⟩:=zab H
 refine W.region env [] [⟨.int .i64 (y3),[],0,[]⟩,⟨.int .i64 (y6),[],0,[]⟩] rfl rfl (by kernel_rfl) (.cons (by decide) (.cons hc1 (.cons hc2 (.cons hc5 (.cons (by decide) (.cons hc8 .nil)))))) (.free (zax p0.Night.x3 ((p1.Set.Hi - p1.Set.Lo)+1) hy4) (.free (zax p0.Law.x3 6 hy7) .nil)) (At.keep (ts:=[2,3,4,5]) (ids:=[2,3,4,5]) rfl rfl ?_)
 refine At.zad ?_
 refine W.seq ?_
 obtain ⟨y9,hy10,H⟩:=zaf H
 refine W.region env [] [⟨.int .i64 (y9),[],0,[]⟩] rfl rfl rfl (.cons id (.cons id (.cons id (.cons (fun _=>by decide) (.cons id (.cons id (.cons id (.cons id (.cons id (.cons (fun hW h=>by revert hW h;first|(simp +contextual;done)|grind) (.cons (fun h=>by rw [h];rfl) .nil))))))))))) (.on (fun hW=>zax p0.Night.x3 2 (zai hy10 hW)) .nil) (At.keep (ts:=[4,5]) (ids:=[4,5]) rfl rfl ?_)
 refine At.zad ?_
 refine W.rg env [4] [4] ?_
 refine W.ret ?_
 cases H
 exact At.ret env.ty rfl rfl nofun (.refl _) hval
theorem zlo (p0:Bylaw) (p1:Int) (p2:Night) (p3:Int) {r:(Range×Int)} (H:ze4 p0 p1 p2 p3=some r):Ctr Tryz.prog 20 [.agg [roL 11 zaK p0.Versions,roL 5 zaI p0.Streets],.int .i64 (p1),.agg [.int .i64 (p2.No),.int .i64 (p2.Set.Lo),.int .i64 (p2.Set.Hi),.int .i64 (p2.Rise.Lo),.int .i64 (p2.Rise.Hi),.int .i64 (p2.Light.Lo),.int .i64 (p2.Light.Hi),.int .i64 (p2.Fog)],.int .i64 (p3)] (.tup [.agg [.int .i64 (r.1.Lo),.int .i64 (r.1.Hi)],.int .i64 (r.2)]):=by
 unfold ze4 at H
 refine Ctr.zan (N:=30) Tryz.func20 (by kernel_rfl) (c:=_) rfl Tryz.ntmps20 rfl (fun w0 h0 hval=>?_)
 refine W.rg env [1,3,4,6,8] [4,6,8] ?_
 refine W.seq ?_
 obtain ⟨y1,hy2,H⟩:=zaf H
 refine W.region env [] [⟨.tup [.agg [.int .i64 (y1.1.v.Source),.int .i64 (y1.1.v.Class),.int .i64 (y1.1.v.From),.int .i64 (y1.1.v.On.Lo),.int .i64 (y1.1.v.On.Hi),.int .i64 (y1.1.v.Off.Lo),.int .i64 (y1.1.v.Off.Hi),.int .i64 (y1.1.v.Moon),.int .i64 (y1.1.v.Fog),.int .i64 (y1.1.v.Known),.int .i64 (y1.1.v.Until),.int .i64 (y1.1.n.No),.int .i64 (y1.1.n.Set.Lo),.int .i64 (y1.1.n.Set.Hi),.int .i64 (y1.1.n.Rise.Lo),.int .i64 (y1.1.n.Rise.Hi),.int .i64 (y1.1.n.Light.Lo),.int .i64 (y1.1.n.Light.Hi),.int .i64 (y1.1.n.Fog)],.int .i64 (y1.2)],[],0,[]⟩] rfl rfl rfl .nil (.free (zgT p0 p1 p2 p3 hy2) .nil) (At.keep (ts:=[8,10,11]) (ids:=[8,10]) rfl rfl ?_)
 refine At.zad ?_
 refine W.seq ?_
 refine W.rg env [8,10,11,21] [8,10] ?_
 refine W.cond rfl (fun hb3=>?_) (fun hb3=>?_)
 · have H:=zai H hb3
   refine W.rg env [8,9] [8] ?_
   refine W.ret ?_
   refine At.rthen ?_
   cases H
   exact At.ret env.ty rfl rfl nofun (.refl _) hval
 · have H:=zag H hb3
   refine W.skip ?_
   refine At.zad ?_
   refine W.seq ?_
   obtain ⟨y4,hy5,H⟩:=zaf H
   refine W.region env [] [⟨.tup [.agg [.int .i64 (y4.1.Lo),.int .i64 (y4.1.Hi)],.int .i64 (y4.2)],[],0,[]⟩] rfl rfl rfl .nil (.free (zcb y1.1 (zaO y1.1) 58 ([.agg [.int .i64 (y1.1.v.Source),.int .i64 (y1.1.v.Class),.int .i64 (y1.1.v.From),.int .i64 (y1.1.v.On.Lo),.int .i64 (y1.1.v.On.Hi),.int .i64 (y1.1.v.Off.Lo),.int .i64 (y1.1.v.Off.Hi),.int .i64 (y1.1.v.Moon),.int .i64 (y1.1.v.Fog),.int .i64 (y1.1.v.Known),.int .i64 (y1.1.v.Until),.int .i64 (y1.1.n.No),.int .i64 (y1.1.n.Set.Lo),.int .i64 (y1.1.n.Set.Hi),.int .i64 (y1.1.n.Rise.Lo),.int .i64 (y1.1.n.Rise.Hi),.int .i64 (y1.1.n.Light.Lo),.int .i64 (y1.1.n.Light.Hi),.int .i64 (y1.1.n.Fog)]]) [] (fun  r h=>zdL y1.1 h) hy5) .nil) (At.keep (ts:=[8,9]) (ids:=[8]) rfl rfl ?_)
   refine At.zad ?_
   refine W.ret ?_
   cases H
   exact At.ret env.ty rfl rfl nofun (.refl _) hval
theorem zh7 (p0:Truth):Ctr Tryz.prog 59 [.agg [.int .i64 (p0.Set),.int .i64 (p0.Rise),.int .i64 (p0.Light),.bool (p0.Fog)]] (.bool ((zcc p0))):=by
 obtain ⟨r,H⟩:∃ r,zcc p0=r:=⟨_,rfl⟩
 rw [H]
 unfold zcc at H
 refine Ctr.zan (N:=23) Tryz.func59 (by kernel_rfl) (c:=_) rfl Tryz.ntmps59 rfl (fun w0 h0 hval=>?_)
 refine W.rg env [1] [1] ?_
 refine W.sr env [] [⟨.bool ((zau p0.Light 0 1000)),[],0,[]⟩] [2] [] rfl rfl rfl (.cons id (.cons id (.cons id (.cons id (.cons id (.cons id (.cons id (.cons id (.cons id (.cons id (.cons id .nil))))))))))) (.on (fun hW=>za6 p0.Light 0 1000) .nil) ?_
 refine W.ret ?_
 cases H
 exact At.ret env.ty rfl rfl nofun (.refl _) hval
theorem zg2 (p0:Times):Ctr Tryz.prog 60 [.agg [.int .i64 (p0.On),.int .i64 (p0.Off)]] (.bool ((zbR p0))):=by
 obtain ⟨r,H⟩:∃ r,zbR p0=r:=⟨_,rfl⟩
 rw [H]
 unfold zbR at H
 refine Ctr.zan (N:=23) Tryz.func60 (by kernel_rfl) (c:=_) rfl Tryz.ntmps60 rfl (fun w0 h0 hval=>?_)
 refine W.rg env [1] [1] ?_
 refine W.sr env [] [] [2] [] rfl rfl rfl (.cons id (.cons id (.cons id (.cons id (.cons id (.cons id (.cons id (.cons id (.cons (fun hW h=>by revert hW h;first|(simp +contextual;done)|grind) (.cons id (.cons id (.cons id (.cons id (.cons (fun hW h=>by revert hW h;first|(simp +contextual;done)|grind) (.cons (fun h=>by rw [h];rfl) .nil))))))))))))))) .nil ?_
 refine W.ret ?_
 cases H
 exact At.ret env.ty rfl rfl nofun (.refl _) hval
theorem zij (p0:Version) (p1:Truth) (p2:Times) {r:Bool} (H:zdo p0 p1 p2=some r):Ctr Tryz.prog 63 [.agg [.int .i64 (p0.Source),.int .i64 (p0.Class),.int .i64 (p0.From),.int .i64 (p0.On.Lo),.int .i64 (p0.On.Hi),.int .i64 (p0.Off.Lo),.int .i64 (p0.Off.Hi),.int .i64 (p0.Moon),.int .i64 (p0.Fog),.int .i64 (p0.Known),.int .i64 (p0.Until)],.agg [.int .i64 (p1.Set),.int .i64 (p1.Rise),.int .i64 (p1.Light),.bool (p1.Fog)],.agg [.int .i64 (p2.On),.int .i64 (p2.Off)]] (.bool (r)):=by
 unfold zdo at H
 refine Ctr.zan (N:=63) Tryz.func63 (by kernel_rfl) (c:=_) rfl Tryz.ntmps63 rfl (fun w0 h0 hval=>?_)
 refine W.rg env [3,4,5] [3,4,5] ?_
 refine W.seq ?_
 refine W.sr env [] [] [3,4,5,17] [3,4,5] rfl rfl rfl (.cons id (.cons id (.cons id (.cons id (.cons id .nil))))) .nil ?_
 refine W.cond rfl (fun hb1=>?_) (fun hb1=>?_)
 · have H:=zai H hb1
   refine W.rg env [6] [] ?_
   refine W.ret ?_
   refine At.rthen ?_
   cases H
   exact At.ret env.ty rfl rfl nofun (.refl _) hval
 · have H:=zag H hb1
   refine W.skip ?_
   refine At.zad ?_
   refine W.rg env [3,4,5,7] [3,4,5] ?_
   refine W.seq ?_
   refine W.rg env [3,4,5,7,19] [3,4,5] ?_
   refine W.zhG H (fun (s2:Int)=>[(3,.lp 3 0),(4,.lp 4 0),(5,.lp 5 0),(7,.int .i64 (s2))]) (fun (s2:Int)=>[(3,.cells [.int .i64 (p0.Source),.int .i64 (p0.Class),.int .i64 (p0.From),.int .i64 (p0.On.Lo),.int .i64 (p0.On.Hi),.int .i64 (p0.Off.Lo),.int .i64 (p0.Off.Hi),.int .i64 (p0.Moon),.int .i64 (p0.Fog),.int .i64 (p0.Known),.int .i64 (p0.Until)]),(4,.cells [.int .i64 (p1.Set),.int .i64 (p1.Rise),.int .i64 (p1.Light),.bool (p1.Fog)]),(5,.cells [.int .i64 (p2.On),.int .i64 (p2.Off)])]) (fun s2 H=>?_) (fun k2 H hK2=>?_)
   · obtain ⟨hc3,H⟩:=zab H
     obtain ⟨hc4,H⟩:=zab H
     obtain ⟨hc5,H⟩:=zab H
     obtain ⟨hc6,H⟩:=zab H
     obtain ⟨hc7,H⟩:=zab H
     obtain ⟨hc8,H⟩:=zab H
     refine W.sr env [] [⟨.bool ((zau p2.On ((p1.Set+p0.On.Lo) - s2) ((p1.Set+p0.On.Hi) - s2))),[],0,[]⟩,⟨.bool ((zau p2.Off (p1.Rise - p0.Off.Hi) (p1.Rise - p0.Off.Lo))),[],0,[]⟩] [6] [] rfl rfl rfl (.cons id (.cons id (.cons id (.cons id (.cons hc3 (.cons id (.cons id (.cons hc4 (.cons id (.cons id (.cons id (.cons id (.cons id (.cons hc5 (.cons id (.cons id (.cons hc6 (.cons id (.cons id (.cons id (.cons id (.cons id (.cons id (.cons id (.cons id (.cons id (.cons id (.cons hc7 (.cons id (.cons id (.cons id (.cons id (.cons id (.cons hc8 (.cons id (.cons id (.cons id (.cons id (.cons id (.cons id .nil)))))))))))))))))))))))))))))))))))))))) (.on (fun hW=>za6 p2.On ((p1.Set+p0.On.Lo) - s2) ((p1.Set+p0.On.Hi) - s2)) (.on (fun hW=>za6 p2.Off (p1.Rise - p0.Off.Hi) (p1.Rise - p0.Off.Lo)) .nil)) ?_
     refine W.ret ?_
     cases H
     exact At.ret env.ty rfl rfl nofun (.refl _) hval
   · refine W.cond rfl (fun hb9=>?_) (fun hb9=>?_)
     · have H:=zai H hb9
       refine W.region env [] [] rfl rfl rfl .nil .nil (At.keep (ts:=[3,4,5,7]) (ids:=[3,4,5]) rfl rfl ?_)
       refine At.zaE (At.keep (ts:=[3,4,5,7]) (ids:=[3,4,5]) rfl rfl ?_)
       exact At.conv (.cons .q (.cons .q (.cons .q (.cons .qi .nil)))) (.cons .q (.cons .q (.cons .q .nil))) (hK2 p0.Fog H)
     · have H:=zag H hb9
       refine W.skip ?_
       refine At.zaE (At.keep (ts:=[3,4,5,7]) (ids:=[3,4,5]) rfl rfl ?_)
       exact At.conv (.cons .q (.cons .q (.cons .q (.cons .qi .nil)))) (.cons .q (.cons .q (.cons .q .nil))) (hK2 0 H)
theorem zkr (p0:Bylaw) (p1:Int) (p2:Int) (p3:Truth) (p4:Times) (p5:Int) {r:(Bool×Int)} (H:zen p0 p1 p2 p3 p4 p5=some r):Ctr Tryz.prog 21 [.agg [roL 11 zaK p0.Versions,roL 5 zaI p0.Streets],.int .i64 (p1),.int .i64 (p2),.agg [.int .i64 (p3.Set),.int .i64 (p3.Rise),.int .i64 (p3.Light),.bool (p3.Fog)],.agg [.int .i64 (p4.On),.int .i64 (p4.Off)],.int .i64 (p5)] (.tup [.bool (r.1),.int .i64 (r.2)]):=by
 unfold zen at H
 refine Ctr.zan (N:=56) Tryz.func21 (by kernel_rfl) (c:=_) rfl Tryz.ntmps21 rfl (fun w0 h0 hval=>?_)
 refine W.rg env [1,2,5,6,9,10] [6,9,10] ?_
 refine W.seq ?_
 obtain ⟨y1,hy2,H⟩:=zaf H
 refine W.region env [] [⟨.int .i64 (y1),[],0,[]⟩] rfl rfl rfl .nil (.free (zeC p0 hy2) .nil) (At.keep (ts:=[1,2,5,6,9,10,14]) (ids:=[6,9,10]) rfl rfl ?_)
 refine At.zad ?_
 refine W.seq ?_
 refine W.block ?_
 refine W.rg env [1,2,5,6,9,10,14,18] [6,9,10] ?_
 refine W.cond rfl (fun hb3=>?_) (fun hb3=>?_)
 · have H:=zai H hb3
   refine W.rg env [12,13] [] ?_
   refine W.ret ?_
   refine At.rinb ?_
   refine At.rthen ?_
   cases H
   exact At.ret env.ty rfl rfl nofun (.refl _) hval
 · have H:=zag H hb3
   refine W.sr env [] [⟨.bool ((zcc p3)),[],0,[]⟩] [1,2,5,6,9,10,22] [6,9,10] rfl rfl rfl .nil (.free (zh7 p3) .nil) ?_
   refine W.cond rfl (fun hb4=>?_) (fun hb4=>?_)
   · have H:=zai H hb4
     refine W.rg env [12,13] [] ?_
     refine W.ret ?_
     refine At.rinb ?_
     refine At.rthen ?_
     cases H
     exact At.ret env.ty rfl rfl nofun (.refl _) hval
   · have H:=zag H hb4
     refine W.sr env [] [⟨.bool ((zbR p4)),[],0,[]⟩] [1,2,5,6,9,10,26] [6,9,10] rfl rfl rfl .nil (.free (zg2 p4) .nil) ?_
     refine W.cond rfl (fun hb5=>?_) (fun hb5=>?_)
     · have H:=zai H hb5
       refine W.rg env [12,13] [] ?_
       refine W.ret ?_
       refine At.rinb ?_
       refine At.rthen ?_
       cases H
       exact At.ret env.ty rfl rfl nofun (.refl _) hval
     · have H:=zag H hb5
       refine W.sr env [] [⟨.bool ((zaJ p2)),[],0,[]⟩,⟨.bool ((zaJ p5)),[],0,[]⟩] [1,2,5,6,9,10,30] [6,9,10] rfl rfl rfl (.cons id (.cons id (.cons (fun h=>by rw [h];rfl) .nil))) (.free (zb4 p2) (.on (fun hW=>zb4 p5) .nil)) ?_
       refine W.cond rfl (fun hb6=>?_) (fun hb6=>?_)
       · have H:=zai H hb6
         refine W.rg env [12,13] [] ?_
         refine W.ret ?_
         refine At.rinb ?_
         refine At.rthen ?_
         cases H
         exact At.ret env.ty rfl rfl nofun (.refl _) hval
       · have H:=zag H hb6
         refine W.skip ?_
         refine At.inb ?_
         refine At.zad ?_
         refine W.seq ?_
         obtain ⟨y7,hy8,H⟩:=zaf H
         refine W.region env [] [⟨.tup [.agg [.int .i64 (y7.1.v.Source),.int .i64 (y7.1.v.Class),.int .i64 (y7.1.v.From),.int .i64 (y7.1.v.On.Lo),.int .i64 (y7.1.v.On.Hi),.int .i64 (y7.1.v.Off.Lo),.int .i64 (y7.1.v.Off.Hi),.int .i64 (y7.1.v.Moon),.int .i64 (y7.1.v.Fog),.int .i64 (y7.1.v.Known),.int .i64 (y7.1.v.Until),.int .i64 (y7.1.n.No),.int .i64 (y7.1.n.Set.Lo),.int .i64 (y7.1.n.Set.Hi),.int .i64 (y7.1.n.Rise.Lo),.int .i64 (y7.1.n.Rise.Hi),.int .i64 (y7.1.n.Light.Lo),.int .i64 (y7.1.n.Light.Hi),.int .i64 (y7.1.n.Fog)],.int .i64 (y7.2)],[],0,[]⟩] rfl rfl rfl .nil (.free (zgc p0 p1 (⟨p2,(⟨0,0⟩:Range),(⟨0,0⟩:Range),(⟨0,0⟩:Range),0⟩:Night) p5 hy8) .nil) (At.keep (ts:=[9,10,14,15]) (ids:=[9,10,15]) rfl rfl ?_)
         refine At.zad ?_
         refine W.seq ?_
         refine W.rg env [9,10,14,15,49] [9,10,15] ?_
         refine W.cond rfl (fun hb9=>?_) (fun hb9=>?_)
         · have H:=zai H hb9
           refine W.rg env [12,13] [] ?_
           refine W.ret ?_
           refine At.rthen ?_
           cases H
           exact At.ret env.ty rfl rfl nofun (.refl _) hval
         · have H:=zag H hb9
           refine W.skip ?_
           refine At.zad ?_
           refine W.seq ?_
           obtain ⟨y10,hy11,H⟩:=zaf H
           refine W.region env [] [⟨.bool (y10),[],0,[]⟩] rfl rfl rfl .nil (.free (zij y7.1.v p3 p4 hy11) .nil) (At.keep (ts:=[12,13]) (ids:=[]) rfl rfl ?_)
           refine At.zad ?_
           refine W.ret ?_
           cases H
           exact At.ret env.ty rfl rfl nofun (.refl _) hval
theorem zdT (p0:crew_shift) {r:(List Int)} (H:zaW p0=some r):Ctr Tryz.prog 64 [.agg [.po p0.plan.isSome [roL 4 zal ((p0.plan.getD default).Crew.Tasks),roL 1 zac ((p0.plan.getD default).Crew.Travel),roL 3 zak ((p0.plan.getD default).Crew.Hands),roL 1 zaa ((p0.plan.getD default).next)],roL 1 zaj p0.rounds]] (roL 1 zaa r):=by
 unfold zaW at H
 refine Ctr.zan (N:=19) Tryz.func64 (by kernel_rfl) (c:=_) rfl Tryz.ntmps64 rfl (fun w0 h0 hval=>?_)
 refine W.rg env [1] [1] ?_
 refine W.seq ?_
 obtain ⟨hc1,H⟩:=zab H
 refine W.region env [] [] rfl rfl rfl (.cons hc1 .nil) .nil (At.keep (ts:=[3]) (ids:=[8]) rfl rfl ?_)
 refine At.zbo (.cons (y:=bufL 3 1 zaa (List.replicate (((p0.rounds.length:Nat):Int)).toNat (0:Int))) (BSim.seg (Seg.made (f:=zaa) 0 rfl)) .nil) ?_
 refine At.zad ?_
 refine W.seq ?_
 refine W.sr env [] [] [3,10,11] [8] rfl rfl rfl (.cons (by first|rfl|(simp;done)|omega|(simp;omega)) .nil) .nil ?_
 refine W.block ?_
 refine At.keep (ts:=[3,10,11]) (ids:=[8]) rfl rfl ?_
 obtain ⟨hn2,H⟩:=zab H
 refine W.zah H (fun i2 (s2:(List Int))=>[(3,.buf 8 (s2).length),(10,.int .i64 ((((List.replicate (((p0.rounds.length:Nat):Int)).toNat (0:Int)).length:Nat):Int))),(11,.int .i64 ((i2:Int)))]) (fun i2 (s2:(List Int))=>[(8,bufL 3 1 zaa s2)]) (.cons .qb (.cons .qi (.cons .qi .nil))) (.cons .q .nil) (fun k2 i2 s2 hle2 H1 H2 K0 hK2=>?_)
 refine W.rg env [3,10,11,12] [8] ?_
 refine W.seq ?_
 refine W.cond rfl (fun hb3=>?_) (fun hb3=>?_)
 · have hi2:i2<(List.replicate (((p0.rounds.length:Nat):Int)).toNat (0:Int)).length:=by have:=of_decide_eq_true hb3;omega
   have H:=H1 hi2
   refine W.skip ?_
   refine At.zad ?_
   refine W.seq ?_
   refine W.block ?_
   refine W.rg env [3,4,10,11] [8] ?_
   obtain ⟨hc4,H⟩:=zab H
   refine W.region env [] [] rfl rfl rfl (.cons (⟨by first|rfl|(simp;done)|omega|(simp;omega),hc4⟩) (.cons (⟨by first|rfl|(simp;done)|omega|(simp;omega),(by have:=hc4;first|omega|(simp only [List.length_set];omega)|(simp only [Int.toNat_natCast] at *;omega)|(simp at this ⊢;omega))⟩) .nil)) .nil (At.keep (ts:=[3,10,11]) (ids:=[8]) rfl rfl ?_)
   refine At.zbo (.cons (y:=bufL 3 1 zaa (s2.set i2 (-1))) (BSim.seg (Seg.set (Seg.refl zaa _) (-1) rfl)) .nil) ?_
   refine At.inb ?_
   refine At.zad ?_
   refine W.region env [] [] rfl rfl rfl (.cons (by unfold inI;have:=hn2;(try unfold maxLen at this);omega) .nil) .nil (At.keep (ts:=[3,10,11]) (ids:=[8]) rfl rfl ?_)
   refine At.zaE (At.keep (ts:=[3,10,11]) (ids:=[8]) rfl rfl ?_)
   exact At.conv (.cons .qb (.cons .qi (.cons .qi .nil))) (.cons .q .nil) (hK2 hi2 (s2.set i2 (-1)) H)
 · have H:=H2 (by have:=of_decide_eq_false hb3;omega)
   refine W.exit ?_
   refine At.xthen ?_
   refine At.xthen ?_
   refine At.xhere ?_
   refine At.zad ?_
   refine W.rg env [2] [8] ?_
   refine W.ret ?_
   cases H
   exact At.ret env.ty rfl rfl (fun q hq=>by cases hq;exact (by first|rfl|(simp;done)|omega|(simp;omega))) (.refl _) hval
theorem zcp (p0:crew_shift) {r:(List Int)} (H:zaX p0=some r):Ctr Tryz.prog 66 [.agg [.po p0.plan.isSome [roL 4 zal ((p0.plan.getD default).Crew.Tasks),roL 1 zac ((p0.plan.getD default).Crew.Travel),roL 3 zak ((p0.plan.getD default).Crew.Hands),roL 1 zaa ((p0.plan.getD default).next)],roL 1 zaj p0.rounds]] (roL 1 zaa r):=by
 unfold zaX at H
 refine Ctr.zan (N:=17) Tryz.func66 (by kernel_rfl) (c:=_) rfl Tryz.ntmps66 rfl (fun w0 h0 hval=>?_)
 refine W.rg env [1] [1] ?_
 refine W.rg env [1,3] [1] ?_
 refine W.seq ?_
 refine W.rg env [3,7,8] [] ?_
 refine W.block ?_
 refine At.zeR 3 503 3 1 (e:=fun i=>zaa (([]:List Int).getD i default)) rfl rfl ?_
 refine At.keep (ts:=[3,7,8]) (ids:=[503]) rfl rfl ?_
 obtain ⟨hn1,H⟩:=zab H
 refine W.zah H (fun i1 (s1:(List Int))=>[(3,.buf 503 (s1).length),(7,.int .i64 (((p0.rounds.length:Nat):Int))),(8,.int .i64 ((i1:Int)))]) (fun i1 (s1:(List Int))=>[(503,bufL 3 1 zaa s1)]) (.cons .qb (.cons .qi (.cons .qi .nil))) (.cons .q .nil) (fun k1 i1 s1 hle1 H1 H2 K0 hK1=>?_)
 refine W.rg env [3,7,8,9] [503] ?_
 refine W.seq ?_
 refine W.cond rfl (fun hb2=>?_) (fun hb2=>?_)
 · have hi1:i1<p0.rounds.length:=by have:=of_decide_eq_true hb2;omega
   have H:=H1 hi1
   refine W.skip ?_
   refine At.zad ?_
   refine W.seq ?_
   refine W.block ?_
   refine W.rg env [3,4,7,8] [503] ?_
   obtain ⟨hc3,H⟩:=zab H
   refine W.region env [] [] rfl rfl rfl (.cons (⟨by first|rfl|(simp;done)|omega|(simp;omega),by have:=hc3;first|simpa using this|(unfold room at this ⊢;simp at this ⊢;omega)⟩) .nil) .nil (At.keep (ts:=[3,7,8]) (ids:=[503]) rfl rfl ?_)
   refine At.zbo (.cons (y:=bufL 3 1 zaa (s1++([(i1:Int)]:List Int))) (BSim.seg (Seg.push (Seg.refl zaa _) (Seg.lit (f:=zaa) (sz:=1) ([(i1:Int)]:List Int) rfl rfl (fun _=>rfl)))) .nil) ?_
   refine At.inb ?_
   refine At.zad ?_
   refine W.region env [] [] rfl rfl rfl (.cons (by unfold inI;have:=hn1;(try unfold maxLen at this);omega) .nil) .nil (At.keep (ts:=[3,7,8]) (ids:=[503]) rfl rfl ?_)
   refine At.zaE (At.keep (ts:=[3,7,8]) (ids:=[503]) rfl rfl ?_)
   exact At.conv (.cons .qb (.cons .qi (.cons .qi .nil))) (.cons .q .nil) (hK1 hi1 (s1++([(i1:Int)]:List Int)) H)
 · have H:=H2 (by have:=of_decide_eq_false hb2;omega)
   refine W.exit ?_
   refine At.xthen ?_
   refine At.xthen ?_
   refine At.xhere ?_
   refine At.zad ?_
   refine W.rg env [2] [503] ?_
   refine W.ret ?_
   cases H
   exact At.ret env.ty rfl rfl (fun q hq=>by cases hq;exact (by first|rfl|(simp;done)|omega|(simp;omega))) (.refl _) hval
theorem zcz (p0:crew_plan) (p1:Hand) (p2:(List Int)) {r:Bool} (H:za4 p0 p1 p2=some r):Ctr Tryz.prog 67 [.rp [roL 4 zal p0.Crew.Tasks,roL 1 zac p0.Crew.Travel,roL 3 zak p0.Crew.Hands,roL 1 zaa p0.next],.agg [.int .i64 (p1.Id),.int .i64 (p1.From),.int .i64 (p1.To)],roL 1 zaa p2] (.bool (r)):=by
 unfold za4 at H
 refine Ctr.zan (N:=47) Tryz.func67 (by kernel_rfl) (c:=_) rfl Tryz.ntmps67 rfl (fun w0 h0 hval=>?_)
 refine W.rg env [0,2,4] [4] ?_
 obtain ⟨hc1,H⟩:=zab H
 obtain ⟨hc2,H⟩:=zab H
 obtain ⟨hc3,H⟩:=zab H
 obtain ⟨hc4,H⟩:=zab H
 obtain ⟨hc5,H⟩:=zab H
 refine W.sr env [] [] [4,7,8] [4,7,8] rfl rfl (by first|rfl|kernel_rfl) (.cons hc1 (.cons hc2 (.cons hc3 (.cons hc4 (.cons hc5 .nil))))) .nil ?_
 obtain ⟨hc6,H⟩:=zab H
 refine W.sr env [] [] [6] [] rfl rfl rfl (.cons id (.cons id (.cons id (.cons hc6 (.cons id (.cons id (.cons id (.cons id (.cons id .nil))))))))) .nil ?_
 refine W.ret ?_
 cases H
 exact At.ret env.ty rfl rfl nofun (.refl _) hval
theorem zeE (fuel:Nat):∀ (n:Nat) (p0:Int) (c0:crew_shift) (c1:Int) (c2:(List Int)) (c3:(List Int)) {r:(Bool×Int×(List Int))} (H:zbc fuel n p0 c0 c1 c2 c3=some r),CtrO Tryz.prog 104 [.int .i64 (p0),.lp 90000 0,.lp 90001 0,.lp 90002 0,.lp 90004 0,.lp 90005 0] [(90000,.cells [.po c0.plan.isSome [roL 4 zal ((c0.plan.getD default).Crew.Tasks),roL 1 zac ((c0.plan.getD default).Crew.Travel),roL 3 zak ((c0.plan.getD default).Crew.Hands),roL 1 zaa ((c0.plan.getD default).next)],roL 1 zaj c0.rounds]),(90001,.cells [.int .i64 (c1)]),(90002,.cells [.buf 90003 (c2).length]),(90003,bufL 3 1 zaa c2),(90004,.cells [roL 1 zaa c3]),(90005,.cells [.fn (.func 104) [] [.lp 90000 0,.lp 90001 0,.lp 90002 0,.lp 90004 0,.lp 90005 0]])] (.bool (r.1)) [(90000,.cells [.po c0.plan.isSome [roL 4 zal ((c0.plan.getD default).Crew.Tasks),roL 1 zac ((c0.plan.getD default).Crew.Travel),roL 3 zak ((c0.plan.getD default).Crew.Hands),roL 1 zaa ((c0.plan.getD default).next)],roL 1 zaj c0.rounds]),(90001,.cells [.int .i64 (r.2.1)]),(90002,.cells [.buf 90003 (r.2.2).length]),(90003,bufL 3 1 zaa r.2.2),(90004,.cells [roL 1 zaa c3]),(90005,.cells [.fn (.func 104) [] [.lp 90000 0,.lp 90001 0,.lp 90002 0,.lp 90004 0,.lp 90005 0]])]:=by
 intro n;induction n with
 | zero=>intro p0 c0 c1 c2 c3 r H;cases H
 | succ n ih=>
  intro p0 c0 c1 c2 c3 r H
  have H:zbl fuel (zbc fuel n) p0 c0 c1 c2 c3=some r:=H
  unfold zbl at H
  refine CtrL.zan (N:=81) Tryz.func104 (by kernel_rfl) (c:=_) rfl Tryz.ntmps104 rfl rfl (fun w0 h0 ρb hval hdom hent=>?_)
  refine W.rg env [0,1,2,3,4,5] [90000,90001,90002,90003,90004,90005] ?_
  refine W.seq ?_
  obtain ⟨hc1,H⟩:=zab H
  refine W.sr env [] [] [0,1,2,3,4,5,15,16,17] [90000,90001,90002,90003,90004,90005] rfl rfl rfl (.cons hc1 .nil) .nil ?_
  refine W.block ?_
  refine At.keep (ts:=[0,1,2,3,4,5,15,16,17]) (ids:=[90000,90001,90002,90003,90004,90005]) rfl rfl ?_
  refine W.len (t:=15) rfl (fun (hn2:((c0.plan.getD default).Crew.Hands).length≤maxLen)=>?_)
  refine W.zah H (fun i2 (s2:(List Int)×Int)=>[(0,.int .i64 (p0)),(1,.lp 90000 0),(2,.lp 90001 0),(3,.lp 90002 0),(4,.lp 90004 0),(5,.lp 90005 0),(15,roL 3 zak ((c0.plan.getD default).Crew.Hands)),(16,.int .i64 (((((c0.plan.getD default).Crew.Hands).length:Nat):Int))),(17,.int .i64 ((i2:Int)))]) (fun i2 (s2:(List Int)×Int)=>[(90000,.cells [.po c0.plan.isSome [roL 4 zal ((c0.plan.getD default).Crew.Tasks),roL 1 zac ((c0.plan.getD default).Crew.Travel),roL 3 zak ((c0.plan.getD default).Crew.Hands),roL 1 zaa ((c0.plan.getD default).next)],roL 1 zaj c0.rounds]),(90001,.cells [.int .i64 (s2.2)]),(90002,.cells [.buf 90003 (s2.1).length]),(90003,bufL 3 1 zaa s2.1),(90004,.cells [roL 1 zaa c3]),(90005,.cells [.fn (.func 104) [] [.lp 90000 0,.lp 90001 0,.lp 90002 0,.lp 90004 0,.lp 90005 0]])]) (.cons .qi (.cons .q (.cons .q (.cons .q (.cons .q (.cons .q (.cons .q (.cons .qi (.cons .qi .nil))))))))) (.cons .q (.cons .q (.cons (BSim.cells (.cons .qc .nil)) (.cons .q (.cons .q (.cons .q .nil)))))) (fun k2 i2 s2 hle2 H1 H2 K0 hK2=>?_)
  refine W.rg env [0,1,2,3,4,5,15,16,17,18] [90000,90001,90002,90003,90004,90005] ?_
  refine W.seq ?_
  refine W.cond rfl (fun hb3=>?_) (fun hb3=>?_)
  · have hi2:i2<((c0.plan.getD default).Crew.Hands).length:=by have:=of_decide_eq_true hb3;omega
    have H:=H1 hi2
    refine W.skip ?_
    refine At.zad ?_
    refine W.seq ?_
    refine W.zhG H (fun (s4:Int×(List Int))=>[(0,.int .i64 (p0)),(1,.lp 90000 0),(2,.lp 90001 0),(3,.lp 90002 0),(4,.lp 90004 0),(5,.lp 90005 0),(15,roL 3 zak ((c0.plan.getD default).Crew.Hands)),(16,.int .i64 (((((c0.plan.getD default).Crew.Hands).length:Nat):Int))),(17,.int .i64 ((i2:Int)))]) (fun (s4:Int×(List Int))=>[(90000,.cells [.po c0.plan.isSome [roL 4 zal ((c0.plan.getD default).Crew.Tasks),roL 1 zac ((c0.plan.getD default).Crew.Travel),roL 3 zak ((c0.plan.getD default).Crew.Hands),roL 1 zaa ((c0.plan.getD default).next)],roL 1 zaj c0.rounds]),(90001,.cells [.int .i64 (s4.1)]),(90002,.cells [.buf 90003 (s4.2).length]),(90003,bufL 3 1 zaa s4.2),(90004,.cells [roL 1 zaa c3]),(90005,.cells [.fn (.func 104) [] [.lp 90000 0,.lp 90001 0,.lp 90002 0,.lp 90004 0,.lp 90005 0]])]) (fun s4 H=>?_) (fun k4 H hK4=>?_)
    · refine W.region env [] [] rfl rfl rfl (.cons (by unfold inI;have:=hn2;(try unfold maxLen at this);omega) .nil) .nil (At.keep (ts:=[0,1,2,3,4,5,15,16,17]) (ids:=[90000,90001,90002,90003,90004,90005]) rfl rfl ?_)
      refine At.zaE (At.keep (ts:=[0,1,2,3,4,5,15,16,17]) (ids:=[90000,90001,90002,90003,90004,90005]) rfl rfl ?_)
      exact At.conv (.cons .qi (.cons .q (.cons .q (.cons .q (.cons .q (.cons .q (.cons .q (.cons .qi (.cons .qi .nil))))))))) (.cons .q (.cons .q (.cons (BSim.cells (.cons .qc .nil)) (.cons .q (.cons .q (.cons .q .nil)))))) (hK2 hi2 (s4.2,s4.1) H)
    · refine W.block ?_
      refine W.sr env [] [] [0,1,2,3,4,5,8,9,15,16,17] [9,90000,90001,90002,90003,90004,90005] rfl rfl rfl (.cons (⟨by omega,by omega⟩:0≤(i2:Int)∧(i2:Int)<((((c0.plan.getD default).Crew.Hands).length:Nat):Int)) .nil) .nil ?_
      refine W.seq ?_
      refine W.seq ?_
      obtain ⟨hc5,H⟩:=zab H
      obtain ⟨hc6,H⟩:=zab H
      obtain ⟨hc7,H⟩:=zab H
      obtain ⟨hc8,H⟩:=zab H
      obtain ⟨y9,hy10,H⟩:=zaf H
      obtain ⟨hc11,H⟩:=zab H
      obtain ⟨hc12,H⟩:=zab H
      obtain ⟨hc13,H⟩:=zab H
      obtain ⟨hc14,H⟩:=zab H
      refine W.region env [] [⟨.bool (y9),[],0,[]⟩] rfl rfl (by kernel_rfl) (.cons hc5 (.cons hc6 (.cons id (.cons id (.cons hc7 (.cons id (.cons id (.cons id (.cons id (.cons id (.cons id (.cons id (.cons (fun h=>by rw [h];rfl) (.cons (fun hW=>⟨by first|rfl|(simp;done)|omega|(simp;omega),hc11 hW⟩) (.cons id (.cons id (.cons (fun hW=>(⟨by first|rfl|(simp;done)|omega|(simp;omega),(by have:=hc11 hW;first|omega|(simp only [List.length_set];omega)|(simp only [Int.toNat_natCast] at *;omega)|(simp at this ⊢;omega))⟩)) (.cons id (.cons id (.cons id (.cons (fun hW=>⟨by first|rfl|(simp;done)|omega|(simp;omega),hc12 hW⟩) (.cons id (.cons id (.cons (fun hW=>(⟨by first|rfl|(simp;done)|omega|(simp;omega),(by have:=hc12 hW;first|omega|(simp only [List.length_set];omega)|(simp only [Int.toNat_natCast] at *;omega)|(simp at this ⊢;omega))⟩)) (.cons id (.cons hc13 (.cons id (.cons hc14 (.cons id (.cons id (.cons id (.cons id (.cons id (.cons (fun hW h=>by revert hW h;first|(simp +contextual;done)|grind) (.cons (fun h=>by rw [h];rfl) .nil))))))))))))))))))))))))))))))))))) (.on (fun hW=>Ctr.sim (.cons (Sim.zib (hc8 hW)) (.cons (.refl _) (.cons (.refl _) .nil))) (zcz (c0.plan.getD default) (((c0.plan.getD default).Crew.Hands).getD i2 default) (c0.rounds.getD (p0).toNat default) (zai hy10 hW))) .nil) (At.keep (ts:=[0,1,2,3,4,5,8,15,16,17,56]) (ids:=[90000,90001,90002,90003,90004,90005]) rfl rfl ?_)
      refine At.zad ?_
      refine W.cond rfl (fun hb15=>?_) (fun hb15=>?_)
      · have H:=zai H hb15
        refine W.exit ?_
        refine At.xthen ?_
        refine At.xhere ?_
        refine At.zaE (At.keep (ts:=[0,1,2,3,4,5,15,16,17]) (ids:=[90000,90001,90002,90003,90004,90005]) rfl rfl ?_)
        exact At.conv (.cons .qi (.cons .q (.cons .q (.cons .q (.cons .q (.cons .q (.cons .q (.cons .qi (.cons .qi .nil))))))))) (.cons .q (.cons .q (.cons (BSim.cells (.cons .qc .nil)) (.cons .q (.cons .q (.cons .q .nil)))))) (hK4 (s2.2,s2.1) H)
      · have H:=zag H hb15
        refine W.skip ?_
        refine At.zad ?_
        obtain ⟨hc16,H⟩:=zab H
        obtain ⟨hc17,H⟩:=zab H
        refine W.sr env [] [] [0,1,2,3,4,5,8,15,16,17] [90000,90001,90002,90003,90004,90005] rfl rfl (by first|rfl|kernel_rfl) (.cons hc16 (.cons hc17 .nil)) .nil ?_
        refine W.seq ?_
        obtain ⟨hc18,H⟩:=zab H
        obtain ⟨hc19,H⟩:=zab H
        obtain ⟨hc20,H⟩:=zab H
        obtain ⟨y21,hy22,H⟩:=zaf H
        obtain ⟨hc23,H⟩:=zab H
        refine W.region env [] [⟨.bool (y21.1),[(90000,.cells [.po c0.plan.isSome [roL 4 zal ((c0.plan.getD default).Crew.Tasks),roL 1 zac ((c0.plan.getD default).Crew.Travel),roL 3 zak ((c0.plan.getD default).Crew.Hands),roL 1 zaa ((c0.plan.getD default).next)],roL 1 zaj c0.rounds]),(90001,.cells [.int .i64 (y21.2.1)]),(90002,.cells [.buf 90003 (y21.2.2).length]),(90003,bufL 3 1 zaa y21.2.2),(90004,.cells [roL 1 zaa c3]),(90005,.cells [.fn (.func 104) [] [.lp 90000 0,.lp 90001 0,.lp 90002 0,.lp 90004 0,.lp 90005 0]])],0,[90000,90001,90002,90003,90004,90005]⟩] rfl rfl (by kernel_rfl) (.cons (⟨by first|rfl|(simp;done)|omega|(simp;omega),hc18⟩) (.cons (⟨by first|rfl|(simp;done)|omega|(simp;omega),(by have:=hc18;first|omega|(simp only [List.length_set];omega)|(simp only [Int.toNat_natCast] at *;omega)|(simp at this ⊢;omega))⟩) (.cons (fun hW=>⟨by first|rfl|(simp;done)|omega|(simp;omega),hc19 hW⟩) (.cons id (.cons id (.cons (fun hW=>(⟨by first|rfl|(simp;done)|omega|(simp;omega),(by have:=hc19 hW;first|omega|(simp only [List.length_set];omega)|(simp only [Int.toNat_natCast] at *;omega)|(simp at this ⊢;omega))⟩)) (.cons id (.cons hc20 (.cons id (.cons (fun hW=>by obtain rfl:=zcv hy22 hW;first|exact .refl _|exact .q) (.cons (fun hW=>by obtain rfl:=zcv hy22 hW;first|exact .refl _|exact .q) (.cons (fun hW=>by obtain rfl:=zcv hy22 hW;first|exact .refl _|exact .q) (.cons (fun hW=>by obtain rfl:=zcv hy22 hW;first|exact .refl _|exact .q) (.cons (fun hW=>by obtain rfl:=zcv hy22 hW;first|exact .refl _|exact .q) (.cons (fun hW=>by obtain rfl:=zcv hy22 hW;first|exact .refl _|exact .q) (.cons id (.cons id (.cons (fun h=>by rw [h];rfl) .nil)))))))))))))))))) (.on (fun hW=>(CtrO.sim (CtrO.ren (ih ((s2.1.getD i2 default) - 1) c0 (((s2.2:Int).toNat ||| (((1:Int) * 2 ^ ((i2:Int):Int).toNat):Int).toNat:Nat):Int) s2.1 c3 (zai hy22 hW)) [(90000,90000),(90001,90001),(90002,90002),(90003,90003),(90004,90004),(90005,90005)]) (.cons (.refl _) (.cons (.refl _) (.cons (.refl _) (.cons (.refl _) (.cons (.refl _) (.cons (.refl _) .nil)))))) (.cons (.refl _) (.cons (.refl _) (.cons (BSim.cells (.cons .qc .nil)) (.cons (.refl _) (.cons (.refl _) (.cons (.refl _) .nil)))))))) .nil) (At.keep (ts:=[0,1,2,3,4,5,8,15,16,17,74]) (ids:=[90000,90001,90002,90003,90004,90005]) rfl rfl ?_)
        refine At.zad ?_
        refine W.cond rfl (fun hb24=>?_) (fun hb24=>?_)
        · have H:=zai H hb24
          refine W.seq ?_
          obtain ⟨hc25,H⟩:=zab H
          obtain ⟨hc26,H⟩:=zab H
          refine W.region env [] [] rfl rfl rfl (.cons hc25 (.cons (⟨by first|rfl|(simp;done)|omega|(simp;omega),hc26⟩) (.cons (⟨by first|rfl|(simp;done)|omega|(simp;omega),(by have:=hc26;first|omega|(simp only [List.length_set];omega)|(simp only [Int.toNat_natCast] at *;omega)|(simp at this ⊢;omega))⟩) .nil))) .nil (At.keep (ts:=[]) (ids:=[90000,90001,90002,90003,90004,90005]) rfl rfl ?_)
          refine At.zbo (.cons (.refl _) (.cons (.refl _) (.cons (.refl _) (.cons (y:=bufL 3 1 zaa (y21.2.2.set i2 (p0+1))) (BSim.seg (Seg.set (Seg.refl zaa _) (p0+1) rfl)) (.cons (.refl _) (.cons (.refl _) .nil)))))) ?_
          refine At.zad ?_
          refine W.rg env [7] [90000,90001,90002,90003,90004,90005] ?_
          refine W.ret ?_
          refine At.rinb ?_
          refine At.rthen ?_
          refine At.rthen ?_
          refine At.rinb ?_
          refine At.rthen ?_
          cases H
          exact At.retL env.ty [90000,90001,90002,90003,90004,90005] rfl rfl rfl rfl (.cons (.refl _) (.cons (.refl _) (.cons (BSim.cells (.cons .qc .nil)) (.cons (.refl _) (.cons (.refl _) (.cons (.refl _) .nil)))))) (.refl _) hval hdom hent rfl rfl
        · have H:=zag H hb24
          refine W.skip ?_
          refine At.inb ?_
          refine At.zaE (At.keep (ts:=[0,1,2,3,4,5,15,16,17]) (ids:=[90000,90001,90002,90003,90004,90005]) rfl rfl ?_)
          exact At.conv (.cons .qi (.cons .q (.cons .q (.cons .q (.cons .q (.cons .q (.cons .q (.cons .qi (.cons .qi .nil))))))))) (.cons .q (.cons .q (.cons (BSim.cells (.cons .qc .nil)) (.cons .q (.cons .q (.cons .q .nil)))))) (hK4 (y21.2.1,y21.2.2) H)
  · have H:=H2 (by have:=of_decide_eq_false hb3;omega)
    refine W.exit ?_
    refine At.xthen ?_
    refine At.xthen ?_
    refine At.xhere ?_
    refine At.zad ?_
    refine W.rg env [7] [90000,90001,90002,90003,90004,90005] ?_
    refine W.ret ?_
    cases H
    exact At.retL env.ty [90000,90001,90002,90003,90004,90005] rfl rfl rfl rfl (.cons (.refl _) (.cons (.refl _) (.cons (BSim.cells (.cons .qc .nil)) (.cons (.refl _) (.cons (.refl _) (.cons (.refl _) .nil)))))) (.refl _) hval hdom hent rfl rfl
theorem zcy (fuel:Nat) (p0:crew_shift) (p1:(List Int)) (p2:(List Int)) {r:Bool} (H:za3 fuel p0 p1 p2=some r):Ctr Tryz.prog 65 [.agg [.po p0.plan.isSome [roL 4 zal ((p0.plan.getD default).Crew.Tasks),roL 1 zac ((p0.plan.getD default).Crew.Travel),roL 3 zak ((p0.plan.getD default).Crew.Hands),roL 1 zaa ((p0.plan.getD default).next)],roL 1 zaj p0.rounds],roL 1 zaa p1,roL 1 zaa p2] (.bool (r)):=by
 unfold za3 at H
 refine Ctr.zan (N:=59) Tryz.func65 (by kernel_rfl) (c:=_) rfl Tryz.ntmps65 rfl (fun w0 h0 hval=>?_)
 refine W.rg env [1,3,5] [3,5] ?_
 refine W.scope ?_
 refine W.seq ?_
 obtain ⟨hc1,H⟩:=zab H
 obtain ⟨hc2,H⟩:=zab H
 refine W.region env [] [] rfl rfl rfl (.cons hc1 (.cons hc2 .nil)) .nil (At.keep (ts:=[1,3,5,7]) (ids:=[3,5,7,21]) rfl rfl ?_)
 refine At.zbo (.cons (.refl _) (.cons (.refl _) (.cons (.refl _) (.cons (y:=bufL 3 1 zaa (List.replicate (((((p0.plan.getD default).Crew.Hands).length:Nat):Int)).toNat (0:Int))) (BSim.seg (Seg.made (f:=zaa) 0 rfl)) .nil)))) ?_
 refine At.zad ?_
 refine W.seq ?_
 refine W.rg env [1,3,5,7,22,23,24] [3,5,7,21] ?_
 refine W.block ?_
 refine At.keep (ts:=[1,3,5,7,22,23,24]) (ids:=[3,5,7,21]) rfl rfl ?_
 refine W.len (t:=22) rfl (fun (hn3:p1.length≤maxLen)=>?_)
 refine W.zah H (fun i3 (s3:(List Int))=>[(1,roL 1 zaa p1),(3,.lp 3 0),(5,.lp 5 0),(7,.lp 7 0),(22,roL 1 zaa p1),(23,.int .i64 (((p1.length:Nat):Int))),(24,.int .i64 ((i3:Int)))]) (fun i3 (s3:(List Int))=>[(3,.cells [.po p0.plan.isSome [roL 4 zal ((p0.plan.getD default).Crew.Tasks),roL 1 zac ((p0.plan.getD default).Crew.Travel),roL 3 zak ((p0.plan.getD default).Crew.Hands),roL 1 zaa ((p0.plan.getD default).next)],roL 1 zaj p0.rounds]),(5,.cells [roL 1 zaa p2]),(7,.cells [.buf 21 (s3).length]),(21,bufL 3 1 zaa s3)]) (.cons .q (.cons .q (.cons .q (.cons .q (.cons .q (.cons .qi (.cons .qi .nil))))))) (.cons .q (.cons .q (.cons (BSim.cells (.cons .qc .nil)) (.cons .q .nil)))) (fun k3 i3 s3 hle3 H1 H2 K0 hK3=>?_)
 refine W.rg env [1,3,5,7,22,23,24,25] [3,5,7,21] ?_
 refine W.seq ?_
 refine W.cond rfl (fun hb4=>?_) (fun hb4=>?_)
 · have hi3:i3<p1.length:=by have:=of_decide_eq_true hb4;omega
   have H:=H1 hi3
   refine W.skip ?_
   refine At.zad ?_
   refine W.seq ?_
   refine W.block ?_
   refine W.sr env [] [] [1,3,5,7,9,22,23,24] [3,5,7,21] rfl rfl rfl (.cons (⟨by omega,by omega⟩:0≤(i3:Int)∧(i3:Int)<((p1.length:Nat):Int)) .nil) .nil ?_
   obtain ⟨hc5,H⟩:=zab H
   refine W.sr env [] [] [1,3,5,7,9,22,23,24,32] [3,5,7,21] rfl rfl rfl (.cons hc5 .nil) .nil ?_
   refine W.cond rfl (fun hb6=>?_) (fun hb6=>?_)
   · have H:=zai H hb6
     obtain ⟨hc7,H⟩:=zab H
     obtain ⟨hc8,H⟩:=zab H
     obtain ⟨hc9,H⟩:=zab H
     refine W.region env [] [] rfl rfl (by first|rfl|kernel_rfl) (.cons hc7 (.cons hc8 (.cons (⟨by first|rfl|(simp;done)|omega|(simp;omega),hc9⟩) (.cons (⟨by first|rfl|(simp;done)|omega|(simp;omega),(by have:=hc9;first|omega|(simp only [List.length_set];omega)|(simp only [Int.toNat_natCast] at *;omega)|(simp at this ⊢;omega))⟩) .nil)))) .nil (At.keep (ts:=[1,3,5,7,22,23,24]) (ids:=[3,5,7,21]) rfl rfl ?_)
     refine At.zbo (.cons (.refl _) (.cons (.refl _) (.cons (.refl _) (.cons (y:=bufL 3 1 zaa (s3.set ((p2.getD ((p1.getD i3 default)).toNat default)).toNat ((p1.getD i3 default)+1))) (BSim.seg (Seg.set (Seg.refl zaa _) ((p1.getD i3 default)+1) rfl)) .nil)))) ?_
     refine At.inb ?_
     refine At.zad ?_
     refine W.region env [] [] rfl rfl rfl (.cons (by unfold inI;have:=hn3;(try unfold maxLen at this);omega) .nil) .nil (At.keep (ts:=[1,3,5,7,22,23,24]) (ids:=[3,5,7,21]) rfl rfl ?_)
     refine At.zaE (At.keep (ts:=[1,3,5,7,22,23,24]) (ids:=[3,5,7,21]) rfl rfl ?_)
     exact At.conv (.cons .q (.cons .q (.cons .q (.cons .q (.cons .q (.cons .qi (.cons .qi .nil))))))) (.cons .q (.cons .q (.cons (BSim.cells (.cons .qc .nil)) (.cons .q .nil)))) (hK3 hi3 (s3.set ((p2.getD ((p1.getD i3 default)).toNat default)).toNat ((p1.getD i3 default)+1)) H)
   · have H:=zag H hb6
     refine W.skip ?_
     refine At.inb ?_
     refine At.zad ?_
     refine W.region env [] [] rfl rfl rfl (.cons (by unfold inI;have:=hn3;(try unfold maxLen at this);omega) .nil) .nil (At.keep (ts:=[1,3,5,7,22,23,24]) (ids:=[3,5,7,21]) rfl rfl ?_)
     refine At.zaE (At.keep (ts:=[1,3,5,7,22,23,24]) (ids:=[3,5,7,21]) rfl rfl ?_)
     exact At.conv (.cons .q (.cons .q (.cons .q (.cons .q (.cons .q (.cons .qi (.cons .qi .nil))))))) (.cons .q (.cons .q (.cons (BSim.cells (.cons .qc .nil)) (.cons .q .nil)))) (hK3 hi3 s3 H)
 · have H:=H2 (by have:=of_decide_eq_false hb4;omega)
   refine W.exit ?_
   refine At.xthen ?_
   refine At.xthen ?_
   refine At.xhere ?_
   refine At.zad ?_
   refine W.seq ?_
   refine W.label ?_
   refine At.zad ?_
   refine W.seq ?_
   refine W.rg env [3,5,7,42,43,44] [3,5,7,21] ?_
   refine W.block ?_
   refine At.keep (ts:=[3,5,7,42,43,44]) (ids:=[3,5,7,21]) rfl rfl ?_
   refine W.len (t:=42) rfl (fun (hn10:p1.length≤maxLen)=>?_)
   refine W.zah H (fun i10 (s10:(List Int))=>[(3,.lp 3 0),(5,.lp 5 0),(7,.lp 7 0),(42,roL 1 zaa p1),(43,.int .i64 (((p1.length:Nat):Int))),(44,.int .i64 ((i10:Int)))]) (fun i10 (s10:(List Int))=>[(3,.cells [.po p0.plan.isSome [roL 4 zal ((p0.plan.getD default).Crew.Tasks),roL 1 zac ((p0.plan.getD default).Crew.Travel),roL 3 zak ((p0.plan.getD default).Crew.Hands),roL 1 zaa ((p0.plan.getD default).next)],roL 1 zaj p0.rounds]),(5,.cells [roL 1 zaa p2]),(7,.cells [.buf 21 (s10).length]),(21,bufL 3 1 zaa s10)]) (.cons .q (.cons .q (.cons .q (.cons .q (.cons .qi (.cons .qi .nil)))))) (.cons .q (.cons .q (.cons (BSim.cells (.cons .qc .nil)) (.cons .q .nil)))) (fun k10 i10 s10 hle10 H1 H2 K0 hK10=>?_)
   refine W.rg env [3,5,7,42,43,44,45] [3,5,7,21] ?_
   refine W.seq ?_
   refine W.cond rfl (fun hb11=>?_) (fun hb11=>?_)
   · have hi10:i10<p1.length:=by have:=of_decide_eq_true hb11;omega
     have H:=H1 hi10
     refine W.skip ?_
     refine At.zad ?_
     refine W.seq ?_
     refine W.zhG H (fun (s12:(List Int))=>[(3,.lp 3 0),(5,.lp 5 0),(7,.lp 7 0),(42,roL 1 zaa p1),(43,.int .i64 (((p1.length:Nat):Int))),(44,.int .i64 ((i10:Int)))]) (fun (s12:(List Int))=>[(3,.cells [.po p0.plan.isSome [roL 4 zal ((p0.plan.getD default).Crew.Tasks),roL 1 zac ((p0.plan.getD default).Crew.Travel),roL 3 zak ((p0.plan.getD default).Crew.Hands),roL 1 zaa ((p0.plan.getD default).next)],roL 1 zaj p0.rounds]),(5,.cells [roL 1 zaa p2]),(7,.cells [.buf 21 (s12).length]),(21,bufL 3 1 zaa s12)]) (fun s12 H=>?_) (fun k12 H hK12=>?_)
     · refine W.region env [] [] rfl rfl rfl (.cons (by unfold inI;have:=hn10;(try unfold maxLen at this);omega) .nil) .nil (At.keep (ts:=[3,5,7,42,43,44]) (ids:=[3,5,7,21]) rfl rfl ?_)
       refine At.zaE (At.keep (ts:=[3,5,7,42,43,44]) (ids:=[3,5,7,21]) rfl rfl ?_)
       exact At.conv (.cons .q (.cons .q (.cons .q (.cons .q (.cons .qi (.cons .qi .nil)))))) (.cons .q (.cons .q (.cons (BSim.cells (.cons .qc .nil)) (.cons .q .nil)))) (hK10 hi10 s12 H)
     · refine W.block ?_
       refine W.sr env [] [] [3,5,7,11,42,43,44] [3,5,7,21] rfl rfl rfl (.cons (⟨by omega,by omega⟩:0≤(i10:Int)∧(i10:Int)<((p1.length:Nat):Int)) .nil) .nil ?_
       refine W.seq ?_
       obtain ⟨hc13,H⟩:=zab H
       refine W.sr env [] [] [3,5,7,11,42,43,44,52] [3,5,7,21] rfl rfl rfl (.cons hc13 .nil) .nil ?_
       refine W.cond rfl (fun hb14=>?_) (fun hb14=>?_)
       · have H:=zai H hb14
         refine W.exit ?_
         refine At.xthen ?_
         refine At.xhere ?_
         refine At.zaE (At.keep (ts:=[3,5,7,42,43,44]) (ids:=[3,5,7,21]) rfl rfl ?_)
         exact At.conv (.cons .q (.cons .q (.cons .q (.cons .q (.cons .qi (.cons .qi .nil)))))) (.cons .q (.cons .q (.cons (BSim.cells (.cons .qc .nil)) (.cons .q .nil)))) (hK12 s10 H)
       · have H:=zag H hb14
         refine W.skip ?_
         refine At.zad ?_
         refine W.rg env [3,5,7,11,12,42,43,44] [3,5,7,12,21] ?_
         refine W.rg env [3,5,7,11,12,13,42,43,44] [3,5,7,12,13,21] ?_
         refine W.rg env [3,5,7,11,13,42,43,44] [3,5,7,12,13,21] ?_
         refine W.seq ?_
         obtain ⟨y15,hy16,H⟩:=zaf H
         refine W.region env [] [⟨.bool (y15.1),[(3,.cells [.po p0.plan.isSome [roL 4 zal ((p0.plan.getD default).Crew.Tasks),roL 1 zac ((p0.plan.getD default).Crew.Travel),roL 3 zak ((p0.plan.getD default).Crew.Hands),roL 1 zaa ((p0.plan.getD default).next)],roL 1 zaj p0.rounds]),(12,.cells [.int .i64 (y15.2.1)]),(7,.cells [.buf 21 (y15.2.2).length]),(21,bufL 3 1 zaa y15.2.2),(5,.cells [roL 1 zaa p2]),(13,.cells [.fn (.func 104) [] [.lp 3 0,.lp 12 0,.lp 7 0,.lp 5 0,.lp 13 0]])],0,[3,12,7,21,5,13]⟩] rfl rfl (by kernel_rfl) .nil (.free (CtrO.sim (CtrO.ren (zeE fuel fuel (p1.getD i10 default) p0 0 s10 p2 hy16) [(90000,3),(90001,12),(90002,7),(90003,21),(90004,5),(90005,13)]) (.cons (.refl _) (.cons (.refl _) (.cons (.refl _) (.cons (.refl _) (.cons (.refl _) (.cons (.refl _) .nil)))))) (.cons (.refl _) (.cons (.refl _) (.cons (BSim.cells (.cons .qc .nil)) (.cons (.refl _) (.cons (.refl _) (.cons (.refl _) .nil))))))) .nil) (At.keep (ts:=[3,5,7,42,43,44,57]) (ids:=[3,5,7,21]) rfl rfl ?_)
         refine At.zad ?_
         refine W.cond rfl (fun hb17=>?_) (fun hb17=>?_)
         · have H:=zai H hb17
           refine W.rg env [6] [] ?_
           refine W.ret ?_
           refine At.rinb ?_
           refine At.rthen ?_
           refine At.rthen ?_
           refine At.rinb ?_
           refine At.rthen ?_
           refine At.rins ?_
           cases H
           exact At.ret env.ty rfl rfl nofun (.refl _) hval
         · have H:=zag H hb17
           refine W.skip ?_
           refine At.inb ?_
           refine At.zaE (At.keep (ts:=[3,5,7,42,43,44]) (ids:=[3,5,7,21]) rfl rfl ?_)
           exact At.conv (.cons .q (.cons .q (.cons .q (.cons .q (.cons .qi (.cons .qi .nil)))))) (.cons .q (.cons .q (.cons (BSim.cells (.cons .qc .nil)) (.cons .q .nil)))) (hK12 y15.2.2 H)
   · have H:=H2 (by have:=of_decide_eq_false hb11;omega)
     refine W.exit ?_
     refine At.xthen ?_
     refine At.xthen ?_
     refine At.xhere ?_
     refine At.zad ?_
     refine W.rg env [6] [] ?_
     refine W.ret ?_
     refine At.rins ?_
     cases H
     exact At.ret env.ty rfl rfl nofun (.refl _) hval
theorem zf7 (p0:(List Int)) (p1:Int) {r:Int} (H:zcd p0 p1=some r):Ctr Tryz.prog 105 [roL 1 zaa p0,.int .i64 (p1)] (.int .i64 (r)):=by
 unfold zcd at H
 refine Ctr.zan (N:=19) Tryz.func105 (by kernel_rfl) (c:=_) rfl Tryz.ntmps105 rfl (fun w0 h0 hval=>?_)
 refine W.rg env [0,1] [] ?_
 refine W.seq ?_
 refine W.rg env [0,1,7,8] [] ?_
 refine W.block ?_
 refine At.keep (ts:=[0,1,7,8]) (ids:=[]) rfl rfl ?_
 refine W.len (t:=0) rfl (fun (hn1:p0.length≤maxLen)=>?_)
 refine W.zah H (fun i1 (s1:Unit)=>[(0,roL 1 zaa p0),(1,.int .i64 (p1)),(7,.int .i64 (((p0.length:Nat):Int))),(8,.int .i64 ((i1:Int)))]) (fun i1 (s1:Unit)=>[]) (.cons .q (.cons .qi (.cons .qi (.cons .qi .nil)))) .nil (fun k1 i1 s1 hle1 H1 H2 K0 hK1=>?_)
 refine W.rg env [0,1,7,8,9] [] ?_
 refine W.seq ?_
 refine W.cond rfl (fun hb2=>?_) (fun hb2=>?_)
 · have hi1:i1<p0.length:=by have:=of_decide_eq_true hb2;omega
   have H:=H1 hi1
   refine W.skip ?_
   refine At.zad ?_
   refine W.seq ?_
   refine W.block ?_
   refine W.rg env [0,1,5,7,8] [] ?_
   refine W.sr env [] [] [0,1,5,7,8,16] [] rfl rfl rfl (.cons (⟨by omega,by omega⟩:0≤(i1:Int)∧(i1:Int)<((p0.length:Nat):Int)) .nil) .nil ?_
   refine W.cond rfl (fun hb3=>?_) (fun hb3=>?_)
   · have H:=zai H hb3
     refine W.rg env [4] [] ?_
     refine W.ret ?_
     refine At.rinb ?_
     refine At.rthen ?_
     refine At.rthen ?_
     refine At.rinb ?_
     refine At.rthen ?_
     cases H
     exact At.ret env.ty rfl rfl nofun (.refl _) hval
   · have H:=zag H hb3
     refine W.skip ?_
     refine At.inb ?_
     refine At.zad ?_
     refine W.region env [] [] rfl rfl rfl (.cons (by unfold inI;have:=hn1;(try unfold maxLen at this);omega) .nil) .nil (At.keep (ts:=[0,1,7,8]) (ids:=[]) rfl rfl ?_)
     refine At.zaE (At.keep (ts:=[0,1,7,8]) (ids:=[]) rfl rfl ?_)
     exact At.conv (.cons .q (.cons .qi (.cons .qi (.cons .qi .nil)))) .nil (hK1 hi1 () H)
 · have H:=H2 (by have:=of_decide_eq_false hb2;omega)
   refine W.exit ?_
   refine At.xthen ?_
   refine At.xthen ?_
   refine At.xhere ?_
   refine At.zad ?_
   refine W.rg env [4] [] ?_
   refine W.ret ?_
   cases H
   exact At.ret env.ty rfl rfl nofun (.refl _) hval
theorem zdn (p0:(List Int)) (p1:Int) {r:Bool} (H:zba p0 p1=some r):Ctr Tryz.prog 68 [roL 1 zaa p0,.int .i64 (p1)] (.bool (r)):=by
 unfold zba at H
 refine Ctr.zan (N:=9) Tryz.func68 (by kernel_rfl) (c:=_) rfl Tryz.ntmps68 rfl (fun w0 h0 hval=>?_)
 refine W.rg env [0,1] [] ?_
 refine W.seq ?_
 obtain ⟨y1,hy2,H⟩:=zaf H
 refine W.region env [] [⟨.int .i64 (y1),[],0,[]⟩] rfl rfl rfl .nil (.free (zf7 p0 p1 hy2) .nil) (At.keep (ts:=[4]) (ids:=[]) rfl rfl ?_)
 refine At.zad ?_
 refine W.ret ?_
 cases H
 exact At.ret env.ty rfl rfl nofun (.refl _) hval
theorem zfJ (p0:crew_shift) {r:(List Int)} (H:zaW p0=some r):CtrO Tryz.prog 64 [.agg [.po p0.plan.isSome [roL 4 zal ((p0.plan.getD default).Crew.Tasks),roL 1 zac ((p0.plan.getD default).Crew.Travel),roL 3 zak ((p0.plan.getD default).Crew.Hands),roL 1 zaa ((p0.plan.getD default).next)],roL 1 zaj p0.rounds]] [] (.buf 900 r.length) [(900,bufL 3 1 zaa r)]:=by
 unfold zaW at H
 refine CtrO.zan (N:=19) Tryz.func64 (by kernel_rfl) (c:=_) rfl Tryz.ntmps64 rfl (fun w0 h0 ρb hval hdom=>?_)
 refine W.rg env [1] [1] ?_
 refine W.seq ?_
 obtain ⟨hc1,H⟩:=zab H
 refine W.region env [] [] rfl rfl rfl (.cons hc1 .nil) .nil (At.keep (ts:=[3]) (ids:=[8]) rfl rfl ?_)
 refine At.zbo (.cons (y:=bufL 3 1 zaa (List.replicate (((p0.rounds.length:Nat):Int)).toNat (0:Int))) (BSim.seg (Seg.made (f:=zaa) 0 rfl)) .nil) ?_
 refine At.zad ?_
 refine W.seq ?_
 refine W.sr env [] [] [3,10,11] [8] rfl rfl rfl (.cons (by first|rfl|(simp;done)|omega|(simp;omega)) .nil) .nil ?_
 refine W.block ?_
 refine At.keep (ts:=[3,10,11]) (ids:=[8]) rfl rfl ?_
 obtain ⟨hn2,H⟩:=zab H
 refine W.zah H (fun i2 (s2:(List Int))=>[(3,.buf 8 (s2).length),(10,.int .i64 ((((List.replicate (((p0.rounds.length:Nat):Int)).toNat (0:Int)).length:Nat):Int))),(11,.int .i64 ((i2:Int)))]) (fun i2 (s2:(List Int))=>[(8,bufL 3 1 zaa s2)]) (.cons .qb (.cons .qi (.cons .qi .nil))) (.cons .q .nil) (fun k2 i2 s2 hle2 H1 H2 K0 hK2=>?_)
 refine W.rg env [3,10,11,12] [8] ?_
 refine W.seq ?_
 refine W.cond rfl (fun hb3=>?_) (fun hb3=>?_)
 · have hi2:i2<(List.replicate (((p0.rounds.length:Nat):Int)).toNat (0:Int)).length:=by have:=of_decide_eq_true hb3;omega
   have H:=H1 hi2
   refine W.skip ?_
   refine At.zad ?_
   refine W.seq ?_
   refine W.block ?_
   refine W.rg env [3,4,10,11] [8] ?_
   obtain ⟨hc4,H⟩:=zab H
   refine W.region env [] [] rfl rfl rfl (.cons (⟨by first|rfl|(simp;done)|omega|(simp;omega),hc4⟩) (.cons (⟨by first|rfl|(simp;done)|omega|(simp;omega),(by have:=hc4;first|omega|(simp only [List.length_set];omega)|(simp only [Int.toNat_natCast] at *;omega)|(simp at this ⊢;omega))⟩) .nil)) .nil (At.keep (ts:=[3,10,11]) (ids:=[8]) rfl rfl ?_)
   refine At.zbo (.cons (y:=bufL 3 1 zaa (s2.set i2 (-1))) (BSim.seg (Seg.set (Seg.refl zaa _) (-1) rfl)) .nil) ?_
   refine At.inb ?_
   refine At.zad ?_
   refine W.region env [] [] rfl rfl rfl (.cons (by unfold inI;have:=hn2;(try unfold maxLen at this);omega) .nil) .nil (At.keep (ts:=[3,10,11]) (ids:=[8]) rfl rfl ?_)
   refine At.zaE (At.keep (ts:=[3,10,11]) (ids:=[8]) rfl rfl ?_)
   exact At.conv (.cons .qb (.cons .qi (.cons .qi .nil))) (.cons .q .nil) (hK2 hi2 (s2.set i2 (-1)) H)
 · have H:=H2 (by have:=of_decide_eq_false hb3;omega)
   refine W.exit ?_
   refine At.xthen ?_
   refine At.xthen ?_
   refine At.xhere ?_
   refine At.zad ?_
   refine W.rg env [2] [8] ?_
   refine W.ret ?_
   cases H
   exact At.retK env.ty [8] 892 rfl rfl rfl rfl (.cons (.refl _) .nil) (.of_eq (by refine zkv ?_;first|(simp [zbn];done)|omega|(simp [zbn];omega)|rfl)) hval hdom rfl
theorem zjB (fuel:Nat) (p0:Crew) (p1:(List (List Int))) {r:((List Int)×Int)} (H:zdJ fuel p0 p1=some r):Ctr Tryz.prog 22 [.agg [roL 4 zal p0.Tasks,roL 1 zac p0.Travel,roL 3 zak p0.Hands],roL 1 zaj p1] (.tup [roL 1 zaa r.1,.int .i64 (r.2)]):=by
 unfold zdJ at H
 refine Ctr.zan (N:=87) Tryz.func22 (by kernel_rfl) (c:=_) rfl Tryz.ntmps22 rfl (fun w0 h0 hval=>?_)
 refine W.rg env [1,2] [2] ?_
 refine W.seq ?_
 obtain ⟨y1,hy2,H⟩:=zaf H
 refine W.region env [] [⟨.tup [.po y1.1.isSome [roL 4 zal ((y1.1.getD default).Crew.Tasks),roL 1 zac ((y1.1.getD default).Crew.Travel),roL 3 zak ((y1.1.getD default).Crew.Hands),roL 1 zaa ((y1.1.getD default).next)],.int .i64 (y1.2)],[],0,[]⟩] rfl rfl rfl .nil (.free (zcS p0 p1 hy2) .nil) (At.keep (ts:=[1,2,6,7]) (ids:=[2]) rfl rfl ?_)
 refine At.zad ?_
 refine W.seq ?_
 refine W.rg env [1,2,6,7,21] [2] ?_
 refine W.cond rfl (fun hb3=>?_) (fun hb3=>?_)
 · have H:=zai H hb3
   refine W.rg env [4,5] [] ?_
   refine W.ret ?_
   refine At.rthen ?_
   cases H
   exact At.ret env.ty rfl rfl nofun (Sim.tupL (.cons (Sim.nil _ _) (.cons (.refl _) .nil))) hval
 · have H:=zag H hb3
   refine W.skip ?_
   refine At.zad ?_
   refine W.rg env [1,2,8] [2,8] ?_
   refine W.seq ?_
   obtain ⟨y4,hy5,H⟩:=zaf H
   refine W.region env [] [⟨.buf 900 y4.length,[(900,bufL 3 1 zaa y4)],28000,[]⟩] rfl rfl (by kernel_rfl) .nil (.free ((Ctr.ofO (zfJ (⟨y1.1,p1⟩:crew_shift) hy5))) .nil) (At.keep (ts:=[1,2,8,9]) (ids:=[2,8,28900]) rfl rfl ?_)
   refine At.zad ?_
   refine W.seq ?_
   refine W.seq ?_
   obtain ⟨y6,hy7,H⟩:=zaf H
   obtain ⟨y8,hy9,H⟩:=zaf H
   refine W.region env [] [⟨roL 1 zaa y6,[],0,[]⟩,⟨.bool (y8),[],0,[]⟩] rfl rfl (by kernel_rfl) (.cons (by first|rfl|(simp;done)|omega|(simp;omega)) .nil) (.free (zcp (⟨y1.1,p1⟩:crew_shift) hy7) (.free (zcy fuel (⟨y1.1,p1⟩:crew_shift) y6 y4 hy9) .nil)) (At.keep (ts:=[1,2,8,9,33]) (ids:=[2,8,28900]) rfl rfl ?_)
   refine At.zad ?_
   refine W.cond rfl (fun hb10=>?_) (fun hb10=>?_)
   · have H:=zai H hb10
     refine W.rg env [4,5] [] ?_
     refine W.ret ?_
     refine At.rthen ?_
     cases H
     exact At.ret env.ty rfl rfl nofun (Sim.tupL (.cons (Sim.nil _ _) (.cons (.refl _) .nil))) hval
   · have H:=zag H hb10
     refine W.skip ?_
     refine At.zad ?_
     refine W.rg env [1,2,8,9,10] [2,8,28900] ?_
     refine W.seq ?_
     refine W.rg env [1,2,8,9,10,35,36] [2,8,28900] ?_
     refine W.block ?_
     refine At.zeR 10 510 3 1 (e:=fun i=>zaa (([]:List Int).getD i default)) rfl rfl ?_
     refine At.keep (ts:=[1,2,8,9,10,35,36]) (ids:=[2,8,510,28900]) rfl rfl ?_
     refine W.len (t:=1) rfl (fun (hn11:p1.length≤maxLen)=>?_)
     refine W.zah H (fun i11 (s11:(List Int)×(List Int))=>[(1,roL 1 zaj p1),(2,.lp 2 0),(8,.lp 8 0),(9,.buf 28900 (s11.1).length),(10,.buf 510 (s11.2).length),(35,.int .i64 (((p1.length:Nat):Int))),(36,.int .i64 ((i11:Int)))]) (fun i11 (s11:(List Int)×(List Int))=>[(2,.cells [roL 4 zal p0.Tasks,roL 1 zac p0.Travel,roL 3 zak p0.Hands]),(8,.cells [.po y1.1.isSome [roL 4 zal ((y1.1.getD default).Crew.Tasks),roL 1 zac ((y1.1.getD default).Crew.Travel),roL 3 zak ((y1.1.getD default).Crew.Hands),roL 1 zaa ((y1.1.getD default).next)],roL 1 zaj p1]),(510,bufL 3 1 zaa s11.2),(28900,bufL 3 1 zaa s11.1)]) (.cons .q (.cons .q (.cons .q (.cons .qb (.cons .qb (.cons .qi (.cons .qi .nil))))))) (.cons .q (.cons .q (.cons .q (.cons .q .nil)))) (fun k11 i11 s11 hle11 H1 H2 K0 hK11=>?_)
     refine W.rg env [1,2,8,9,10,35,36,37] [2,8,510,28900] ?_
     refine W.seq ?_
     refine W.cond rfl (fun hb12=>?_) (fun hb12=>?_)
     · have hi11:i11<p1.length:=by have:=of_decide_eq_true hb12;omega
       have H:=H1 hi11
       refine W.skip ?_
       refine At.zad ?_
       refine W.seq ?_
       refine W.block ?_
       refine W.rg env [1,2,8,9,10,11,35,36] [2,8,510,28900] ?_
       refine W.seq ?_
       refine W.rg env [1,2,8,9,10,11,35,36,40,41,42] [2,8,510,28900] ?_
       refine W.block ?_
       refine At.keep (ts:=[1,2,8,9,10,11,35,36,40,41,42]) (ids:=[2,8,510,28900]) rfl rfl ?_
       refine W.len (t:=40) rfl (fun (hn13:p0.Hands.length≤maxLen)=>?_)
       refine W.zah H (fun i13 (s13:(List Int))=>[(1,roL 1 zaj p1),(2,.lp 2 0),(8,.lp 8 0),(9,.buf 28900 (s13).length),(10,.buf 510 (s11.2).length),(11,.int .i64 ((i11:Int))),(35,.int .i64 (((p1.length:Nat):Int))),(36,.int .i64 ((i11:Int))),(40,roL 3 zak p0.Hands),(41,.int .i64 (((p0.Hands.length:Nat):Int))),(42,.int .i64 ((i13:Int)))]) (fun i13 (s13:(List Int))=>[(2,.cells [roL 4 zal p0.Tasks,roL 1 zac p0.Travel,roL 3 zak p0.Hands]),(8,.cells [.po y1.1.isSome [roL 4 zal ((y1.1.getD default).Crew.Tasks),roL 1 zac ((y1.1.getD default).Crew.Travel),roL 3 zak ((y1.1.getD default).Crew.Hands),roL 1 zaa ((y1.1.getD default).next)],roL 1 zaj p1]),(510,bufL 3 1 zaa s11.2),(28900,bufL 3 1 zaa s13)]) (.cons .q (.cons .q (.cons .q (.cons .qb (.cons .qb (.cons .qi (.cons .qi (.cons .qi (.cons .q (.cons .qi (.cons .qi .nil))))))))))) (.cons .q (.cons .q (.cons .q (.cons .q .nil)))) (fun k13 i13 s13 hle13 H1 H2 K0 hK13=>?_)
       refine W.rg env [1,2,8,9,10,11,35,36,40,41,42,43] [2,8,510,28900] ?_
       refine W.seq ?_
       refine W.cond rfl (fun hb14=>?_) (fun hb14=>?_)
       · have hi13:i13<p0.Hands.length:=by have:=of_decide_eq_true hb14;omega
         have H:=H1 hi13
         refine W.skip ?_
         refine At.zad ?_
         refine W.seq ?_
         refine W.block ?_
         refine W.sr env [] [] [1,2,8,9,10,11,12,13,35,36,40,41,42] [2,8,13,510,28900] rfl rfl rfl (.cons (⟨by omega,by omega⟩:0≤(i13:Int)∧(i13:Int)<((p0.Hands.length:Nat):Int)) .nil) .nil ?_
         refine W.seq ?_
         refine W.seq ?_
         obtain ⟨hc15,H⟩:=zab H
         obtain ⟨y16,hy17,H⟩:=zaf H
         obtain ⟨hc18,H⟩:=zab H
         obtain ⟨y19,hy20,H⟩:=zaf H
         refine W.region env [] [⟨.bool (y16),[],0,[]⟩,⟨.bool (y19),[],0,[]⟩] rfl rfl (by kernel_rfl) (.cons (⟨by omega,by omega⟩:0≤(i11:Int)∧(i11:Int)<((p1.length:Nat):Int)) (.cons (fun hW=>⟨by first|rfl|(simp;done)|omega|(simp;omega),hc18 hW⟩) (.cons id (.cons id (.cons (fun hW=>(by have:=hc18 hW;first|omega|(simp only [Int.toNat_natCast] at *;omega)|(simp at this ⊢;omega))) (.cons id (.cons id (.cons (fun h=>by rw [h];rfl) .nil)))))))) (.free (Ctr.sim (.cons (Sim.zib hc15) (.cons (.refl _) (.cons (.refl _) .nil))) (zcz (y1.1.getD default) (p0.Hands.getD i13 default) (p1.getD i11 default) hy17)) (.on (fun hW=>Ctr.sim (.cons (Sim.seg (Seg.cut zaa s13 0 i11 (by have:=hc18 hW;omega))) (.cons (.refl _) .nil)) (zdn ((s13.take i11).drop 0) (i13:Int) (zai hy20 hW))) .nil)) (At.keep (ts:=[1,2,8,9,10,11,12,35,36,40,41,42,62]) (ids:=[2,8,510,28900]) rfl rfl ?_)
         refine At.zad ?_
         refine W.cond rfl (fun hb21=>?_) (fun hb21=>?_)
         · have H:=zai H hb21
           refine W.exit ?_
           refine At.xthen ?_
           refine At.xhere ?_
           refine At.zad ?_
           refine W.region env [] [] rfl rfl rfl (.cons (by unfold inI;have:=hn13;(try unfold maxLen at this);omega) .nil) .nil (At.keep (ts:=[1,2,8,9,10,11,35,36,40,41,42]) (ids:=[2,8,510,28900]) rfl rfl ?_)
           refine At.zaE (At.keep (ts:=[1,2,8,9,10,11,35,36,40,41,42]) (ids:=[2,8,510,28900]) rfl rfl ?_)
           exact At.conv (.cons .q (.cons .q (.cons .q (.cons .qb (.cons .qb (.cons .qi (.cons .qi (.cons .qi (.cons .q (.cons .qi (.cons .qi .nil))))))))))) (.cons .q (.cons .q (.cons .q (.cons .q .nil)))) (hK13 hi13 s13 H)
         · have H:=zag H hb21
           refine W.skip ?_
           refine At.zad ?_
           refine W.seq ?_
           obtain ⟨hc22,H⟩:=zab H
           refine W.region env [] [] rfl rfl rfl (.cons (⟨by first|rfl|(simp;done)|omega|(simp;omega),hc22⟩) (.cons (⟨by first|rfl|(simp;done)|omega|(simp;omega),(by have:=hc22;first|omega|(simp only [List.length_set];omega)|(simp only [Int.toNat_natCast] at *;omega)|(simp at this ⊢;omega))⟩) .nil)) .nil (At.keep (ts:=[1,2,8,9,10,11,35,36,40,41,42]) (ids:=[2,8,510,28900]) rfl rfl ?_)
           refine At.zbo (.cons (.refl _) (.cons (.refl _) (.cons (.refl _) (.cons (y:=bufL 3 1 zaa (s13.set i11 (i13:Int))) (BSim.seg (Seg.set (Seg.refl zaa _) (i13:Int) rfl)) .nil)))) ?_
           refine At.zad ?_
           refine W.seq ?_
           obtain ⟨y23,hy24,H⟩:=zaf H
           obtain ⟨y25,hy26,H⟩:=zaf H
           refine W.region env [] [⟨roL 1 zaa y23,[],0,[]⟩,⟨.bool (y25),[],0,[]⟩] rfl rfl (by kernel_rfl) (.cons (by first|rfl|(simp;done)|omega|(simp;omega)) .nil) (.free (zcp (⟨y1.1,p1⟩:crew_shift) hy24) (.free (zcy fuel (⟨y1.1,p1⟩:crew_shift) y23 (s13.set i11 (i13:Int)) hy26) .nil)) (At.keep (ts:=[1,2,8,9,10,11,35,36,40,41,42,71]) (ids:=[2,8,510,28900]) rfl rfl ?_)
           refine At.zad ?_
           refine W.cond rfl (fun hb27=>?_) (fun hb27=>?_)
           · have H:=zai H hb27
             refine W.exit ?_
             refine At.xpast rfl ?_
             refine At.xthen ?_
             refine At.xthen ?_
             refine At.xhere ?_
             refine At.zad ?_
             obtain ⟨hc28,H⟩:=zab H
             obtain ⟨hc29,H⟩:=zab H
             obtain ⟨hc30,H⟩:=zab H
             refine W.region env [] [] rfl rfl (by first|rfl|kernel_rfl) (.cons (⟨by first|rfl|(simp;done)|omega|(simp;omega),hc28⟩) (.cons (⟨by first|rfl|(simp;done)|omega|(simp;omega),(by have:=hc28;first|omega|(simp only [List.length_set];omega)|(simp only [Int.toNat_natCast] at *;omega)|(simp at this ⊢;omega))⟩) (.cons hc29 (.cons (⟨by first|rfl|(simp;done)|omega|(simp;omega),by have:=hc30;first|simpa using this|(unfold room at this ⊢;simp at this ⊢;omega)⟩) .nil)))) .nil (At.keep (ts:=[1,2,8,9,10,35,36]) (ids:=[2,8,510,28900]) rfl rfl ?_)
             refine At.zbo (.cons (.refl _) (.cons (.refl _) (.cons (y:=bufL 3 1 zaa (s11.2++([(p0.Hands.getD (((s13.set i11 (i13:Int)).getD i11 default)).toNat default).Id]:List Int))) (BSim.seg (Seg.push (Seg.refl zaa _) (Seg.lit (f:=zaa) (sz:=1) ([(p0.Hands.getD (((s13.set i11 (i13:Int)).getD i11 default)).toNat default).Id]:List Int) rfl rfl (fun _=>rfl)))) (.cons (.refl _) .nil)))) ?_
             refine At.inb ?_
             refine At.zad ?_
             refine W.region env [] [] rfl rfl rfl (.cons (by unfold inI;have:=hn11;(try unfold maxLen at this);omega) .nil) .nil (At.keep (ts:=[1,2,8,9,10,35,36]) (ids:=[2,8,510,28900]) rfl rfl ?_)
             refine At.zaE (At.keep (ts:=[1,2,8,9,10,35,36]) (ids:=[2,8,510,28900]) rfl rfl ?_)
             exact At.conv (.cons .q (.cons .q (.cons .q (.cons .qb (.cons .qb (.cons .qi (.cons .qi .nil))))))) (.cons .q (.cons .q (.cons .q (.cons .q .nil)))) (hK11 hi11 ((s13.set i11 (i13:Int)),(s11.2++([(p0.Hands.getD (((s13.set i11 (i13:Int)).getD i11 default)).toNat default).Id]:List Int))) H)
           · have H:=zag H hb27
             refine W.skip ?_
             refine At.inb ?_
             refine At.zad ?_
             refine W.region env [] [] rfl rfl rfl (.cons (by unfold inI;have:=hn13;(try unfold maxLen at this);omega) .nil) .nil (At.keep (ts:=[1,2,8,9,10,11,35,36,40,41,42]) (ids:=[2,8,510,28900]) rfl rfl ?_)
             refine At.zaE (At.keep (ts:=[1,2,8,9,10,11,35,36,40,41,42]) (ids:=[2,8,510,28900]) rfl rfl ?_)
             exact At.conv (.cons .q (.cons .q (.cons .q (.cons .qb (.cons .qb (.cons .qi (.cons .qi (.cons .qi (.cons .q (.cons .qi (.cons .qi .nil))))))))))) (.cons .q (.cons .q (.cons .q (.cons .q .nil)))) (hK13 hi13 (s13.set i11 (i13:Int)) H)
       · have H:=H2 (by have:=of_decide_eq_false hb14;omega)
         refine W.exit ?_
         refine At.xthen ?_
         refine At.xthen ?_
         refine At.xhere ?_
         refine At.zad ?_
         obtain ⟨hc31,H⟩:=zab H
         obtain ⟨hc32,H⟩:=zab H
         obtain ⟨hc33,H⟩:=zab H
         refine W.region env [] [] rfl rfl (by first|rfl|kernel_rfl) (.cons (⟨by first|rfl|(simp;done)|omega|(simp;omega),hc31⟩) (.cons (⟨by first|rfl|(simp;done)|omega|(simp;omega),(by have:=hc31;first|omega|(simp only [List.length_set];omega)|(simp only [Int.toNat_natCast] at *;omega)|(simp at this ⊢;omega))⟩) (.cons hc32 (.cons (⟨by first|rfl|(simp;done)|omega|(simp;omega),by have:=hc33;first|simpa using this|(unfold room at this ⊢;simp at this ⊢;omega)⟩) .nil)))) .nil (At.keep (ts:=[1,2,8,9,10,35,36]) (ids:=[2,8,510,28900]) rfl rfl ?_)
         refine At.zbo (.cons (.refl _) (.cons (.refl _) (.cons (y:=bufL 3 1 zaa (s11.2++([(p0.Hands.getD ((s13.getD i11 default)).toNat default).Id]:List Int))) (BSim.seg (Seg.push (Seg.refl zaa _) (Seg.lit (f:=zaa) (sz:=1) ([(p0.Hands.getD ((s13.getD i11 default)).toNat default).Id]:List Int) rfl rfl (fun _=>rfl)))) (.cons (.refl _) .nil)))) ?_
         refine At.inb ?_
         refine At.zad ?_
         refine W.region env [] [] rfl rfl rfl (.cons (by unfold inI;have:=hn11;(try unfold maxLen at this);omega) .nil) .nil (At.keep (ts:=[1,2,8,9,10,35,36]) (ids:=[2,8,510,28900]) rfl rfl ?_)
         refine At.zaE (At.keep (ts:=[1,2,8,9,10,35,36]) (ids:=[2,8,510,28900]) rfl rfl ?_)
         exact At.conv (.cons .q (.cons .q (.cons .q (.cons .qb (.cons .qb (.cons .qi (.cons .qi .nil))))))) (.cons .q (.cons .q (.cons .q (.cons .q .nil)))) (hK11 hi11 (s13,(s11.2++([(p0.Hands.getD ((s13.getD i11 default)).toNat default).Id]:List Int))) H)
     · have H:=H2 (by have:=of_decide_eq_false hb12;omega)
       refine W.exit ?_
       refine At.xthen ?_
       refine At.xthen ?_
       refine At.xhere ?_
       refine At.zad ?_
       refine W.rg env [4,5] [510] ?_
       refine W.ret ?_
       cases H
       exact At.ret env.ty rfl rfl (fun q hq=>by cases hq;exact (by first|rfl|(simp;done)|omega|(simp;omega))) (.refl _) hval
theorem zl7 (p0:(List Int)) {r:(List Int)} (H:zbI p0=some r):Ctr Tryz.prog 70 [roL 1 zaa p0] (roL 1 zaa r):=by
 unfold zbI at H
 refine Ctr.zan (N:=8) Tryz.func70 (by kernel_rfl) (c:=_) rfl Tryz.ntmps70 rfl (fun w0 h0 hval=>?_)
 refine W.rg env [0] [] ?_
 refine W.seq ?_
 refine W.rg env [0,4] [] ?_
 refine W.zpa rfl (fun hz=>?_) ?_
 · obtain rfl:p0=[]:=List.length_eq_zero_iff.1 hz
   obtain ⟨hc1,H⟩:=zab H
   refine W.rg env [2] [] ?_
   refine W.ret ?_
   refine At.rthen ?_
   cases H
   exact At.ret env.ty rfl rfl nofun (Sim.nil _ _) hval
 · refine W.skip ?_
   refine At.zad ?_
   refine W.seq ?_
   obtain ⟨hc1,H⟩:=zab H
   refine W.region env [5] [] rfl rfl rfl (.cons (⟨by first|rfl|(simp;done)|omega|(simp;omega),by have:=hc1;first|simpa using this|(unfold room at this ⊢;simp at this ⊢;omega)⟩) .nil) .nil (At.keep (ts:=[2]) (ids:=[5]) rfl rfl ?_)
   refine At.zbo (.cons (y:=bufL 3 1 zaa (([]:List Int)++p0)) (BSim.seg (Seg.push (Seg.lit (f:=zaa) (sz:=1) ([]:List Int) rfl rfl (fun _=>rfl)) (Seg.refl zaa p0))) .nil) ?_
   refine At.zad ?_
   refine W.ret ?_
   cases H
   exact At.ret env.ty rfl rfl (fun q hq=>by cases hq;exact (by first|rfl|(simp;done)|omega|(simp;omega))) (.refl _) hval
theorem zfm (p0:(List Int)) (p1:Int) (p2:Int) {r:(List Int)} (H:zbW p0 p1 p2=some r):CtrO Tryz.prog 69 [.buf 700 (p0).length,.int .i64 (p1),.int .i64 (p2)] [(700,bufL 3 1 zaa p0)] (.buf 900 r.length) [(900,bufL 3 1 zaa r)]:=by
 unfold zbW at H
 refine CtrO.zan (N:=33) Tryz.func69 (by kernel_rfl) (c:=_) rfl Tryz.ntmps69 rfl (fun w0 h0 ρb hval hdom=>?_)
 refine W.rg env [0,1,2] [700] ?_
 obtain ⟨hc1,H⟩:=zab H
 refine W.sr env [] [] [0,1,2] [700] rfl rfl rfl (.cons (by first|rfl|(simp;done)|omega|(simp;omega)) (.cons (⟨by first|rfl|(simp;done)|omega|(simp;omega),hc1⟩) .nil)) .nil ?_
 refine W.seq ?_
 refine W.rg env [0,1,2,16] [700] ?_
 refine W.cond rfl (fun hb2=>?_) (fun hb2=>?_)
 · have H:=zai H hb2
   refine W.rg env [6] [700] ?_
   refine W.ret ?_
   refine At.rthen ?_
   cases H
   exact At.retK env.ty [700] 200 rfl rfl rfl rfl (.cons (.refl _) .nil) (.of_eq (by refine zkv ?_;first|(simp [zbn];done)|omega|(simp [zbn];omega)|rfl)) hval hdom rfl
 · have H:=zag H hb2
   refine W.skip ?_
   refine At.zad ?_
   refine W.sr env [] [] [0,1,2,7] [700] rfl rfl rfl (.cons (by first|rfl|(simp;done)|omega|(simp;omega)) .nil) .nil ?_
   refine W.seq ?_
   obtain ⟨hc3,H⟩:=zab H
   obtain ⟨hc4,H⟩:=zab H
   obtain ⟨hc5,H⟩:=zab H
   refine W.region env [] [] rfl rfl (by first|rfl|kernel_rfl) (.cons (⟨by first|rfl|(simp;done)|omega|(simp;omega),hc3⟩) (.cons (⟨by first|rfl|(simp;done)|omega|(simp;omega),hc4⟩) (.cons (⟨rfl,rfl,by omega,by omega,by omega⟩) .nil))) .nil (At.keep (ts:=[0,7]) (ids:=[26]) rfl rfl ?_)
   refine At.zbo (.cons (y:=zpM 3 1 p0.length zaa (p0.take ((p1).toNat)++p0.drop ((p2).toNat))) (BSim.kseg (Seg.moved (f:=zaa) (l:=p0) ((p1).toNat) ((p2).toNat) (by omega) (by omega))) .nil) ?_
   refine At.zad ?_
   refine W.seq ?_
   obtain ⟨hc6,H⟩:=zab H
   refine W.region env [] [] rfl rfl rfl (.cons (by first|rfl|(simp;done)|omega|(simp;omega)) (.cons (⟨by first|rfl|(simp;done)|omega|(simp;omega),hc6⟩) (.cons (⟨by first|rfl|(simp;done)|omega|(simp;omega),by first|rfl|(simp;done)|omega|(simp;omega),by first|omega|(simp;omega)⟩) .nil))) .nil (At.keep (ts:=[0]) (ids:=[26]) rfl rfl ?_)
   refine At.zbo (.cons (y:=zpM 3 1 p0.length zaa (p0.take ((p1).toNat)++p0.drop ((p2).toNat))) (BSim.kseg (Seg.refl zaa _)) .nil) ?_
   refine At.zad ?_
   refine W.rg env [6] [26] ?_
   refine W.ret ?_
   cases H
   exact At.retK env.ty [26] 874 rfl rfl rfl rfl (.cons (.bufk (.refl _)) .nil) (.of_eq (by refine zkv ?_;first|(simp [zbn];done)|omega|(simp [zbn];omega)|rfl)) hval hdom rfl
theorem zfI (p0:(List Int)) {r:(List Int)} (H:zbI p0=some r):CtrO Tryz.prog 70 [roL 1 zaa p0] [] (.buf 900 r.length) [(900,bufL 3 1 zaa r)]:=by
 unfold zbI at H
 refine CtrO.zan (N:=8) Tryz.func70 (by kernel_rfl) (c:=_) rfl Tryz.ntmps70 rfl (fun w0 h0 ρb hval hdom=>?_)
 refine W.rg env [0] [] ?_
 refine W.seq ?_
 refine W.rg env [0,4] [] ?_
 refine W.zpa rfl (fun hz=>?_) ?_
 · obtain rfl:p0=[]:=List.length_eq_zero_iff.1 hz
   obtain ⟨hc1,H⟩:=zab H
   refine W.rg env [2] [] ?_
   refine W.ret ?_
   refine At.rthen ?_
   cases H
   refine At.zeR 2 800 3 1 (e:=fun i=>zaa (([]:List Int).getD i default)) rfl rfl ?_
   exact At.retK env.ty [800] 100 rfl rfl rfl rfl (.cons (.refl _) .nil) (.of_eq (by refine zkv ?_;first|(simp [zbn];done)|omega|(simp [zbn];omega)|rfl)) hval hdom rfl
 · refine W.skip ?_
   refine At.zad ?_
   refine W.seq ?_
   obtain ⟨hc1,H⟩:=zab H
   refine W.region env [5] [] rfl rfl rfl (.cons (⟨by first|rfl|(simp;done)|omega|(simp;omega),by have:=hc1;first|simpa using this|(unfold room at this ⊢;simp at this ⊢;omega)⟩) .nil) .nil (At.keep (ts:=[2]) (ids:=[5]) rfl rfl ?_)
   refine At.zbo (.cons (y:=bufL 3 1 zaa (([]:List Int)++p0)) (BSim.seg (Seg.push (Seg.lit (f:=zaa) (sz:=1) ([]:List Int) rfl rfl (fun _=>rfl)) (Seg.refl zaa p0))) .nil) ?_
   refine At.zad ?_
   refine W.ret ?_
   cases H
   exact At.retK env.ty [5] 895 rfl rfl rfl rfl (.cons (.refl _) .nil) (.of_eq (by refine zkv ?_;first|(simp [zbn];done)|omega|(simp [zbn];omega)|rfl)) hval hdom rfl
theorem zkp (fuel:Nat) (p0:Crew) (p1:(List (List Int))) {r:((List Int)×Int)} (H:zei fuel p0 p1=some r):Ctr Tryz.prog 23 [.agg [roL 4 zal p0.Tasks,roL 1 zac p0.Travel,roL 3 zak p0.Hands],roL 1 zaj p1] (.tup [roL 1 zaa r.1,.int .i64 (r.2)]):=by
 unfold zei at H
 refine Ctr.zan (N:=52) Tryz.func23 (by kernel_rfl) (c:=_) rfl Tryz.ntmps23 rfl (fun w0 h0 hval=>?_)
 refine W.rg env [1,2] [2] ?_
 refine W.seq ?_
 obtain ⟨y1,hy2,H⟩:=zaf H
 refine W.region env [] [⟨.tup [.po y1.1.isSome [roL 4 zal ((y1.1.getD default).Crew.Tasks),roL 1 zac ((y1.1.getD default).Crew.Travel),roL 3 zak ((y1.1.getD default).Crew.Hands),roL 1 zaa ((y1.1.getD default).next)],.int .i64 (y1.2)],[],0,[]⟩] rfl rfl rfl .nil (.free (zcS p0 p1 hy2) .nil) (At.keep (ts:=[1,6,7]) (ids:=[]) rfl rfl ?_)
 refine At.zad ?_
 refine W.seq ?_
 refine W.rg env [1,6,7,19] [] ?_
 refine W.cond rfl (fun hb3=>?_) (fun hb3=>?_)
 · have H:=zai H hb3
   refine W.rg env [4,5] [] ?_
   refine W.ret ?_
   refine At.rthen ?_
   cases H
   exact At.ret env.ty rfl rfl nofun (Sim.tupL (.cons (Sim.nil _ _) (.cons (.refl _) .nil))) hval
 · have H:=zag H hb3
   refine W.skip ?_
   refine At.zad ?_
   refine W.rg env [8] [8] ?_
   refine W.seq ?_
   obtain ⟨y4,hy5,H⟩:=zaf H
   refine W.region env [] [⟨roL 1 zaa y4,[],0,[]⟩] rfl rfl rfl .nil (.free (zcp (⟨y1.1,p1⟩:crew_shift) hy5) .nil) (At.keep (ts:=[8,9]) (ids:=[8]) rfl rfl ?_)
   refine At.zad ?_
   refine W.seq ?_
   refine W.seq ?_
   obtain ⟨y6,hy7,H⟩:=zaf H
   obtain ⟨y8,hy9,H⟩:=zaf H
   refine W.region env [] [⟨roL 1 zaa y6,[],0,[]⟩,⟨.bool (y8),[],0,[]⟩] rfl rfl (by kernel_rfl) .nil (.free (zdT (⟨y1.1,p1⟩:crew_shift) hy7) (.free (zcy fuel (⟨y1.1,p1⟩:crew_shift) y4 y6 hy9) .nil)) (At.keep (ts:=[8,9,30]) (ids:=[8]) rfl rfl ?_)
   refine At.zad ?_
   refine W.cond rfl (fun hb10=>?_) (fun hb10=>?_)
   · have H:=zai H hb10
     refine W.rg env [4,5] [] ?_
     refine W.ret ?_
     refine At.rthen ?_
     cases H
     exact At.ret env.ty rfl rfl nofun (Sim.tupL (.cons (Sim.nil _ _) (.cons (.refl _) .nil))) hval
   · have H:=zag H hb10
     refine W.skip ?_
     refine At.zad ?_
     refine W.seq ?_
     obtain ⟨hc11,H⟩:=zab H
     refine W.sr env [] [] [8,9,10] [8] rfl rfl rfl (.cons hc11 .nil) .nil ?_
     refine W.block ?_
     refine At.keep (ts:=[8,9,10]) (ids:=[8]) rfl rfl ?_
     refine W.loopGo H (fun (s12:Int×(List Int))=>[(8,.lp 8 0),(9,roL 1 zaa s12.2),(10,.int .i64 (s12.1))]) (fun (s12:Int×(List Int))=>[(8,.cells [.po y1.1.isSome [roL 4 zal ((y1.1.getD default).Crew.Tasks),roL 1 zac ((y1.1.getD default).Crew.Travel),roL 3 zak ((y1.1.getD default).Crew.Hands),roL 1 zaa ((y1.1.getD default).next)],roL 1 zaj p1])]) (.cons .q (.cons .q (.cons .qi .nil))) (.cons .q .nil) (fun k12 s12 H K0 hK12=>?_)
     refine W.seq ?_
     refine W.rg env [8,9,10,35] [8] ?_
     refine W.cond rfl (fun hb13=>?_) (fun hb13=>?_)
     · have H:=zai H hb13
       refine W.skip ?_
       refine At.zad ?_
       refine W.seq ?_
       refine W.block ?_
       refine W.seq ?_
       obtain ⟨y14,hy15,H⟩:=zaf H
       obtain ⟨hc16,H⟩:=zab H
       obtain ⟨y17,hy18,H⟩:=zaf H
       refine W.region env [] [⟨.buf 900 y14.length,[(900,bufL 3 1 zaa y14)],40000,[]⟩,⟨.buf 900 y17.length,[(40900,.dead),(900,bufL 3 1 zaa y17)],44000,[]⟩] rfl rfl (by kernel_rfl) (.cons hc16 .nil) (.free ((Ctr.ofO (zfI s12.2 hy15))) (.free (CtrO.sim (CtrO.at (zfm y14 s12.1 (s12.1+1) hy18) rfl 40900) (.cons .qc (.cons (.refl _) (.cons (.refl _) .nil))) (.cons (.refl _) .nil)) .nil)) (At.keep (ts:=[8,9,10,11]) (ids:=[8,44900]) rfl rfl ?_)
       refine At.zad ?_
       refine W.seq ?_
       obtain ⟨y19,hy20,H⟩:=zaf H
       obtain ⟨y21,hy22,H⟩:=zaf H
       refine W.region env [] [⟨roL 1 zaa y19,[],0,[]⟩,⟨.bool (y21),[],0,[]⟩] rfl rfl (by kernel_rfl) (.cons (by first|rfl|(simp;done)|omega|(simp;omega)) .nil) (.free (zdT (⟨y1.1,p1⟩:crew_shift) hy20) (.free (zcy fuel (⟨y1.1,p1⟩:crew_shift) y17 y19 hy22) .nil)) (At.keep (ts:=[8,9,10,11,49]) (ids:=[8,44900]) rfl rfl ?_)
       refine At.zad ?_
       refine W.cond rfl (fun hb23=>?_) (fun hb23=>?_)
       · have H:=zai H hb23
         refine W.region env [] [] rfl rfl rfl .nil .nil (At.keep (ts:=[8,9,10]) (ids:=[8,44900]) rfl rfl ?_)
         refine At.inb ?_
         refine At.zad ?_
         obtain ⟨hc24,H⟩:=zab H
         refine W.region env [] [] rfl rfl rfl (.cons hc24 .nil) .nil (At.keep (ts:=[8,9,10]) (ids:=[8,44900]) rfl rfl ?_)
         refine At.zi5 44900 (K:=[8]) (ts:=[8,9,10]) rfl rfl rfl rfl (.cons (by first|rfl|(simp;done)|omega|(simp;omega)) .nil) .nil (fun _ h=>h) ?_
         refine At.zaE (At.keep (ts:=[8,9,10]) (ids:=[8]) rfl rfl ?_)
         exact At.conv (.cons .q (.cons .q (.cons .qi .nil))) (.cons .q .nil) (hK12 ((s12.1 - 1),y17) H)
       · have H:=zag H hb23
         refine W.skip ?_
         refine At.inb ?_
         refine At.zad ?_
         obtain ⟨hc25,H⟩:=zab H
         refine W.region env [] [] rfl rfl rfl (.cons hc25 .nil) .nil (At.keep (ts:=[8,9,10]) (ids:=[8]) rfl rfl ?_)
         refine At.zaE (At.keep (ts:=[8,9,10]) (ids:=[8]) rfl rfl ?_)
         exact At.conv (.cons .q (.cons .q (.cons .qi .nil))) (.cons .q .nil) (hK12 ((s12.1 - 1),s12.2) H)
     · have H:=zag H hb13
       refine W.exit ?_
       refine At.xthen ?_
       refine At.xthen ?_
       refine At.xhere ?_
       refine At.zad ?_
       refine W.rg env [4,5] [] ?_
       refine W.ret ?_
       cases H
       exact At.ret env.ty rfl rfl nofun (.refl _) hval
theorem zeA (p0:(List Hand)) (p1:Hand→Option Bool) (p1_g:Nat) (p1_a p1_b:List AV) (p1_h:∀ x0 r,p1 x0=some r→Ctr Tryz.prog p1_g (p1_a++([.agg [.int .i64 (x0.Id),.int .i64 (x0.From),.int .i64 (x0.To)]]++p1_b)) (.bool (r))) {r:Int} (H:zbj p0 p1=some r):Ctr Tryz.prog 71 [roL 3 zak p0,.clo (.func p1_g) p1_a p1_b] (.int .i64 (r)):=by
 unfold zbj at H
 refine Ctr.zan (N:=19) Tryz.func71 (by kernel_rfl) (c:=_) rfl Tryz.ntmps71 rfl (fun w0 h0 hval=>?_)
 refine W.rg env [0,1] [] ?_
 refine W.seq ?_
 refine W.rg env [0,1,7,8] [] ?_
 refine W.block ?_
 refine At.keep (ts:=[0,1,7,8]) (ids:=[]) rfl rfl ?_
 refine W.len (t:=0) rfl (fun (hn1:p0.length≤maxLen)=>?_)
 refine W.zah H (fun i1 (s1:Unit)=>[(0,roL 3 zak p0),(1,.clo (.func p1_g) p1_a p1_b),(7,.int .i64 (((p0.length:Nat):Int))),(8,.int .i64 ((i1:Int)))]) (fun i1 (s1:Unit)=>[]) (.cons .q (.cons .q (.cons .qi (.cons .qi .nil)))) .nil (fun k1 i1 s1 hle1 H1 H2 K0 hK1=>?_)
 refine W.rg env [0,1,7,8,9] [] ?_
 refine W.seq ?_
 refine W.cond rfl (fun hb2=>?_) (fun hb2=>?_)
 · have hi1:i1<p0.length:=by have:=of_decide_eq_true hb2;omega
   have H:=H1 hi1
   refine W.skip ?_
   refine At.zad ?_
   refine W.seq ?_
   refine W.block ?_
   refine W.rg env [0,1,5,7,8] [] ?_
   refine W.seq ?_
   obtain ⟨y3,hy4,H⟩:=zaf H
   refine W.region env [] [⟨.bool (y3),[],0,[]⟩] rfl rfl rfl (.cons (⟨by omega,by omega⟩:0≤(i1:Int)∧(i1:Int)<((p0.length:Nat):Int)) .nil) (.free (p1_h (p0.getD i1 default) _ hy4) .nil) (At.keep (ts:=[0,1,5,7,8,16]) (ids:=[]) rfl rfl ?_)
   refine At.zad ?_
   refine W.cond rfl (fun hb5=>?_) (fun hb5=>?_)
   · have H:=zai H hb5
     refine W.rg env [4] [] ?_
     refine W.ret ?_
     refine At.rinb ?_
     refine At.rthen ?_
     refine At.rthen ?_
     refine At.rinb ?_
     refine At.rthen ?_
     cases H
     exact At.ret env.ty rfl rfl nofun (.refl _) hval
   · have H:=zag H hb5
     refine W.skip ?_
     refine At.inb ?_
     refine At.zad ?_
     refine W.region env [] [] rfl rfl rfl (.cons (by unfold inI;have:=hn1;(try unfold maxLen at this);omega) .nil) .nil (At.keep (ts:=[0,1,7,8]) (ids:=[]) rfl rfl ?_)
     refine At.zaE (At.keep (ts:=[0,1,7,8]) (ids:=[]) rfl rfl ?_)
     exact At.conv (.cons .q (.cons .q (.cons .qi (.cons .qi .nil)))) .nil (hK1 hi1 () H)
 · have H:=H2 (by have:=of_decide_eq_false hb2;omega)
   refine W.exit ?_
   refine At.xthen ?_
   refine At.xthen ?_
   refine At.xhere ?_
   refine At.zad ?_
   refine W.rg env [4] [] ?_
   refine W.ret ?_
   cases H
   exact At.ret env.ty rfl rfl nofun (.refl _) hval
theorem zfp (p0:Hand) (c0:Int):Ctr Tryz.prog 72 [.agg [.int .i64 (p0.Id),.int .i64 (p0.From),.int .i64 (p0.To)],.rp [.int .i64 (c0)]] (.bool ((zbq p0 c0))):=by
 obtain ⟨r,H⟩:∃ r,zbq p0 c0=r:=⟨_,rfl⟩
 rw [H]
 unfold zbq at H
 refine Ctr.zan (N:=8) Tryz.func72 (by kernel_rfl) (c:=_) rfl Tryz.ntmps72 rfl (fun w0 h0 hval=>?_)
 refine W.rg env [1,2] [2] ?_
 refine W.rg env [3] [] ?_
 refine W.ret ?_
 cases H
 exact At.ret env.ty rfl rfl nofun (.refl _) hval
theorem zf9 (p0:Crew) (p1:(List (List Int))) (p2:(List Int)) {r:Int} (H:zcg p0 p1 p2=some r):Ctr Tryz.prog 24 [.agg [roL 4 zal p0.Tasks,roL 1 zac p0.Travel,roL 3 zak p0.Hands],roL 1 zaj p1,roL 1 zaa p2] (.int .i64 (r)):=by
 unfold zcg at H
 refine Ctr.zan (N:=61) Tryz.func24 (by kernel_rfl) (c:=_) rfl Tryz.ntmps24 rfl (fun w0 h0 hval=>?_)
 refine W.rg env [1,2,3] [3] ?_
 refine W.seq ?_
 obtain ⟨y1,hy2,H⟩:=zaf H
 refine W.region env [] [⟨.tup [.po y1.1.isSome [roL 4 zal ((y1.1.getD default).Crew.Tasks),roL 1 zac ((y1.1.getD default).Crew.Travel),roL 3 zak ((y1.1.getD default).Crew.Hands),roL 1 zaa ((y1.1.getD default).next)],.int .i64 (y1.2)],[],0,[]⟩] rfl rfl rfl .nil (.free (zcS p0 p1 hy2) .nil) (At.keep (ts:=[1,2,3,7,8]) (ids:=[3]) rfl rfl ?_)
 refine At.zad ?_
 refine W.seq ?_
 refine W.rg env [1,2,3,7,8,19] [3] ?_
 refine W.cond rfl (fun hb3=>?_) (fun hb3=>?_)
 · have H:=zai H hb3
   refine W.rg env [6] [] ?_
   refine W.ret ?_
   refine At.rthen ?_
   cases H
   exact At.ret env.ty rfl rfl nofun (.refl _) hval
 · have H:=zag H hb3
   refine W.skip ?_
   refine At.zad ?_
   refine W.seq ?_
   refine W.rg env [1,2,3,7,25] [3] ?_
   refine W.cond rfl (fun hb4=>?_) (fun hb4=>?_)
   · have H:=zai H hb4
     refine W.rg env [6] [] ?_
     refine W.ret ?_
     refine At.rthen ?_
     cases H
     exact At.ret env.ty rfl rfl nofun (.refl _) hval
   · have H:=zag H hb4
     refine W.skip ?_
     refine At.zad ?_
     refine W.seq ?_
     refine W.rg env [1,2,3,7,26,27,28] [3] ?_
     refine W.block ?_
     refine At.keep (ts:=[1,2,3,7,26,27,28]) (ids:=[3]) rfl rfl ?_
     refine W.len (t:=26) rfl (fun (hn5:p2.length≤maxLen)=>?_)
     refine W.zah H (fun i5 (s5:Unit)=>[(1,roL 1 zaj p1),(2,roL 1 zaa p2),(3,.lp 3 0),(7,.po y1.1.isSome [roL 4 zal ((y1.1.getD default).Crew.Tasks),roL 1 zac ((y1.1.getD default).Crew.Travel),roL 3 zak ((y1.1.getD default).Crew.Hands),roL 1 zaa ((y1.1.getD default).next)]),(26,roL 1 zaa p2),(27,.int .i64 (((p2.length:Nat):Int))),(28,.int .i64 ((i5:Int)))]) (fun i5 (s5:Unit)=>[(3,.cells [roL 4 zal p0.Tasks,roL 1 zac p0.Travel,roL 3 zak p0.Hands])]) (.cons .q (.cons .q (.cons .q (.cons .q (.cons .q (.cons .qi (.cons .qi .nil))))))) (.cons .q .nil) (fun k5 i5 s5 hle5 H1 H2 K0 hK5=>?_)
     refine W.rg env [1,2,3,7,26,27,28,29] [3] ?_
     refine W.seq ?_
     refine W.cond rfl (fun hb6=>?_) (fun hb6=>?_)
     · have hi5:i5<p2.length:=by have:=of_decide_eq_true hb6;omega
       have H:=H1 hi5
       refine W.skip ?_
       refine At.zad ?_
       refine W.seq ?_
       refine W.block ?_
       refine W.sr env [] [] [1,2,3,7,9,10,26,27,28] [3,10] rfl rfl rfl (.cons (⟨by omega,by omega⟩:0≤(i5:Int)∧(i5:Int)<((p2.length:Nat):Int)) .nil) .nil ?_
       refine W.seq ?_
       obtain ⟨y7,hy8,H⟩:=zaf H
       refine W.region env [] [⟨.int .i64 (y7),[],0,[]⟩] rfl rfl rfl .nil (.free (zeA p0.Hands (fun x0=>some (zbq x0 (p2.getD i5 default))) 72 [] ([.rp [.int .i64 ((p2.getD i5 default))]]) (fun x0 r h=>by cases h;exact zfp x0 (p2.getD i5 default)) hy8) .nil) (At.keep (ts:=[1,2,3,7,9,10,11,26,27,28]) (ids:=[3,10]) rfl rfl ?_)
       refine At.zad ?_
       refine W.seq ?_
       obtain ⟨hc9,H⟩:=zab H
       obtain ⟨y10,hy11,H⟩:=zaf H
       obtain ⟨hc12,H⟩:=zab H
       obtain ⟨hc13,H⟩:=zab H
       obtain ⟨hc14,H⟩:=zab H
       obtain ⟨y15,hy16,H⟩:=zaf H
       refine W.region env [] [⟨.bool (y10),[],0,[]⟩,⟨.bool (y15),[],0,[]⟩] rfl rfl (by kernel_rfl) (.cons hc9 (.cons id (.cons id (.cons id (.cons id (.cons (fun h=>by rw [h];rfl) (.cons id (.cons hc12 (.cons id (.cons id (.cons id (.cons hc13 (.cons id (.cons id (.cons id (.cons id (.cons id (.cons id (.cons id (.cons (fun h=>by rw [h];rfl) .nil)))))))))))))))))))) (.on (fun hW=>Ctr.sim (.cons (Sim.seg (Seg.take zaa p2 i5 (by omega))) (.cons (.refl _) .nil)) (zdn (p2.take i5) (p2.getD i5 default) (zai hy11 hW))) (.on (fun hW=>Ctr.sim (.cons (Sim.zib (hc14 hW)) (.cons (.refl _) (.cons (.refl _) .nil))) (zcz (y1.1.getD default) (p0.Hands.getD (y7).toNat default) (p1.getD i5 default) (zai hy16 hW))) .nil)) (At.keep (ts:=[1,2,3,7,26,27,28,59]) (ids:=[3]) rfl rfl ?_)
       refine At.zad ?_
       refine W.cond rfl (fun hb17=>?_) (fun hb17=>?_)
       · have H:=zai H hb17
         refine W.rg env [6] [] ?_
         refine W.ret ?_
         refine At.rinb ?_
         refine At.rthen ?_
         refine At.rthen ?_
         refine At.rinb ?_
         refine At.rthen ?_
         cases H
         exact At.ret env.ty rfl rfl nofun (.refl _) hval
       · have H:=zag H hb17
         refine W.skip ?_
         refine At.inb ?_
         refine At.zad ?_
         refine W.region env [] [] rfl rfl rfl (.cons (by unfold inI;have:=hn5;(try unfold maxLen at this);omega) .nil) .nil (At.keep (ts:=[1,2,3,7,26,27,28]) (ids:=[3]) rfl rfl ?_)
         refine At.zaE (At.keep (ts:=[1,2,3,7,26,27,28]) (ids:=[3]) rfl rfl ?_)
         exact At.conv (.cons .q (.cons .q (.cons .q (.cons .q (.cons .q (.cons .qi (.cons .qi .nil))))))) (.cons .q .nil) (hK5 hi5 () H)
     · have H:=H2 (by have:=of_decide_eq_false hb6;omega)
       refine W.exit ?_
       refine At.xthen ?_
       refine At.xthen ?_
       refine At.xhere ?_
       refine At.zad ?_
       refine W.rg env [6] [] ?_
       refine W.ret ?_
       cases H
       exact At.ret env.ty rfl rfl nofun (.refl _) hval
theorem zfN (p0:Int) (c0:crew_plan) (c1:Hand) (c2:(List (List Int))) {r:Bool} (H:zbe p0 c0 c1 c2=some r):Ctr Tryz.prog 74 [.int .i64 (p0),.rp [.rp [roL 4 zal c0.Crew.Tasks,roL 1 zac c0.Crew.Travel,roL 3 zak c0.Crew.Hands,roL 1 zaa c0.next]],.rp [.int .i64 (c1.Id),.int .i64 (c1.From),.int .i64 (c1.To)],.rp [roL 1 zaj c2]] (.bool (r)):=by
 unfold zbe at H
 refine Ctr.zan (N:=13) Tryz.func74 (by kernel_rfl) (c:=_) rfl Tryz.ntmps74 rfl (fun w0 h0 hval=>?_)
 refine W.rg env [0,1,2,3] [] ?_
 refine W.seq ?_
 obtain ⟨hc1,H⟩:=zab H
 obtain ⟨y2,hy3,H⟩:=zaf H
 refine W.region env [] [⟨.bool (y2),[],0,[]⟩] rfl rfl (by kernel_rfl) (.cons hc1 .nil) (.free (zcz c0 c1 (c2.getD (p0).toNat default) hy3) .nil) (At.keep (ts:=[5]) (ids:=[]) rfl rfl ?_)
 refine At.zad ?_
 refine W.ret ?_
 cases H
 exact At.ret env.ty rfl rfl nofun (.refl _) hval
theorem zgG (p0:Crew) (p1:(List (List Int))) (p2:(List Int)) {r:Int} (H:zb2 p0 p1 p2=some r):Ctr Tryz.prog 25 [.agg [roL 4 zal p0.Tasks,roL 1 zac p0.Travel,roL 3 zak p0.Hands],roL 1 zaj p1,roL 1 zaa p2] (.int .i64 (r)):=by
 unfold zb2 at H
 refine Ctr.zan (N:=67) Tryz.func25 (by kernel_rfl) (c:=_) rfl Tryz.ntmps25 rfl (fun w0 h0 hval=>?_)
 refine W.rg env [2,3,4] [3,4] ?_
 refine W.seq ?_
 obtain ⟨y1,hy2,H⟩:=zaf H
 refine W.region env [] [⟨.tup [.po y1.1.isSome [roL 4 zal ((y1.1.getD default).Crew.Tasks),roL 1 zac ((y1.1.getD default).Crew.Travel),roL 3 zak ((y1.1.getD default).Crew.Hands),roL 1 zaa ((y1.1.getD default).next)],.int .i64 (y1.2)],[],0,[]⟩] rfl rfl rfl .nil (.free (zcS p0 p1 hy2) .nil) (At.keep (ts:=[2,3,4,7,8]) (ids:=[3,4,7]) rfl rfl ?_)
 refine At.zad ?_
 refine W.seq ?_
 refine W.rg env [2,3,4,7,8,21] [3,4,7] ?_
 refine W.cond rfl (fun hb3=>?_) (fun hb3=>?_)
 · have H:=zai H hb3
   refine W.rg env [6] [] ?_
   refine W.ret ?_
   refine At.rthen ?_
   cases H
   exact At.ret env.ty rfl rfl nofun (.refl _) hval
 · have H:=zag H hb3
   refine W.skip ?_
   refine At.zad ?_
   refine W.rg env [2,3,4,7,9] [3,4,7] ?_
   refine W.seq ?_
   refine W.rg env [2,3,4,7,9,23,24,25] [3,4,7] ?_
   refine W.block ?_
   refine At.keep (ts:=[2,3,4,7,9,23,24,25]) (ids:=[3,4,7]) rfl rfl ?_
   refine W.len (t:=23) rfl (fun (hn4:p2.length≤maxLen)=>?_)
   refine W.zah H (fun i4 (s4:Unit)=>[(2,roL 1 zaa p2),(3,.lp 3 0),(4,.lp 4 0),(7,.lp 7 0),(9,.int .i64 (0)),(23,roL 1 zaa p2),(24,.int .i64 (((p2.length:Nat):Int))),(25,.int .i64 ((i4:Int)))]) (fun i4 (s4:Unit)=>[(3,.cells [roL 4 zal p0.Tasks,roL 1 zac p0.Travel,roL 3 zak p0.Hands]),(4,.cells [roL 1 zaj p1]),(7,.cells [.po y1.1.isSome [roL 4 zal ((y1.1.getD default).Crew.Tasks),roL 1 zac ((y1.1.getD default).Crew.Travel),roL 3 zak ((y1.1.getD default).Crew.Hands),roL 1 zaa ((y1.1.getD default).next)]])]) (.cons .q (.cons .q (.cons .q (.cons .q (.cons .qi (.cons .q (.cons .qi (.cons .qi .nil)))))))) (.cons .q (.cons .q (.cons .q .nil))) (fun k4 i4 s4 hle4 H1 H2 K0 hK4=>?_)
   refine W.rg env [2,3,4,7,9,23,24,25,26] [3,4,7] ?_
   refine W.seq ?_
   refine W.cond rfl (fun hb5=>?_) (fun hb5=>?_)
   · have hi4:i4<p2.length:=by have:=of_decide_eq_true hb5;omega
     have H:=H1 hi4
     refine W.skip ?_
     refine At.zad ?_
     refine W.seq ?_
     refine W.block ?_
     refine W.sr env [] [] [2,3,4,7,9,10,11,23,24,25] [3,4,7] rfl rfl rfl (.cons (⟨by omega,by omega⟩:0≤(i4:Int)∧(i4:Int)<((p2.length:Nat):Int)) .nil) .nil ?_
     obtain ⟨hc6,H⟩:=zab H
     obtain ⟨hc7,H⟩:=zab H
     obtain ⟨hc8,H⟩:=zab H
     refine W.sr env [] [⟨.bool ((zaH (p2.getD i4 default) 0 (((p1.length:Nat):Int) - 1))),[],0,[]⟩] [2,3,4,7,9,23,24,25,48] [3,4,7] rfl rfl rfl (.cons hc6 (.cons id (.cons id (.cons hc7 (.cons id (.cons hc8 (.cons id (.cons id (.cons id (.cons id (.cons id (.cons id (.cons (fun hW h=>by revert hW h;first|(simp +contextual;done)|grind) (.cons (fun h=>by rw [h];rfl) .nil)))))))))))))) (.free (zcq (p2.getD i4 default) 0 (((p1.length:Nat):Int) - 1)) .nil) ?_
     refine W.cond rfl (fun hb9=>?_) (fun hb9=>?_)
     · have H:=zai H hb9
       refine W.rg env [6] [] ?_
       refine W.ret ?_
       refine At.rinb ?_
       refine At.rthen ?_
       refine At.rthen ?_
       refine At.rinb ?_
       refine At.rthen ?_
       cases H
       exact At.ret env.ty rfl rfl nofun (.refl _) hval
     · have H:=zag H hb9
       refine W.skip ?_
       refine At.inb ?_
       refine At.zad ?_
       refine W.region env [] [] rfl rfl rfl (.cons (by unfold inI;have:=hn4;(try unfold maxLen at this);omega) .nil) .nil (At.keep (ts:=[2,3,4,7,9,23,24,25]) (ids:=[3,4,7]) rfl rfl ?_)
       refine At.zaE (At.keep (ts:=[2,3,4,7,9,23,24,25]) (ids:=[3,4,7]) rfl rfl ?_)
       exact At.conv (.cons .q (.cons .q (.cons .q (.cons .q (.cons .qi (.cons .q (.cons .qi (.cons .qi .nil)))))))) (.cons .q (.cons .q (.cons .q .nil))) (hK4 hi4 () H)
   · have H:=H2 (by have:=of_decide_eq_false hb5;omega)
     refine W.exit ?_
     refine At.xthen ?_
     refine At.xthen ?_
     refine At.xhere ?_
     refine At.zad ?_
     refine W.seq ?_
     refine W.rg env [2,4,7,9,51,52,53] [4,7] ?_
     refine W.block ?_
     refine At.keep (ts:=[2,4,7,9,51,52,53]) (ids:=[4,7]) rfl rfl ?_
     refine W.len (t:=51) rfl (fun (hn10:p0.Hands.length≤maxLen)=>?_)
     refine W.zah H (fun i10 (s10:Int)=>[(2,roL 1 zaa p2),(4,.lp 4 0),(7,.lp 7 0),(9,.int .i64 (s10)),(51,roL 3 zak p0.Hands),(52,.int .i64 (((p0.Hands.length:Nat):Int))),(53,.int .i64 ((i10:Int)))]) (fun i10 (s10:Int)=>[(4,.cells [roL 1 zaj p1]),(7,.cells [.po y1.1.isSome [roL 4 zal ((y1.1.getD default).Crew.Tasks),roL 1 zac ((y1.1.getD default).Crew.Travel),roL 3 zak ((y1.1.getD default).Crew.Hands),roL 1 zaa ((y1.1.getD default).next)]])]) (.cons .q (.cons .q (.cons .q (.cons .qi (.cons .q (.cons .qi (.cons .qi .nil))))))) (.cons .q (.cons .q .nil)) (fun k10 i10 s10 hle10 H1 H2 K0 hK10=>?_)
     refine W.rg env [2,4,7,9,51,52,53,54] [4,7] ?_
     refine W.seq ?_
     refine W.cond rfl (fun hb11=>?_) (fun hb11=>?_)
     · have hi10:i10<p0.Hands.length:=by have:=of_decide_eq_true hb11;omega
       have H:=H1 hi10
       refine W.skip ?_
       refine At.zad ?_
       refine W.seq ?_
       refine W.block ?_
       refine W.sr env [] [] [2,4,7,9,13,51,52,53] [4,7,13] rfl rfl rfl (.cons (⟨by omega,by omega⟩:0≤(i10:Int)∧(i10:Int)<((p0.Hands.length:Nat):Int)) .nil) .nil ?_
       refine W.seq ?_
       obtain ⟨hc12,H⟩:=zab H
       obtain ⟨y13,hy14,H⟩:=zaf H
       refine W.region env [] [⟨.bool (y13),[],0,[]⟩] rfl rfl rfl .nil (.free (zbP p2 (fun x0=>zbe x0 (y1.1.getD default) (p0.Hands.getD i10 default) p1) 74 [] ([.rp [.po y1.1.isSome [roL 4 zal ((y1.1.getD default).Crew.Tasks),roL 1 zac ((y1.1.getD default).Crew.Travel),roL 3 zak ((y1.1.getD default).Crew.Hands),roL 1 zaa ((y1.1.getD default).next)]],.rp [.int .i64 ((p0.Hands.getD i10 default).Id),.int .i64 ((p0.Hands.getD i10 default).From),.int .i64 ((p0.Hands.getD i10 default).To)],.rp [roL 1 zaj p1]]) (fun x0 r h=>Ctr.sim (.cons (.refl _) (.cons (Sim.rp (.cons (Sim.zib hc12) .nil)) (.cons (.refl _) (.cons (.refl _) .nil)))) (zfN x0 (y1.1.getD default) (p0.Hands.getD i10 default) p1 h)) hy14) .nil) (At.keep (ts:=[2,4,7,9,51,52,53,59]) (ids:=[4,7]) rfl rfl ?_)
       refine At.zad ?_
       refine W.cond rfl (fun hb15=>?_) (fun hb15=>?_)
       · have H:=zai H hb15
         obtain ⟨hc16,H⟩:=zab H
         refine W.region env [] [] rfl rfl rfl (.cons hc16 .nil) .nil (At.keep (ts:=[2,4,7,9,51,52,53]) (ids:=[4,7]) rfl rfl ?_)
         refine At.inb ?_
         refine At.zad ?_
         refine W.region env [] [] rfl rfl rfl (.cons (by unfold inI;have:=hn10;(try unfold maxLen at this);omega) .nil) .nil (At.keep (ts:=[2,4,7,9,51,52,53]) (ids:=[4,7]) rfl rfl ?_)
         refine At.zaE (At.keep (ts:=[2,4,7,9,51,52,53]) (ids:=[4,7]) rfl rfl ?_)
         exact At.conv (.cons .q (.cons .q (.cons .q (.cons .qi (.cons .q (.cons .qi (.cons .qi .nil))))))) (.cons .q (.cons .q .nil)) (hK10 hi10 (s10+1) H)
       · have H:=zag H hb15
         refine W.skip ?_
         refine At.inb ?_
         refine At.zad ?_
         refine W.region env [] [] rfl rfl rfl (.cons (by unfold inI;have:=hn10;(try unfold maxLen at this);omega) .nil) .nil (At.keep (ts:=[2,4,7,9,51,52,53]) (ids:=[4,7]) rfl rfl ?_)
         refine At.zaE (At.keep (ts:=[2,4,7,9,51,52,53]) (ids:=[4,7]) rfl rfl ?_)
         exact At.conv (.cons .q (.cons .q (.cons .q (.cons .qi (.cons .q (.cons .qi (.cons .qi .nil))))))) (.cons .q (.cons .q .nil)) (hK10 hi10 s10 H)
     · have H:=H2 (by have:=of_decide_eq_false hb11;omega)
       refine W.exit ?_
       refine At.xthen ?_
       refine At.xthen ?_
       refine At.xhere ?_
       refine At.zad ?_
       refine W.seq ?_
       refine W.rg env [66] [] ?_
       refine W.cond rfl (fun hb17=>?_) (fun hb17=>?_)
       · have H:=zai H hb17
         refine W.rg env [6] [] ?_
         refine W.ret ?_
         refine At.rthen ?_
         cases H
         exact At.ret env.ty rfl rfl nofun (.refl _) hval
       · have H:=zag H hb17
         refine W.skip ?_
         refine At.zad ?_
         refine W.rg env [6] [] ?_
         refine W.ret ?_
         cases H
         exact At.ret env.ty rfl rfl nofun (.refl _) hval
end Go.Sp
