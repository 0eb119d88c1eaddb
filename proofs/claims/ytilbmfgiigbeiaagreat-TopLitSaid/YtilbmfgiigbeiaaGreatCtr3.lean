/- Printed by gen.py: contracts, part 3. -/
import Derived.Test.YtilbmfgiigbeiaaGreatCtr2
set_option linter.all false
set_option maxRecDepth 100000
set_option maxHeartbeats 1000000
namespace Go.Sp
open Go Go.Av Go.Proofs
theorem zfn (fuel:Nat) (p0:gasoliertop_Town) {r:Bool} (H:zbp fuel p0=some r):Ctr Tryz.prog 3 [.agg [roL 3 zaF p0.Ways,roL 3 zaF p0.Lamps,.int .i64 (p0.Law.x0),.int .i64 (p0.Law.x1),.int .i64 (p0.Law.x2),.int .i64 (p0.Law.x3),.int .i64 (p0.Night.x0),.int .i64 (p0.Night.x1),.int .i64 (p0.Night.x2),.int .i64 (p0.Night.x3),roL 2 zbb p0.Hands]] (.bool (r)):=by
 unfold zbp at H
 refine Ctr.zan (N:=415) Tryz.func3 (by kernel_rfl) (c:=_) rfl Tryz.ntmps3 rfl (fun w0 h0 hval=>?_)
 refine W.rg env [1] [1] ?_
 refine W.seq ?_
 obtain ⟨y1,hy2,H⟩:=zaf H
 refine W.region env [] [⟨.bool (y1),[],0,[]⟩] rfl rfl rfl .nil (.free (zfL 20000 hy2) .nil) (At.keep (ts:=[1,3]) (ids:=[1]) rfl rfl ?_)
 refine At.zad ?_
 refine W.seq ?_
 obtain ⟨y3,hy4,H⟩:=zaf H
 refine W.region env [] [⟨.tup [.agg [.int .i64 (y3.1.Places),roL 7 zaC y3.1.Ways],roL 1 zaa y3.2],[],0,[]⟩] rfl rfl rfl .nil (.free (ze1 fuel p0 hy4) .nil) (At.keep (ts:=[1,3,4,5]) (ids:=[1,4]) rfl rfl ?_)
 refine At.zad ?_
 refine W.rg env [1,3,4,5,6] [1,4] ?_
 refine W.seq ?_
 obtain ⟨y5,hy6,H⟩:=zaf H
 refine W.region env [] [⟨.tup [.agg [roL 11 zaK y5.1.Versions,roL 5 zaI y5.1.Streets],.agg [.int .i64 (y5.2.No),.int .i64 (y5.2.Set.Lo),.int .i64 (y5.2.Set.Hi),.int .i64 (y5.2.Rise.Lo),.int .i64 (y5.2.Rise.Hi),.int .i64 (y5.2.Light.Lo),.int .i64 (y5.2.Light.Hi),.int .i64 (y5.2.Fog)]],[],0,[]⟩] rfl rfl rfl .nil (.free (zfM p0 (min ((p0.Lamps.length:Nat):Int) 9) hy6) .nil) (At.keep (ts:=[1,3,4,5,6,7,8]) (ids:=[1,4,7,8]) rfl rfl ?_)
 refine At.zad ?_
 refine W.seq ?_
 obtain ⟨y7,hy8,H⟩:=zaf H
 refine W.region env [] [⟨.tup [roL 1 zac y7.1,.int .i64 (y7.2)],[],0,[]⟩] rfl rfl rfl .nil (.free (zfv fuel y3.1 hy8) .nil) (At.keep (ts:=[1,3,4,5,6,7,8,9,10]) (ids:=[1,4,7,8]) rfl rfl ?_)
 refine At.zad ?_
 refine W.seq ?_
 refine W.seq ?_
 obtain ⟨y9,hy10,H⟩:=zaf H
 obtain ⟨y11,hy12,H⟩:=zaf H
 refine W.region env [] [⟨.int .i64 (y9),[],0,[]⟩,⟨.int .i64 (y11),[],0,[]⟩] rfl rfl rfl (.cons id (.cons (fun h=>by rw [h];rfl) (.cons id (.cons id (.cons id (.cons (fun h=>by rw [h];rfl) (.cons id (.cons id (.cons (fun h=>by rw [h];rfl) .nil))))))))) (.on (fun hW=>zgE y3.1 y3.2 (zai hy10 hW)) (.on (fun hW=>zeC y5.1 (zai hy12 hW)) .nil)) (At.keep (ts:=[1,4,5,6,7,8,9,79]) (ids:=[1,4,7,8]) rfl rfl ?_)
 refine At.zad ?_
 refine W.cond rfl (fun hb13=>?_) (fun hb13=>?_)
 · have H:=zai H hb13
   refine W.rg env [2] [] ?_
   refine W.ret ?_
   refine At.rthen ?_
   cases H
   exact At.ret env.ty rfl rfl nofun (.refl _) hval
 · have H:=zag H hb13
   refine W.skip ?_
   refine At.zad ?_
   refine W.rg env [1,4,5,6,7,8,11] [1,4,7,8,11] ?_
   refine W.seq ?_
   refine W.rg env [1,4,5,6,7,8,11,12] [1,4,7,8,11] ?_
   refine W.block ?_
   refine At.zgs 11 0 1150 61 4 (e:=fun i=>zal (([]:List Task).getD i default)) rfl rfl rfl ?_
   refine At.keep (ts:=[1,4,5,6,7,8,11,12]) (ids:=[1,4,7,8,11,1150]) rfl rfl ?_
   refine W.loopGo H (fun (s14:Int×(List Task))=>[(1,.lp 1 0),(4,.lp 4 0),(5,roL 1 zaa y3.2),(6,.int .i64 ((min ((p0.Lamps.length:Nat):Int) 9))),(7,.lp 7 0),(8,.lp 8 0),(11,.lp 11 0),(12,.int .i64 (s14.1))]) (fun (s14:Int×(List Task))=>[(1,.cells [roL 3 zaF p0.Ways,roL 3 zaF p0.Lamps,.int .i64 (p0.Law.x0),.int .i64 (p0.Law.x1),.int .i64 (p0.Law.x2),.int .i64 (p0.Law.x3),.int .i64 (p0.Night.x0),.int .i64 (p0.Night.x1),.int .i64 (p0.Night.x2),.int .i64 (p0.Night.x3),roL 2 zbb p0.Hands]),(4,.cells [.int .i64 (y3.1.Places),roL 7 zaC y3.1.Ways]),(7,.cells [roL 11 zaK y5.1.Versions,roL 5 zaI y5.1.Streets]),(8,.cells [.int .i64 (y5.2.No),.int .i64 (y5.2.Set.Lo),.int .i64 (y5.2.Set.Hi),.int .i64 (y5.2.Rise.Lo),.int .i64 (y5.2.Rise.Hi),.int .i64 (y5.2.Light.Lo),.int .i64 (y5.2.Light.Hi),.int .i64 (y5.2.Fog)]),(11,.cells [.buf 1150 (s14.2).length,roL 1 zac y7.1,.nilS]),(1150,bufL 61 4 zal s14.2)]) (.cons .q (.cons .q (.cons .q (.cons .qi (.cons .q (.cons .q (.cons .q (.cons .qi .nil)))))))) (.cons .q (.cons .q (.cons .q (.cons .q (.cons (BSim.cells (.cons .qc (.cons .q (.cons .q .nil)))) (.cons .q .nil)))))) (fun k14 s14 H K0 hK14=>?_)
   refine W.seq ?_
   refine W.rg env [1,4,5,6,7,8,11,12,84] [1,4,7,8,11,1150] ?_
   refine W.cond rfl (fun hb15=>?_) (fun hb15=>?_)
   · have H:=zai H hb15
     refine W.skip ?_
     refine At.zad ?_
     refine W.seq ?_
     refine W.block ?_
     refine W.seq ?_
     obtain ⟨hc16,H⟩:=zab H
     obtain ⟨y17,hy18,H⟩:=zaf H
     refine W.region env [] [⟨.tup [.agg [.int .i64 (y17.1.Lit),.int .i64 (y17.1.On.Lo),.int .i64 (y17.1.On.Hi),.int .i64 (y17.1.Off.Lo),.int .i64 (y17.1.Off.Hi)],.int .i64 (y17.2)],[],0,[]⟩] rfl rfl rfl (.cons hc16 .nil) (.free (zks y5.1 (1+s14.1) y5.2 3 hy18) .nil) (At.keep (ts:=[1,4,5,6,7,8,11,12,13,14]) (ids:=[1,4,7,8,11,13,1150]) rfl rfl ?_)
     refine At.zad ?_
     refine W.seq ?_
     refine W.rg env [1,4,5,6,7,8,11,12,13,14,96] [1,4,7,8,11,13,1150] ?_
     refine W.cond rfl (fun hb19=>?_) (fun hb19=>?_)
     · have H:=zai H hb19
       refine W.rg env [2] [] ?_
       refine W.ret ?_
       refine At.rthen ?_
       refine At.rinb ?_
       refine At.rthen ?_
       refine At.rthen ?_
       refine At.rinb ?_
       refine At.rthen ?_
       cases H
       exact At.ret env.ty rfl rfl nofun (.refl _) hval
     · have H:=zag H hb19
       refine W.skip ?_
       refine At.zad ?_
       refine W.seq ?_
       refine W.sr env [] [] [1,4,5,6,7,8,11,12,13,103] [1,4,7,8,11,13,1150] rfl rfl rfl (.cons id (.cons id (.cons (fun h=>by rw [h];rfl) .nil))) .nil ?_
       refine W.cond rfl (fun hb20=>?_) (fun hb20=>?_)
       · have H:=zai H hb20
         refine W.rg env [2] [] ?_
         refine W.ret ?_
         refine At.rthen ?_
         refine At.rinb ?_
         refine At.rthen ?_
         refine At.rthen ?_
         refine At.rinb ?_
         refine At.rthen ?_
         cases H
         exact At.ret env.ty rfl rfl nofun (.refl _) hval
       · have H:=zag H hb20
         refine W.skip ?_
         refine At.zad ?_
         obtain ⟨hc21,H⟩:=zab H
         obtain ⟨hc22,H⟩:=zab H
         obtain ⟨y23,hy24,H⟩:=zaf H
         obtain ⟨hc25,H⟩:=zab H
         obtain ⟨hc26,H⟩:=zab H
         obtain ⟨hc27,H⟩:=zab H
         obtain ⟨y28,hy29,H⟩:=zaf H
         obtain ⟨hc30,H⟩:=zab H
         obtain ⟨hc31,H⟩:=zab H
         obtain ⟨y32,hy33,H⟩:=zaf H
         obtain ⟨hc34,H⟩:=zab H
         obtain ⟨hc35,H⟩:=zab H
         refine W.region env [] [⟨.int .i64 (y23),[],0,[]⟩,⟨.int .i64 (y28),[],0,[]⟩,⟨.int .i64 (y32),[],0,[]⟩] rfl rfl (by kernel_rfl) (.cons hc21 (.cons hc22 (.cons (by decide) (.cons hc25 (.cons (by decide) (.cons hc26 (.cons hc27 (.cons hc30 (.cons hc31 (.cons (by decide) (.cons hc34 (.cons (⟨by first|rfl|(simp;done)|omega|(simp;omega),by have:=hc35;first|simpa using this|(unfold room at this ⊢;simp at this ⊢;omega)⟩) .nil)))))))))))) (.free (zax ((p0.Lamps.getD (s14.1).toNat default).x0) 3 hy24) (.free (zax ((p0.Lamps.getD (s14.1).toNat default).x1) ((y17.1.On.Hi - y17.1.On.Lo)+1) hy29) (.free (zax ((p0.Lamps.getD (s14.1).toNat default).x2) 4 hy33) .nil))) (At.keep (ts:=[1,4,5,6,7,8,11,12]) (ids:=[1,4,7,8,11,1150]) rfl rfl ?_)
         refine At.zbo (.cons (.refl _) (.cons (.refl _) (.cons (.refl _) (.cons (.refl _) (.cons (.refl _) (.cons (y:=bufL 61 4 zal (s14.2++([(⟨(1+s14.1),y23,(y17.1.On.Lo+y28),(1+y32)⟩:Task)]:List Task))) (BSim.seg (Seg.push (Seg.refl zal _) (Seg.lit (f:=zal) (sz:=4) ([(⟨(1+s14.1),y23,(y17.1.On.Lo+y28),(1+y32)⟩:Task)]:List Task) rfl rfl (fun _=>rfl)))) .nil)))))) ?_
         refine At.inb ?_
         refine At.zad ?_
         obtain ⟨hc36,H⟩:=zab H
         refine W.region env [] [] rfl rfl rfl (.cons hc36 .nil) .nil (At.keep (ts:=[1,4,5,6,7,8,11,12]) (ids:=[1,4,7,8,11,1150]) rfl rfl ?_)
         refine At.zaE (At.keep (ts:=[1,4,5,6,7,8,11,12]) (ids:=[1,4,7,8,11,1150]) rfl rfl ?_)
         exact At.conv (.cons .q (.cons .q (.cons .q (.cons .qi (.cons .q (.cons .q (.cons .q (.cons .qi .nil)))))))) (.cons .q (.cons .q (.cons .q (.cons .q (.cons (BSim.cells (.cons .qc (.cons .q (.cons .q .nil)))) (.cons .q .nil)))))) (hK14 ((s14.1+1),(s14.2++([(⟨(1+s14.1),y23,(y17.1.On.Lo+y28),(1+y32)⟩:Task)]:List Task))) H)
   · have H:=zag H hb15
     refine W.exit ?_
     refine At.xthen ?_
     refine At.xthen ?_
     refine At.xhere ?_
     refine At.zad ?_
     refine W.seq ?_
     refine W.rg env [1,4,5,6,7,8,11,15] [1,4,7,8,11,1150] ?_
     refine W.block ?_
     refine At.zgs 11 2 1152 64 3 (e:=fun i=>zak (([]:List Hand).getD i default)) rfl rfl rfl ?_
     refine At.keep (ts:=[1,4,5,6,7,8,11,15]) (ids:=[1,4,7,8,11,1150,1152]) rfl rfl ?_
     refine W.loopGo H (fun (s37:Int×(List Hand))=>[(1,.lp 1 0),(4,.lp 4 0),(5,roL 1 zaa y3.2),(6,.int .i64 ((min ((p0.Lamps.length:Nat):Int) 9))),(7,.lp 7 0),(8,.lp 8 0),(11,.lp 11 0),(15,.int .i64 (s37.1))]) (fun (s37:Int×(List Hand))=>[(1,.cells [roL 3 zaF p0.Ways,roL 3 zaF p0.Lamps,.int .i64 (p0.Law.x0),.int .i64 (p0.Law.x1),.int .i64 (p0.Law.x2),.int .i64 (p0.Law.x3),.int .i64 (p0.Night.x0),.int .i64 (p0.Night.x1),.int .i64 (p0.Night.x2),.int .i64 (p0.Night.x3),roL 2 zbb p0.Hands]),(4,.cells [.int .i64 (y3.1.Places),roL 7 zaC y3.1.Ways]),(7,.cells [roL 11 zaK y5.1.Versions,roL 5 zaI y5.1.Streets]),(8,.cells [.int .i64 (y5.2.No),.int .i64 (y5.2.Set.Lo),.int .i64 (y5.2.Set.Hi),.int .i64 (y5.2.Rise.Lo),.int .i64 (y5.2.Rise.Hi),.int .i64 (y5.2.Light.Lo),.int .i64 (y5.2.Light.Hi),.int .i64 (y5.2.Fog)]),(11,.cells [.buf 1150 (s14.2).length,roL 1 zac y7.1,.buf 1152 (s37.2).length]),(1150,bufL 61 4 zal s14.2),(1152,bufL 64 3 zak s37.2)]) (.cons .q (.cons .q (.cons .q (.cons .qi (.cons .q (.cons .q (.cons .q (.cons .qi .nil)))))))) (.cons .q (.cons .q (.cons .q (.cons .q (.cons (BSim.cells (.cons .qc (.cons .q (.cons .qc .nil)))) (.cons .q (.cons .q .nil))))))) (fun k37 s37 H K0 hK37=>?_)
     refine W.seq ?_
     refine W.sr env [] [] [1,4,5,6,7,8,11,15,154] [1,4,7,8,11,1150,1152] rfl rfl rfl (.cons id (.cons id .nil)) .nil ?_
     refine W.cond rfl (fun hb38=>?_) (fun hb38=>?_)
     · have H:=zai H hb38
       refine W.skip ?_
       refine At.zad ?_
       refine W.seq ?_
       refine W.block ?_
       refine W.seq ?_
       obtain ⟨hc39,H⟩:=zab H
       obtain ⟨y40,hy41,H⟩:=zaf H
       obtain ⟨hc42,H⟩:=zab H
       refine W.region env [] [⟨.int .i64 (y40),[],0,[]⟩] rfl rfl rfl (.cons hc39 (.cons (by decide) (.cons hc42 .nil))) (.free (zax ((p0.Hands.getD (s37.1).toNat default).x0) 100 hy41) .nil) (At.keep (ts:=[1,4,5,6,7,8,11,15,16]) (ids:=[1,4,7,8,11,1150,1152]) rfl rfl ?_)
       refine At.zad ?_
       obtain ⟨hc43,H⟩:=zab H
       obtain ⟨hc44,H⟩:=zab H
       obtain ⟨y45,hy46,H⟩:=zaf H
       obtain ⟨hc47,H⟩:=zab H
       obtain ⟨hc48,H⟩:=zab H
       refine W.region env [] [⟨.int .i64 (y45),[],0,[]⟩] rfl rfl (by kernel_rfl) (.cons hc43 (.cons hc44 (.cons (by decide) (.cons hc47 (.cons (⟨by first|rfl|(simp;done)|omega|(simp;omega),by have:=hc48;first|simpa using this|(unfold room at this ⊢;simp at this ⊢;omega)⟩) .nil))))) (.free (zax ((p0.Hands.getD (s37.1).toNat default).x1) 250 hy46) .nil) (At.keep (ts:=[1,4,5,6,7,8,11,15]) (ids:=[1,4,7,8,11,1150,1152]) rfl rfl ?_)
       refine At.zbo (.cons (.refl _) (.cons (.refl _) (.cons (.refl _) (.cons (.refl _) (.cons (.refl _) (.cons (.refl _) (.cons (y:=bufL 64 3 zak (s37.2++([(⟨(1+s37.1),(260+y40),((260+y40)+y45)⟩:Hand)]:List Hand))) (BSim.seg (Seg.push (Seg.refl zak _) (Seg.lit (f:=zak) (sz:=3) ([(⟨(1+s37.1),(260+y40),((260+y40)+y45)⟩:Hand)]:List Hand) rfl rfl (fun _=>rfl)))) .nil))))))) ?_
       refine At.inb ?_
       refine At.zad ?_
       obtain ⟨hc49,H⟩:=zab H
       refine W.region env [] [] rfl rfl rfl (.cons hc49 .nil) .nil (At.keep (ts:=[1,4,5,6,7,8,11,15]) (ids:=[1,4,7,8,11,1150,1152]) rfl rfl ?_)
       refine At.zaE (At.keep (ts:=[1,4,5,6,7,8,11,15]) (ids:=[1,4,7,8,11,1150,1152]) rfl rfl ?_)
       exact At.conv (.cons .q (.cons .q (.cons .q (.cons .qi (.cons .q (.cons .q (.cons .q (.cons .qi .nil)))))))) (.cons .q (.cons .q (.cons .q (.cons .q (.cons (BSim.cells (.cons .qc (.cons .q (.cons .qc .nil)))) (.cons .q (.cons .q .nil))))))) (hK37 ((s37.1+1),(s37.2++([(⟨(1+s37.1),(260+y40),((260+y40)+y45)⟩:Hand)]:List Hand))) H)
     · have H:=zag H hb38
       refine W.exit ?_
       refine At.xthen ?_
       refine At.xthen ?_
       refine At.xhere ?_
       refine At.zad ?_
       refine W.seq ?_
       refine At.zi5 1150 (K:=[1,4,7,8,11,1152]) (ts:=[1,4,5,6,7,8,11]) rfl rfl rfl rfl .nil (.cons (by first|rfl|(simp;done)|omega|(simp;omega)) .nil) (fun _ h=>h) ?_
       refine At.zi5 1152 (K:=[1,4,7,8,11]) (ts:=[1,4,5,6,7,8,11]) rfl rfl rfl rfl .nil (.cons (by first|rfl|(simp;done)|omega|(simp;omega)) .nil) (fun _ h=>h) ?_
       obtain ⟨y50,hy51,H⟩:=zaf H
       refine W.region env [] [⟨.tup [roL 1 zaj y50.1,.int .i64 (y50.2)],[],0,[]⟩] rfl rfl rfl .nil (.free (zjz fuel (⟨s14.2,y7.1,s37.2⟩:Crew) hy51) .nil) (At.keep (ts:=[1,4,5,6,7,8,11,17,18]) (ids:=[1,4,7,8,11]) rfl rfl ?_)
       refine At.zad ?_
       refine W.seq ?_
       obtain ⟨y52,hy53,H⟩:=zaf H
       refine W.region env [] [⟨.tup [roL 1 zaa y52.1,.int .i64 (y52.2)],[],0,[]⟩] rfl rfl rfl .nil (.free (zmD fuel (⟨s14.2,y7.1,s37.2⟩:Crew) hy53) .nil) (At.keep (ts:=[1,4,5,6,7,8,11,17,18,19,20]) (ids:=[1,4,7,8,11]) rfl rfl ?_)
       refine At.zad ?_
       refine W.seq ?_
       refine W.seq ?_
       obtain ⟨y54,hy55,H⟩:=zaf H
       obtain ⟨y56,hy57,H⟩:=zaf H
       obtain ⟨y58,hy59,H⟩:=zaf H
       refine W.region env [] [⟨.int .i64 (y54),[],0,[]⟩,⟨.int .i64 (y56),[],0,[]⟩,⟨.int .i64 (y58),[],0,[]⟩] rfl rfl rfl (.cons id (.cons (fun h=>by rw [h];rfl) (.cons id (.cons (fun h=>by rw [h];rfl) (.cons id (.cons id (.cons id (.cons id (.cons (fun h=>by rw [h];rfl) (.cons id (.cons id (.cons id (.cons (fun h=>by rw [h];rfl) (.cons id (.cons id (.cons id (.cons id (.cons id (.cons (fun h=>by rw [h];rfl) .nil))))))))))))))))))) (.free (zcT (⟨s14.2,y7.1,s37.2⟩:Crew) hy55) (.on (fun hW=>zf8 (⟨s14.2,y7.1,s37.2⟩:Crew) y50.1 (zai hy57 hW)) (.on (fun hW=>zh6 (⟨s14.2,y7.1,s37.2⟩:Crew) y52.1 ((y50.1.length:Nat):Int) (zai hy59 hW)) .nil))) (At.keep (ts:=[1,4,5,6,7,8,11,17,224]) (ids:=[1,4,7,8,11]) rfl rfl ?_)
       refine At.zad ?_
       refine W.cond rfl (fun hb60=>?_) (fun hb60=>?_)
       · have H:=zai H hb60
         refine W.rg env [2] [] ?_
         refine W.ret ?_
         refine At.rthen ?_
         cases H
         exact At.ret env.ty rfl rfl nofun (.refl _) hval
       · have H:=zag H hb60
         refine W.skip ?_
         refine At.zad ?_
         refine W.rg env [1,4,5,6,7,8,11,17,21] [1,4,7,8,11] ?_
         refine W.seq ?_
         refine W.rg env [1,4,5,6,7,8,11,17,21,225,226,227] [1,4,7,8,11] ?_
         refine W.block ?_
         refine At.zeR 21 521 31 1 (e:=fun i=>zaj (([]:List (List Int)).getD i default)) rfl rfl ?_
         refine At.keep (ts:=[1,4,5,6,7,8,11,17,21,225,226,227]) (ids:=[1,4,7,8,11,521]) rfl rfl ?_
         refine W.len (t:=225) rfl (fun (hn61:y50.1.length≤maxLen)=>?_)
         refine W.zah H (fun i61 (s61:(List (List Int)))=>[(1,.lp 1 0),(4,.lp 4 0),(5,roL 1 zaa y3.2),(6,.int .i64 ((min ((p0.Lamps.length:Nat):Int) 9))),(7,.lp 7 0),(8,.lp 8 0),(11,.lp 11 0),(17,roL 1 zaj y50.1),(21,.buf 521 (s61).length),(225,roL 1 zaj y50.1),(226,.int .i64 (((y50.1.length:Nat):Int))),(227,.int .i64 ((i61:Int)))]) (fun i61 (s61:(List (List Int)))=>[(1,.cells [roL 3 zaF p0.Ways,roL 3 zaF p0.Lamps,.int .i64 (p0.Law.x0),.int .i64 (p0.Law.x1),.int .i64 (p0.Law.x2),.int .i64 (p0.Law.x3),.int .i64 (p0.Night.x0),.int .i64 (p0.Night.x1),.int .i64 (p0.Night.x2),.int .i64 (p0.Night.x3),roL 2 zbb p0.Hands]),(4,.cells [.int .i64 (y3.1.Places),roL 7 zaC y3.1.Ways]),(7,.cells [roL 11 zaK y5.1.Versions,roL 5 zaI y5.1.Streets]),(8,.cells [.int .i64 (y5.2.No),.int .i64 (y5.2.Set.Lo),.int .i64 (y5.2.Set.Hi),.int .i64 (y5.2.Rise.Lo),.int .i64 (y5.2.Rise.Hi),.int .i64 (y5.2.Light.Lo),.int .i64 (y5.2.Light.Hi),.int .i64 (y5.2.Fog)]),(11,.cells [roL 4 zal s14.2,roL 1 zac y7.1,roL 3 zak s37.2]),(521,bufL 31 1 zaj s61)]) (.cons .q (.cons .q (.cons .q (.cons .qi (.cons .q (.cons .q (.cons .q (.cons .q (.cons .qb (.cons .q (.cons .qi (.cons .qi .nil)))))))))))) (.cons .q (.cons .q (.cons .q (.cons .q (.cons .q (.cons .q .nil)))))) (fun k61 i61 s61 hle61 H1 H2 K0 hK61=>?_)
         refine W.rg env [1,4,5,6,7,8,11,17,21,225,226,227,228] [1,4,7,8,11,521] ?_
         refine W.seq ?_
         refine W.cond rfl (fun hb62=>?_) (fun hb62=>?_)
         · have hi61:i61<y50.1.length:=by have:=of_decide_eq_true hb62;omega
           have H:=H1 hi61
           refine W.skip ?_
           refine At.zad ?_
           refine W.seq ?_
           refine W.block ?_
           refine W.sr env [] [] [1,4,5,6,7,8,11,17,21,23,225,226,227] [1,4,7,8,11,521] rfl rfl rfl (.cons (⟨by omega,by omega⟩:0≤(i61:Int)∧(i61:Int)<((y50.1.length:Nat):Int)) .nil) .nil ?_
           refine W.seq ?_
           refine W.region env [231] [] rfl rfl rfl .nil .nil (At.keep (ts:=[1,4,5,6,7,8,11,17,21,23,24,225,226,227]) (ids:=[1,4,7,8,11,231,521]) rfl rfl ?_)
           refine At.zbo (.cons (.refl _) (.cons (.refl _) (.cons (.refl _) (.cons (.refl _) (.cons (.refl _) (.cons (y:=bufL 3 1 zaa ([]:List Int)) (BSim.seg (Seg.lit (f:=zaa) (sz:=1) ([]:List Int) rfl rfl (fun _=>rfl))) (.cons (.refl _) .nil))))))) ?_
           refine At.zad ?_
           refine W.seq ?_
           refine W.rg env [1,4,5,6,7,8,11,17,21,23,24,25,225,226,227] [1,4,7,8,11,231,521] ?_
           refine W.block ?_
           refine At.keep (ts:=[1,4,5,6,7,8,11,17,21,23,24,25,225,226,227]) (ids:=[1,4,7,8,11,231,521]) rfl rfl ?_
           refine W.loopGo H (fun (s63:Int×(List Int))=>[(1,.lp 1 0),(4,.lp 4 0),(5,roL 1 zaa y3.2),(6,.int .i64 ((min ((p0.Lamps.length:Nat):Int) 9))),(7,.lp 7 0),(8,.lp 8 0),(11,.lp 11 0),(17,roL 1 zaj y50.1),(21,.buf 521 (s61).length),(23,roL 1 zaa (y50.1.getD i61 default)),(24,.buf 231 (s63.2).length),(25,.int .i64 (s63.1)),(225,roL 1 zaj y50.1),(226,.int .i64 (((y50.1.length:Nat):Int))),(227,.int .i64 ((i61:Int)))]) (fun (s63:Int×(List Int))=>[(1,.cells [roL 3 zaF p0.Ways,roL 3 zaF p0.Lamps,.int .i64 (p0.Law.x0),.int .i64 (p0.Law.x1),.int .i64 (p0.Law.x2),.int .i64 (p0.Law.x3),.int .i64 (p0.Night.x0),.int .i64 (p0.Night.x1),.int .i64 (p0.Night.x2),.int .i64 (p0.Night.x3),roL 2 zbb p0.Hands]),(4,.cells [.int .i64 (y3.1.Places),roL 7 zaC y3.1.Ways]),(7,.cells [roL 11 zaK y5.1.Versions,roL 5 zaI y5.1.Streets]),(8,.cells [.int .i64 (y5.2.No),.int .i64 (y5.2.Set.Lo),.int .i64 (y5.2.Set.Hi),.int .i64 (y5.2.Rise.Lo),.int .i64 (y5.2.Rise.Hi),.int .i64 (y5.2.Light.Lo),.int .i64 (y5.2.Light.Hi),.int .i64 (y5.2.Fog)]),(11,.cells [roL 4 zal s14.2,roL 1 zac y7.1,roL 3 zak s37.2]),(231,bufL 3 1 zaa s63.2),(521,bufL 31 1 zaj s61)]) (.cons .q (.cons .q (.cons .q (.cons .qi (.cons .q (.cons .q (.cons .q (.cons .q (.cons .qb (.cons .q (.cons .qb (.cons .qi (.cons .q (.cons .qi (.cons .qi .nil))))))))))))))) (.cons .q (.cons .q (.cons .q (.cons .q (.cons .q (.cons .q (.cons .q .nil))))))) (fun k63 s63 H K0 hK63=>?_)
           refine W.seq ?_
           refine W.rg env [1,4,5,6,7,8,11,17,21,23,24,25,225,226,227,235] [1,4,7,8,11,231,521] ?_
           refine W.cond rfl (fun hb64=>?_) (fun hb64=>?_)
           · have H:=zai H hb64
             refine W.skip ?_
             refine At.zad ?_
             refine W.seq ?_
             refine W.block ?_
             refine W.seq ?_
             obtain ⟨hc65,H⟩:=zab H
             obtain ⟨hc66,H⟩:=zab H
             obtain ⟨hc67,H⟩:=zab H
             obtain ⟨hc68,H⟩:=zab H
             obtain ⟨hc69,H⟩:=zab H
             obtain ⟨hc70,H⟩:=zab H
             refine W.sr env [] [] [1,4,5,6,7,8,11,17,21,23,24,25,225,226,227,267] [1,4,7,8,11,231,521] rfl rfl rfl (.cons hc65 (.cons hc66 (.cons hc67 (.cons id (.cons hc68 (.cons id (.cons id (.cons id (.cons id (.cons id (.cons (fun h=>by rw [h];rfl) (.cons hc69 (.cons id (.cons id (.cons id (.cons id (.cons (fun h=>by rw [h];rfl) (.cons hc70 (.cons id (.cons id (.cons id (.cons id (.cons id (.cons (fun h=>by rw [h];rfl) .nil)))))))))))))))))))))))) .nil ?_
             refine W.cond rfl (fun hb71=>?_) (fun hb71=>?_)
             · have H:=zai H hb71
               refine W.rg env [2] [] ?_
               refine W.ret ?_
               refine At.rthen ?_
               refine At.rinb ?_
               refine At.rthen ?_
               refine At.rthen ?_
               refine At.rinb ?_
               refine At.rthen ?_
               refine At.rinb ?_
               refine At.rthen ?_
               refine At.rthen ?_
               refine At.rinb ?_
               refine At.rthen ?_
               cases H
               exact At.ret env.ty rfl rfl nofun (.refl _) hval
             · have H:=zag H hb71
               refine W.skip ?_
               refine At.zad ?_
               obtain ⟨hc72,H⟩:=zab H
               obtain ⟨hc73,H⟩:=zab H
               obtain ⟨hc74,H⟩:=zab H
               refine W.sr env [] [] [1,4,5,6,7,8,11,17,21,23,24,25,26,225,226,227] [1,4,7,8,11,26,231,521] rfl rfl (by first|rfl|kernel_rfl) (.cons hc72 (.cons hc73 (.cons hc74 .nil))) .nil ?_
               refine W.seq ?_
               obtain ⟨hc75,H⟩:=zab H
               obtain ⟨y76,hy77,H⟩:=zaf H
               refine W.region env [] [⟨.tup [roL 1 zaa y76.1,.int .i64 (y76.2)],[],0,[]⟩] rfl rfl rfl (.cons hc75 .nil) (.free (zii fuel y3.1 y3.2 ((s14.2.getD (((y50.1.getD i61 default).getD ((s63.1 - 1)).toNat default)).toNat default).Place) ((s14.2.getD (((y50.1.getD i61 default).getD ((s63.1 - 1)).toNat default)).toNat default).At+(s14.2.getD (((y50.1.getD i61 default).getD ((s63.1 - 1)).toNat default)).toNat default).Serve) hy77) .nil) (At.keep (ts:=[1,4,5,6,7,8,11,17,21,23,24,25,26,27,28,225,226,227]) (ids:=[1,4,7,8,11,26,231,521]) rfl rfl ?_)
               refine At.zad ?_
               refine W.seq ?_
               refine W.sr env [] [] [1,4,5,6,7,8,11,17,21,23,24,25,26,27,225,226,227,296] [1,4,7,8,11,26,231,521] rfl rfl rfl (.cons id (.cons id (.cons (fun h=>by rw [h];rfl) .nil))) .nil ?_
               refine W.cond rfl (fun hb78=>?_) (fun hb78=>?_)
               · have H:=zai H hb78
                 refine W.rg env [2] [] ?_
                 refine W.ret ?_
                 refine At.rthen ?_
                 refine At.rinb ?_
                 refine At.rthen ?_
                 refine At.rthen ?_
                 refine At.rinb ?_
                 refine At.rthen ?_
                 refine At.rinb ?_
                 refine At.rthen ?_
                 refine At.rthen ?_
                 refine At.rinb ?_
                 refine At.rthen ?_
                 cases H
                 exact At.ret env.ty rfl rfl nofun (.refl _) hval
               · have H:=zag H hb78
                 refine W.skip ?_
                 refine At.zad ?_
                 obtain ⟨hc79,H⟩:=zab H
                 obtain ⟨hc80,H⟩:=zab H
                 obtain ⟨hc81,H⟩:=zab H
                 obtain ⟨hc82,H⟩:=zab H
                 obtain ⟨hc83,H⟩:=zab H
                 obtain ⟨hc84,H⟩:=zab H
                 refine W.region env [] [] rfl rfl (by first|rfl|kernel_rfl) (.cons hc79 (.cons hc80 (.cons hc81 (.cons hc82 (.cons hc83 (.cons (⟨by first|rfl|(simp;done)|omega|(simp;omega),by have:=hc84;first|simpa using this|(unfold room at this ⊢;simp at this ⊢;omega)⟩) .nil)))))) .nil (At.keep (ts:=[1,4,5,6,7,8,11,17,21,23,24,25,225,226,227]) (ids:=[1,4,7,8,11,231,521]) rfl rfl ?_)
                 refine At.zbo (.cons (.refl _) (.cons (.refl _) (.cons (.refl _) (.cons (.refl _) (.cons (.refl _) (.cons (y:=bufL 3 1 zaa (s63.2++([(((y76.1.getD ((s14.2.getD (((y50.1.getD i61 default).getD (s63.1).toNat default)).toNat default).Place).toNat default) - (s14.2.getD (((y50.1.getD i61 default).getD ((s63.1 - 1)).toNat default)).toNat default).At) - (s14.2.getD (((y50.1.getD i61 default).getD ((s63.1 - 1)).toNat default)).toNat default).Serve)]:List Int))) (BSim.seg (Seg.push (Seg.refl zaa _) (Seg.lit (f:=zaa) (sz:=1) ([(((y76.1.getD ((s14.2.getD (((y50.1.getD i61 default).getD (s63.1).toNat default)).toNat default).Place).toNat default) - (s14.2.getD (((y50.1.getD i61 default).getD ((s63.1 - 1)).toNat default)).toNat default).At) - (s14.2.getD (((y50.1.getD i61 default).getD ((s63.1 - 1)).toNat default)).toNat default).Serve)]:List Int) rfl rfl (fun _=>rfl)))) (.cons (.refl _) .nil))))))) ?_
                 refine At.inb ?_
                 refine At.zad ?_
                 obtain ⟨hc85,H⟩:=zab H
                 refine W.region env [] [] rfl rfl rfl (.cons hc85 .nil) .nil (At.keep (ts:=[1,4,5,6,7,8,11,17,21,23,24,25,225,226,227]) (ids:=[1,4,7,8,11,231,521]) rfl rfl ?_)
                 refine At.zaE (At.keep (ts:=[1,4,5,6,7,8,11,17,21,23,24,25,225,226,227]) (ids:=[1,4,7,8,11,231,521]) rfl rfl ?_)
                 exact At.conv (.cons .q (.cons .q (.cons .q (.cons .qi (.cons .q (.cons .q (.cons .q (.cons .q (.cons .qb (.cons .q (.cons .qb (.cons .qi (.cons .q (.cons .qi (.cons .qi .nil))))))))))))))) (.cons .q (.cons .q (.cons .q (.cons .q (.cons .q (.cons .q (.cons .q .nil))))))) (hK63 ((s63.1+1),(s63.2++([(((y76.1.getD ((s14.2.getD (((y50.1.getD i61 default).getD (s63.1).toNat default)).toNat default).Place).toNat default) - (s14.2.getD (((y50.1.getD i61 default).getD ((s63.1 - 1)).toNat default)).toNat default).At) - (s14.2.getD (((y50.1.getD i61 default).getD ((s63.1 - 1)).toNat default)).toNat default).Serve)]:List Int))) H)
           · have H:=zag H hb64
             refine W.exit ?_
             refine At.xthen ?_
             refine At.xthen ?_
             refine At.xhere ?_
             refine At.zad ?_
             refine At.freeze 24 231 (K:=[1,4,7,8,11,521]) (ts:=[1,4,5,6,7,8,11,17,21,225,226,227]) rfl rfl (by first|rfl|(simp;done)|omega|(simp;omega)) rfl rfl rfl (fun _ h=>h) ?_
             obtain ⟨hc86,H⟩:=zab H
             refine W.region env [] [] rfl rfl rfl (.cons (⟨by first|rfl|(simp;done)|omega|(simp;omega),by have:=hc86;first|simpa using this|(unfold room at this ⊢;simp at this ⊢;omega)⟩) .nil) .nil (At.keep (ts:=[1,4,5,6,7,8,11,17,21,225,226,227]) (ids:=[1,4,7,8,11,521]) rfl rfl ?_)
             refine At.zbo (.cons (.refl _) (.cons (.refl _) (.cons (.refl _) (.cons (.refl _) (.cons (.refl _) (.cons (y:=bufL 31 1 zaj (s61++([s63.2]:List (List Int)))) (BSim.seg (Seg.push (Seg.refl zaj _) (Seg.lit (f:=zaj) (sz:=1) ([s63.2]:List (List Int)) rfl rfl (fun _=>rfl)))) .nil)))))) ?_
             refine At.inb ?_
             refine At.zad ?_
             refine W.region env [] [] rfl rfl rfl (.cons (by unfold inI;have:=hn61;(try unfold maxLen at this);omega) .nil) .nil (At.keep (ts:=[1,4,5,6,7,8,11,17,21,225,226,227]) (ids:=[1,4,7,8,11,521]) rfl rfl ?_)
             refine At.zaE (At.keep (ts:=[1,4,5,6,7,8,11,17,21,225,226,227]) (ids:=[1,4,7,8,11,521]) rfl rfl ?_)
             exact At.conv (.cons .q (.cons .q (.cons .q (.cons .qi (.cons .q (.cons .q (.cons .q (.cons .q (.cons .qb (.cons .q (.cons .qi (.cons .qi .nil)))))))))))) (.cons .q (.cons .q (.cons .q (.cons .q (.cons .q (.cons .q .nil)))))) (hK61 hi61 (s61++([s63.2]:List (List Int))) H)
         · have H:=H2 (by have:=of_decide_eq_false hb62;omega)
           refine W.exit ?_
           refine At.xthen ?_
           refine At.xthen ?_
           refine At.xhere ?_
           refine At.zad ?_
           refine W.seq ?_
           refine At.zi5 521 (K:=[1,7,8,11]) (ts:=[1,7,8,11,17,21]) rfl rfl rfl rfl (.cons (by first|rfl|(simp;done)|omega|(simp;omega)) .nil) .nil (fun _ h=>h) ?_
           obtain ⟨y87,hy88,H⟩:=zaf H
           refine W.region env [] [⟨.tup [roL 1 zaa y87.1,.int .i64 (y87.2)],[],0,[]⟩] rfl rfl rfl .nil (.free (zln (⟨s14.2,y7.1,s37.2⟩:Crew) y50.1 s61 hy88) .nil) (At.keep (ts:=[1,7,8,11,17,29,30]) (ids:=[1,7,8,11]) rfl rfl ?_)
           refine At.zad ?_
           refine W.seq ?_
           refine W.sr env [] [] [1,7,8,11,17,336] [1,7,8,11] rfl rfl rfl (.cons id (.cons id (.cons (fun h=>by rw [h];rfl) .nil))) .nil ?_
           refine W.cond rfl (fun hb89=>?_) (fun hb89=>?_)
           · have H:=zai H hb89
             refine W.rg env [2] [] ?_
             refine W.ret ?_
             refine At.rthen ?_
             cases H
             exact At.ret env.ty rfl rfl nofun (.refl _) hval
           · have H:=zag H hb89
             refine W.skip ?_
             refine At.zad ?_
             refine W.seq ?_
             obtain ⟨y90,hy91,H⟩:=zaf H
             refine W.region env [] [⟨.agg [.int .i64 (y90.Set),.int .i64 (y90.Rise),.int .i64 (y90.Light),.bool (y90.Fog)],[],0,[]⟩] rfl rfl rfl .nil (.free (ze0 p0 y5.2 hy91) .nil) (At.keep (ts:=[7,8,11,17,31]) (ids:=[7,8,11,31]) rfl rfl ?_)
             refine At.zad ?_
             refine W.seq ?_
             refine W.rg env [7,8,11,17,31,341,342,343] [7,8,11,31] ?_
             refine W.block ?_
             refine At.keep (ts:=[7,8,11,17,31,341,342,343]) (ids:=[7,8,11,31]) rfl rfl ?_
             refine W.len (t:=341) rfl (fun (hn92:s14.2.length≤maxLen)=>?_)
             refine W.zah H (fun i92 (s92:Unit)=>[(7,.lp 7 0),(8,.lp 8 0),(11,.lp 11 0),(17,roL 1 zaj y50.1),(31,.lp 31 0),(341,roL 4 zal s14.2),(342,.int .i64 (((s14.2.length:Nat):Int))),(343,.int .i64 ((i92:Int)))]) (fun i92 (s92:Unit)=>[(7,.cells [roL 11 zaK y5.1.Versions,roL 5 zaI y5.1.Streets]),(8,.cells [.int .i64 (y5.2.No),.int .i64 (y5.2.Set.Lo),.int .i64 (y5.2.Set.Hi),.int .i64 (y5.2.Rise.Lo),.int .i64 (y5.2.Rise.Hi),.int .i64 (y5.2.Light.Lo),.int .i64 (y5.2.Light.Hi),.int .i64 (y5.2.Fog)]),(11,.cells [roL 4 zal s14.2,roL 1 zac y7.1,roL 3 zak s37.2]),(31,.cells [.int .i64 (y90.Set),.int .i64 (y90.Rise),.int .i64 (y90.Light),.bool (y90.Fog)])]) (.cons .q (.cons .q (.cons .q (.cons .q (.cons .q (.cons .q (.cons .qi (.cons .qi .nil)))))))) (.cons .q (.cons .q (.cons .q (.cons .q .nil)))) (fun k92 i92 s92 hle92 H1 H2 K0 hK92=>?_)
             refine W.rg env [7,8,11,17,31,341,342,343,344] [7,8,11,31] ?_
             refine W.seq ?_
             refine W.cond rfl (fun hb93=>?_) (fun hb93=>?_)
             · have hi92:i92<s14.2.length:=by have:=of_decide_eq_true hb93;omega
               have H:=H1 hi92
               refine W.skip ?_
               refine At.zad ?_
               refine W.seq ?_
               refine W.block ?_
               refine W.sr env [] [] [7,8,11,17,31,33,341,342,343] [7,8,11,31,33] rfl rfl rfl (.cons (⟨by omega,by omega⟩:0≤(i92:Int)∧(i92:Int)<((s14.2.length:Nat):Int)) .nil) .nil ?_
               refine W.seq ?_
               obtain ⟨y94,hy95,H⟩:=zaf H
               refine W.region env [] [⟨.tup [.agg [.int .i64 (y94.1.Lo),.int .i64 (y94.1.Hi)],.int .i64 (y94.2)],[],0,[]⟩] rfl rfl rfl .nil (.free (zlo y5.1 ((s14.2.getD i92 default).Lamp) y5.2 3 hy95) .nil) (At.keep (ts:=[7,8,11,17,31,33,34,35,341,342,343]) (ids:=[7,8,11,31,33,34]) rfl rfl ?_)
               refine At.zad ?_
               refine W.seq ?_
               obtain ⟨y96,hy97,H⟩:=zaf H
               refine W.region env [] [⟨.tup [.bool (y96.1),.int .i64 (y96.2)],[],0,[]⟩] rfl rfl rfl .nil (.free (zkr y5.1 ((s14.2.getD i92 default).Lamp) 7 y90 (⟨(s14.2.getD i92 default).At,y94.1.Lo⟩:Times) 3 hy97) .nil) (At.keep (ts:=[7,8,11,17,31,35,36,37,341,342,343]) (ids:=[7,8,11,31]) rfl rfl ?_)
               refine At.zad ?_
               refine W.sr env [] [] [7,8,11,17,31,341,342,343,377] [7,8,11,31] rfl rfl rfl (.cons id (.cons (fun h=>by rw [h];rfl) (.cons id (.cons (fun h=>by rw [h];rfl) .nil)))) .nil ?_
               refine W.cond rfl (fun hb98=>?_) (fun hb98=>?_)
               · have H:=zai H hb98
                 refine W.rg env [2] [] ?_
                 refine W.ret ?_
                 refine At.rinb ?_
                 refine At.rthen ?_
                 refine At.rthen ?_
                 refine At.rinb ?_
                 refine At.rthen ?_
                 cases H
                 exact At.ret env.ty rfl rfl nofun (.refl _) hval
               · have H:=zag H hb98
                 refine W.skip ?_
                 refine At.inb ?_
                 refine At.zad ?_
                 refine W.region env [] [] rfl rfl rfl (.cons (by unfold inI;have:=hn92;(try unfold maxLen at this);omega) .nil) .nil (At.keep (ts:=[7,8,11,17,31,341,342,343]) (ids:=[7,8,11,31]) rfl rfl ?_)
                 refine At.zaE (At.keep (ts:=[7,8,11,17,31,341,342,343]) (ids:=[7,8,11,31]) rfl rfl ?_)
                 exact At.conv (.cons .q (.cons .q (.cons .q (.cons .q (.cons .q (.cons .q (.cons .qi (.cons .qi .nil)))))))) (.cons .q (.cons .q (.cons .q (.cons .q .nil)))) (hK92 hi92 () H)
             · have H:=H2 (by have:=of_decide_eq_false hb93;omega)
               refine W.exit ?_
               refine At.xthen ?_
               refine At.xthen ?_
               refine At.xhere ?_
               refine At.zad ?_
               refine W.seq ?_
               obtain ⟨y99,hy100,H⟩:=zaf H
               refine W.region env [] [⟨.tup [roL 1 zaa y99.1,.int .i64 (y99.2)],[],0,[]⟩] rfl rfl rfl .nil (.free (zjB fuel (⟨s14.2,y7.1,s37.2⟩:Crew) y50.1 hy100) .nil) (At.keep (ts:=[11,17,38,39]) (ids:=[11]) rfl rfl ?_)
               refine At.zad ?_
               refine W.seq ?_
               obtain ⟨y101,hy102,H⟩:=zaf H
               refine W.region env [] [⟨.tup [roL 1 zaa y101.1,.int .i64 (y101.2)],[],0,[]⟩] rfl rfl rfl .nil (.free (zkp fuel (⟨s14.2,y7.1,s37.2⟩:Crew) y50.1 hy102) .nil) (At.keep (ts:=[11,17,38,39,40,41]) (ids:=[11]) rfl rfl ?_)
               refine At.zad ?_
               refine W.seq ?_
               refine W.rg env [11,17,38,39,40,41,392] [11] ?_
               refine W.cond rfl (fun hb103=>?_) (fun hb103=>?_)
               · have H:=zai H hb103
                 refine W.seq ?_
                 obtain ⟨y104,hy105,H⟩:=zaf H
                 refine W.region env [] [⟨.int .i64 (y104),[],0,[]⟩] rfl rfl rfl (.cons id (.cons id (.cons id (.cons id (.cons id .nil))))) (.on (fun hW=>zf9 (⟨s14.2,y7.1,s37.2⟩:Crew) y50.1 y99.1 (zai hy105 hW)) .nil) (At.keep (ts:=[2]) (ids:=[]) rfl rfl ?_)
                 refine At.zad ?_
                 refine W.ret ?_
                 refine At.rthen ?_
                 cases H
                 exact At.ret env.ty rfl rfl nofun (.refl _) hval
               · have H:=zag H hb103
                 refine W.skip ?_
                 refine At.zad ?_
                 refine W.seq ?_
                 obtain ⟨y106,hy107,H⟩:=zaf H
                 refine W.region env [] [⟨.int .i64 (y106),[],0,[]⟩] rfl rfl rfl (.cons id (.cons id (.cons id (.cons id (.cons id (.cons id (.cons id .nil))))))) (.on (fun hW=>zgG (⟨s14.2,y7.1,s37.2⟩:Crew) y50.1 y101.1 (zai hy107 hW)) .nil) (At.keep (ts:=[2]) (ids:=[]) rfl rfl ?_)
                 refine At.zad ?_
                 refine W.ret ?_
                 cases H
                 exact At.ret env.ty rfl rfl nofun (.refl _) hval
end Go.Sp
