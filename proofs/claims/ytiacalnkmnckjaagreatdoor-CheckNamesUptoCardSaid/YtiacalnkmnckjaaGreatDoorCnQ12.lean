/- Texts of this proof, one behind the other. Conditions: those in each theorem. -/
import Derived.Test.YtiacalnkmnckjaaGreatDoorCnQ11
import Derived.Test.YtiacalnkmnckjaaGreatDoorCnQ8
import Derived.Test.YtiacalnkmnckjaaGreatDoorCnQ7
import Derived.Test.YtiacalnkmnckjaaGreatDoorCnQ9
set_option linter.unusedVariables false
set_option linter.unusedSimpArgs false
namespace Go.Proofs.YtiacalnkmnckjaaGreatDoor
open Go.RowKit Go.As
section
set_option maxRecDepth 100000
def wdT (kind:Int):List UInt8:=if kind=5 then [105,102] else [119,104,105,108,101]
def nsT (deep:Nat) (kind:Int) (te tb tl:List UInt8) (n:Nat):List UInt8:=
 (wdT kind++([32]++(te++([32,123]++[10]))))++(tb++(margT deep++((if 0<n then [125,32,101,108,115,101,32,123,10]++(tl++margT deep) else [])++[125,10])))
theorem ex32_exT {e:Ex} {t:List UInt8} (h:ex32 e=some t):exT e=some t:=by
 unfold ex32 at h
 split at h
 · exact h
 · cases h
theorem stT_inv {deep:Nat} {kind:Int} {name t:List UInt8} {e:Ex} {body els:List St} (h:stT deep (.mk kind name e body els)=some t):
  (kind=1∧∃ te,exT e=some te∧t=margT deep++((name++[32,61])++([32]++(te++([59]++[10])))))∨
  (kind=2∧t=margT deep++([108,111,99,107,32]++name++[59,10]))∨
  (kind=3∧t=margT deep++([117,110,108,111,99,107,32]++name++[59,10]))∨
  (kind=4∧∃ te,exT e=some te∧t=margT deep++([97,115,115,101,114,116]++([32]++(te++([59]++[10])))))∨
  (kind=7∧t=margT deep++[115,107,105,112,59,10])∨
  (kind=5∧∃ te tb tl,exT e=some te∧stsT (deep+1) body=some tb∧stsT (deep+1) els=some tl∧t=margT deep++nsT deep kind te tb tl els.length)∨
  (kind=6∧∃ te tb tl,exT e=some te∧stsT (deep+1) body=some tb∧stsT (deep+1) els=some tl∧t=margT deep++nsT deep kind te tb tl els.length):=by
 simp only [stT] at h
 by_cases c1:kind=1
 · rw [if_pos c1] at h
   split at h
   · rw [Option.map_eq_some_iff] at h
     obtain ⟨te,he,rfl⟩:=h
     exact .inl ⟨c1,te,ex32_exT he,by simp⟩
   · cases h
 rw [if_neg c1] at h
 by_cases c2:kind=2
 · rw [if_pos c2] at h
   split at h
   · injection h with h
     exact .inr (.inl ⟨c2,by rw [← h];simp⟩)
   · cases h
 rw [if_neg c2] at h
 by_cases c3:kind=3
 · rw [if_pos c3] at h
   split at h
   · injection h with h
     exact .inr (.inr (.inl ⟨c3,by rw [← h];simp⟩))
   · cases h
 rw [if_neg c3] at h
 by_cases c4:kind=4
 · rw [if_pos c4] at h
   split at h
   · rw [Option.map_eq_some_iff] at h
     obtain ⟨te,he,rfl⟩:=h
     exact .inr (.inr (.inr (.inl ⟨c4,te,ex32_exT he,by simp⟩)))
   · cases h
 rw [if_neg c4] at h
 by_cases c7:kind=7
 · rw [if_pos c7] at h
   split at h
   · injection h with h
     exact .inr (.inr (.inr (.inr (.inl ⟨c7,by rw [← h]⟩))))
   · cases h
 rw [if_neg c7] at h
 by_cases c5:kind=5∨kind=6
 · rw [if_pos c5] at h
   cases hb:stsT (deep+1) body with
   | none=>rw [hb] at h;cases h
   | some tb=>
     cases hl:stsT (deep+1) els with
     | none=>rw [hb,hl] at h;cases h
     | some tl=>
       cases he:ex32 e with
       | none=>rw [hb,hl,he] at h;cases h
       | some te=>
         rw [hb,hl,he] at h
         simp only at h
         split at h
         · cases h
         rename_i hz
         have key:t=margT deep++nsT deep kind te tb tl els.length:=by
          unfold nsT wdT
          by_cases c6:kind=6
          · rw [if_pos c6] at h
            injection h with h
            rw [← h,if_neg (show ¬ kind=5 by omega),if_neg (fun hp=>hz (.inr ⟨c6,hp⟩))]
            simp
          · rw [if_neg c6] at h
            rw [if_pos (show kind=5 by omega)]
            split at h
            · rename_i hp
              injection h with h
              rw [← h,if_pos hp]
              simp
            · rename_i hp
              injection h with h
              rw [← h,if_neg hp]
              simp
         rcases c5 with c5 | c5
         · exact .inr (.inr (.inr (.inr (.inr (.inl ⟨c5,te,tb,tl,ex32_exT he,rfl,rfl,key⟩)))))
         · exact .inr (.inr (.inr (.inr (.inr (.inr ⟨c5,te,tb,tl,ex32_exT he,rfl,rfl,key⟩)))))
 · rw [if_neg c5] at h
   cases h
theorem stsT_some {deep:Nat} {L:List St} {t:List UInt8} (h:stsT deep L=some t):allT (stT deep) L=some t∧(L=[]∨deep≤32):=by
 rw [stsT_all] at h
 split at h
 · cases h
 rename_i hn
 refine ⟨h,?_⟩
 cases L with
 | nil=>exact .inl rfl
 | cons x l=>right;simp at hn;exact hn
theorem allT_mid {α:Type} {f:α→Option (List UInt8)} {l1 l3:List α} {x:α} {t t1:List UInt8} (h:allT f (l1++x::l3)=some t) (h1:allT f l1=some t1):∃ tx t3,f x=some tx∧t=t1++(tx++t3)∧allT f (l1++[x])=some (t1++tx):=by
 rw [allT_app,h1] at h
 simp only [allT] at h
 cases hx:f x with
 | none=>rw [hx] at h;cases h
 | some tx=>
   rw [hx] at h
   cases h3:allT f l3 with
   | none=>rw [h3] at h;cases h
   | some t3=>
     rw [h3] at h
     injection h with h
     refine ⟨tx,t3,rfl,h.symm,?_⟩
     rw [allT_app,h1]
     simp only [allT,hx,List.append_nil]
def BlkW (N:Nat):Prop:=∀ (L:List St) (a:Option Addr) (n cap:Nat) (xs:List Value) (deep:Nat) (t l:List UInt8) (b:Nat) (w:World),n=L.length→swts L<N→swts L≤1000000000000→deep≤1000→stBs L≤1000000000000→stRs L→Tab w→stsT deep L=some t→Bu b l w→l.length+t.length≤140737488355328→Sy.SlAt (Out b w) w a n 9 xs→LsAt (StAt (Out b w) w) L xs→
    Calls Tryz.prog 54 #[.pointer (some ⟨b,0,none⟩),.slice a n cap,.int .i64 (deep:Int)] w fun e w'=>e = .returned (.tuple #[])∧WrR b (l++t) w w'
open Go.Sy
theorem pnested5_of (N:Nat) (ih:BlkW N) (us:List UInt8) (uo ut uv:Int) (un:List UInt8) (uk:List Ex) (uB uL:List St) (uj ui uf:Option Addr) (uh uw ug:Nat) (deep:Nat) (ubx ulx:List Value) (te tb tl l:List UInt8) (b:Nat) (w:World) (hN:swt (St.mk 5 us (Ex.mk uo ut uv un uk) uB uL)≤N) (hbd:swt (St.mk 5 us (Ex.mk uo ut uv un uk) uB uL)≤1000000000000) (hdeep:deep≤999) (hB:stB (St.mk 5 us (Ex.mk uo ut uv un uk) uB uL)≤1000000000000) (hR:stR (St.mk 5 us (Ex.mk uo ut uv un uk) uB uL)) (ht:Tab w)
  (hte:exT (Ex.mk uo ut uv un uk)=some te) (htb:stsT (deep+1) uB=some tb) (htl:stsT (deep+1) uL=some tl) (hb:Bu b l w) (hlen:l.length+(nsT deep 5 te tb tl uL.length).length≤140737488355328)
  (uhe:ExAt (Out b w) w (Ex.mk uo ut uv un uk) (xL uo ut uv un uf uk.length ug)) (uhbs:SlAt (Out b w) w uj uB.length 9 ubx) (uhbt:StsAt (Out b w) w uB ubx) (uhls:SlAt (Out b w) w ui uL.length 9 ulx) (uhlt:StsAt (Out b w) w uL ulx):
  Calls Tryz.prog 128 #[nP b,yV 5 us uo ut uv un uf uk.length ug uj uB.length uh ui uL.length uw,nI (deep:Int)] w fun e w'=>e = .returned (.tuple #[])∧WrR b (l++nsT deep 5 te tb tl uL.length) w w':=by
 simp only [swt] at hN hbd
 simp only [stB] at hB
 obtain ⟨_,hRe,hRb,hRl⟩:=hR
 have hnb:=swts_len uB
 have hnl:=swts_len uL
 have hwe:=wgt_pos (Ex.mk uo ut uv un uk)
 unfold nsT at hlen ⊢
 rw [show wdT 5=[105,102] from rfl] at hlen ⊢
 have h0:=Ch.start hb
 refine eN [nP b,yV 5 us uo ut uv un uf uk.length ug uj uB.length uh ui uL.length uw,nI (deep:Int)] Tryz.func128 (fun γ0 hγ0=>?_)
 refine rs [] 60 2 ?_
 refine gH [nP b,nT [105,102],xV uo ut uv un uf uk.length ug,nT [32,123]] b ([105,102]++([32]++(te++([32,123]++[10])))) (.tuple #[]) h0 (fun W hk hbu hA=>pheaded_any [105,102] [32,123] (Ex.mk uo ut uv un uk) (xL uo ut uv un uf uk.length ug) te _ b W (by omega) hRe (ht.out hb (h0.keep hk)) hte hbu (by simp only [List.length_append,List.length_cons,List.length_nil] at hlen ⊢;omega) (uhe.keep (h0.keep hk) hA)) ?_
 intro w1 B1 hc1 _ _
 refine rk ?_
 refine gS 19 (x:=nI (wrapF .i64 ((deep:Int)+1))) (nI ((deep+1:Nat):Int)) (by rw [wr64 (by omega) (by omega)];rfl) ?_
 refine gH [nP b,.slice uj uB.length uh,nI ((deep+1:Nat):Int)] b (tb) (.tuple #[]) hc1 (fun W hk hbu hA=>ih uB uj uB.length uh ubx (deep+1) tb _ b W rfl (by omega) (by omega) (by omega) (by omega) hRb (ht.out hb (hc1.keep hk)) htb hbu (by simp only [List.length_append,List.length_cons,List.length_nil] at hlen ⊢;omega) ((uhbs.keep (hc1.keep hk)).mono hA) (StsAt_ls.1 (uhbt.keep (hc1.keep hk) hA))) ?_
 intro w2 B2 hc2 _ _
 refine rk ?_
 refine gH [nP b,nI (deep:Int)] b (margT deep) (.tuple #[]) hc2 (fun W hk hbu hA=>pindent_any deep _ b W (by omega) hbu (by simp only [List.length_append,List.length_cons,List.length_nil] at hlen ⊢;omega)) ?_
 intro w3 B3 hc3 _ _
 refine rk ?_
 rcases Nat.eq_zero_or_pos uL.length with hz | hz
 ·
  rw [if_neg (show ¬ 0<uL.length by omega)] at hlen ⊢
  refine ky 0 (uL.length:Int) (by omega) ?_
  refine rk ?_
  refine gw b ([125,10]) hc3 (by simp only [List.length_append,List.length_cons,List.length_nil] at hlen ⊢;omega) ?_
  intro w4 B4 hc4 _ _
  refine rk ?_
  refine gR (.tuple #[]) (fun W hk=>⟨rfl,?_⟩)
  have:=hc4.fin hk
  simpa only [List.append_assoc,List.nil_append] using this
 ·
  rw [if_pos hz] at hlen ⊢
  refine kx 0 (uL.length:Int) (by omega) ?_
  refine rk ?_
  refine gw b ([125,32,101,108,115,101,32,123,10]) hc3 (by simp only [List.length_append,List.length_cons,List.length_nil] at hlen ⊢;omega) ?_
  intro w4 B4 hc4 _ _
  refine rk ?_
  refine gS 36 (x:=nI (wrapF .i64 ((deep:Int)+1))) (nI ((deep+1:Nat):Int)) (by rw [wr64 (by omega) (by omega)];rfl) ?_
  refine gH [nP b,.slice ui uL.length uw,nI ((deep+1:Nat):Int)] b (tl) (.tuple #[]) hc4 (fun W hk hbu hA=>ih uL ui uL.length uw ulx (deep+1) tl _ b W rfl (by omega) (by omega) (by omega) (by omega) hRl (ht.out hb (hc4.keep hk)) htl hbu (by simp only [List.length_append,List.length_cons,List.length_nil] at hlen ⊢;omega) ((uhls.keep (hc4.keep hk)).mono hA) (StsAt_ls.1 (uhlt.keep (hc4.keep hk) hA))) ?_
  intro w5 B5 hc5 _ _
  refine rk ?_
  refine gH [nP b,nI (deep:Int)] b (margT deep) (.tuple #[]) hc5 (fun W hk hbu hA=>pindent_any deep _ b W (by omega) hbu (by simp only [List.length_append,List.length_cons,List.length_nil] at hlen ⊢;omega)) ?_
  intro w6 B6 hc6 _ _
  refine rk ?_
  refine gw b ([125,10]) hc6 (by simp only [List.length_append,List.length_cons,List.length_nil] at hlen ⊢;omega) ?_
  intro w7 B7 hc7 _ _
  refine rk ?_
  refine gR (.tuple #[]) (fun W hk=>⟨rfl,?_⟩)
  have:=hc7.fin hk
  simpa only [List.append_assoc,List.nil_append] using this
theorem pnested6_of (N:Nat) (ih:BlkW N) (us:List UInt8) (uo ut uv:Int) (un:List UInt8) (uk:List Ex) (uB uL:List St) (uj ui uf:Option Addr) (uh uw ug:Nat) (deep:Nat) (ubx ulx:List Value) (te tb tl l:List UInt8) (b:Nat) (w:World) (hN:swt (St.mk 6 us (Ex.mk uo ut uv un uk) uB uL)≤N) (hbd:swt (St.mk 6 us (Ex.mk uo ut uv un uk) uB uL)≤1000000000000) (hdeep:deep≤999) (hB:stB (St.mk 6 us (Ex.mk uo ut uv un uk) uB uL)≤1000000000000) (hR:stR (St.mk 6 us (Ex.mk uo ut uv un uk) uB uL)) (ht:Tab w)
  (hte:exT (Ex.mk uo ut uv un uk)=some te) (htb:stsT (deep+1) uB=some tb) (htl:stsT (deep+1) uL=some tl) (hb:Bu b l w) (hlen:l.length+(nsT deep 6 te tb tl uL.length).length≤140737488355328)
  (uhe:ExAt (Out b w) w (Ex.mk uo ut uv un uk) (xL uo ut uv un uf uk.length ug)) (uhbs:SlAt (Out b w) w uj uB.length 9 ubx) (uhbt:StsAt (Out b w) w uB ubx) (uhls:SlAt (Out b w) w ui uL.length 9 ulx) (uhlt:StsAt (Out b w) w uL ulx):
  Calls Tryz.prog 128 #[nP b,yV 6 us uo ut uv un uf uk.length ug uj uB.length uh ui uL.length uw,nI (deep:Int)] w fun e w'=>e = .returned (.tuple #[])∧WrR b (l++nsT deep 6 te tb tl uL.length) w w':=by
 simp only [swt] at hN hbd
 simp only [stB] at hB
 obtain ⟨_,hRe,hRb,hRl⟩:=hR
 have hnb:=swts_len uB
 have hnl:=swts_len uL
 have hwe:=wgt_pos (Ex.mk uo ut uv un uk)
 unfold nsT at hlen ⊢
 rw [show wdT 6=[119,104,105,108,101] from rfl] at hlen ⊢
 have h0:=Ch.start hb
 refine eN [nP b,yV 6 us uo ut uv un uf uk.length ug uj uB.length uh ui uL.length uw,nI (deep:Int)] Tryz.func128 (fun γ0 hγ0=>?_)
 refine rs [] 60 2 ?_
 refine gH [nP b,nT [119,104,105,108,101],xV uo ut uv un uf uk.length ug,nT [32,123]] b ([119,104,105,108,101]++([32]++(te++([32,123]++[10])))) (.tuple #[]) h0 (fun W hk hbu hA=>pheaded_any [119,104,105,108,101] [32,123] (Ex.mk uo ut uv un uk) (xL uo ut uv un uf uk.length ug) te _ b W (by omega) hRe (ht.out hb (h0.keep hk)) hte hbu (by simp only [List.length_append,List.length_cons,List.length_nil] at hlen ⊢;omega) (uhe.keep (h0.keep hk) hA)) ?_
 intro w1 B1 hc1 _ _
 refine rk ?_
 refine gS 19 (x:=nI (wrapF .i64 ((deep:Int)+1))) (nI ((deep+1:Nat):Int)) (by rw [wr64 (by omega) (by omega)];rfl) ?_
 refine gH [nP b,.slice uj uB.length uh,nI ((deep+1:Nat):Int)] b (tb) (.tuple #[]) hc1 (fun W hk hbu hA=>ih uB uj uB.length uh ubx (deep+1) tb _ b W rfl (by omega) (by omega) (by omega) (by omega) hRb (ht.out hb (hc1.keep hk)) htb hbu (by simp only [List.length_append,List.length_cons,List.length_nil] at hlen ⊢;omega) ((uhbs.keep (hc1.keep hk)).mono hA) (StsAt_ls.1 (uhbt.keep (hc1.keep hk) hA))) ?_
 intro w2 B2 hc2 _ _
 refine rk ?_
 refine gH [nP b,nI (deep:Int)] b (margT deep) (.tuple #[]) hc2 (fun W hk hbu hA=>pindent_any deep _ b W (by omega) hbu (by simp only [List.length_append,List.length_cons,List.length_nil] at hlen ⊢;omega)) ?_
 intro w3 B3 hc3 _ _
 refine rk ?_
 rcases Nat.eq_zero_or_pos uL.length with hz | hz
 ·
  rw [if_neg (show ¬ 0<uL.length by omega)] at hlen ⊢
  refine ky 0 (uL.length:Int) (by omega) ?_
  refine rk ?_
  refine gw b ([125,10]) hc3 (by simp only [List.length_append,List.length_cons,List.length_nil] at hlen ⊢;omega) ?_
  intro w4 B4 hc4 _ _
  refine rk ?_
  refine gR (.tuple #[]) (fun W hk=>⟨rfl,?_⟩)
  have:=hc4.fin hk
  simpa only [List.append_assoc,List.nil_append] using this
 ·
  rw [if_pos hz] at hlen ⊢
  refine kx 0 (uL.length:Int) (by omega) ?_
  refine rk ?_
  refine gw b ([125,32,101,108,115,101,32,123,10]) hc3 (by simp only [List.length_append,List.length_cons,List.length_nil] at hlen ⊢;omega) ?_
  intro w4 B4 hc4 _ _
  refine rk ?_
  refine gS 36 (x:=nI (wrapF .i64 ((deep:Int)+1))) (nI ((deep+1:Nat):Int)) (by rw [wr64 (by omega) (by omega)];rfl) ?_
  refine gH [nP b,.slice ui uL.length uw,nI ((deep+1:Nat):Int)] b (tl) (.tuple #[]) hc4 (fun W hk hbu hA=>ih uL ui uL.length uw ulx (deep+1) tl _ b W rfl (by omega) (by omega) (by omega) (by omega) hRl (ht.out hb (hc4.keep hk)) htl hbu (by simp only [List.length_append,List.length_cons,List.length_nil] at hlen ⊢;omega) ((uhls.keep (hc4.keep hk)).mono hA) (StsAt_ls.1 (uhlt.keep (hc4.keep hk) hA))) ?_
  intro w5 B5 hc5 _ _
  refine rk ?_
  refine gH [nP b,nI (deep:Int)] b (margT deep) (.tuple #[]) hc5 (fun W hk hbu hA=>pindent_any deep _ b W (by omega) hbu (by simp only [List.length_append,List.length_cons,List.length_nil] at hlen ⊢;omega)) ?_
  intro w6 B6 hc6 _ _
  refine rk ?_
  refine gw b ([125,10]) hc6 (by simp only [List.length_append,List.length_cons,List.length_nil] at hlen ⊢;omega) ?_
  intro w7 B7 hc7 _ _
  refine rk ?_
  refine gR (.tuple #[]) (fun W hk=>⟨rfl,?_⟩)
  have:=hc7.fin hk
  simpa only [List.append_assoc,List.nil_append] using this
end
section
open Go.Sy in
set_option maxRecDepth 100000 in
theorem blkW:∀ N,BlkW N:=by
 intro N
 induction N with
 | zero=>intro L a n cap xs deep t l b w _ h;omega
 | succ N ih=>
   intro L a n cap xs deep t l b w hn hN hbd hdeep hB hR ht hT0 hb hlen hsl hks
   obtain ⟨hT,hd⟩:=stsT_some hT0
   have hnl:=swts_len L
   have h0:=Ch.start hb
   refine eN [nP b,.slice a n cap,nI (deep:Int)] Tryz.func54 (fun γ0 hγ0=>?_)
   refine rk ?_
   refine good_toLp ?_
   refine good_loopB (fun i:List St×List St=>i.2.length) (fun i B1 w1=>L=i.1++i.2∧∃ t1,allT (stT deep) i.1=some t1∧Ch b (l++t1) (Out b w) w w1 B1) (fun i=>⟨mkT [(0,vP b),(2,vI (deep:Int)),(8,vL a n cap),(9,vI (n:Int)),(10,vI (i.1.length:Int))],mkH [],gz,[]⟩)
    ([],L) ⟨rfl,[],rfl,by rw [List.append_nil];exact h0⟩ (by kernel_rfl)
    (fun h=>gU _ [(0,vP b),(2,vI (deep:Int)),(8,vL a n cap),(9,vI (n:Int)),(10,vI (([]:List St).length:Int))] [] gz hγ0 h) ?_
   rintro ⟨l1,l2⟩ B1 w1 ⟨hI,t1,ht1,hch⟩ ih2
   have hI:L=l1++l2:=hI
   have ht1:allT (stT deep) l1=some t1:=ht1
   have hn2:n=l1.length+l2.length:=by rw [hn,hI,List.length_append]
   have hw1:swts L=swts l1+swts l2:=by rw [hI,swts_app]
   refine rk ?_
   cases l2 with
   | nil=>
     refine ky (l1.length:Int) (n:Int) (by simp at hn2;omega) ?_
     refine rs [] 60 1 ?_
     refine gR (.tuple #[]) (fun W hk=>⟨rfl,?_⟩)
     have:=hch.fin hk
     rw [hI,List.append_nil,ht1] at hT
     injection hT with hT
     rwa [hT] at this
   | cons x l3=>
     have hin:l1.length<n:=by rw [hn2,List.length_cons];omega
     have hks2:=StsAt_ls.2 hks
     have hT2:=hT
     rw [hI] at hks2 hT2
     obtain ⟨tx,t3,htx,rfl,htn⟩:=allT_mid hT2 ht1
     obtain ⟨c,hc,hcell⟩:=hks2.at_
     simp only [swts] at hw1
     have hdp:deep≤32:=hd.elim (fun e=>by rw [hI] at e;simp at e) id
     have hxR:stR x:=stRs_mem.1 hR x (by rw [hI];simp)
     have hxB:=stBs_mem (x:=x) (l:=L) (by rw [hI];simp)
     refine kx (l1.length:Int) (n:Int) (by omega) ?_
     refine rk ?_
     refine gI 54 56 cap l1.length hsl hin ?_
     refine rk ?_
     have hcl:=hc.len
     have hld:=fun W (hk:Keep _ _ W)=>load_slA (P:=Tryz.prog) (ty:=56) (m:=9) (cs:=c) hsl (by kernel_rfl) (by kernel_rfl) l1.length 0 hcl (fun j v hv=>by rw [Nat.add_zero];exact hcell j v hv) (W:=W) (hch.keep hk)
     obtain ⟨uK,us,⟨uo,ut,uv,un,uk⟩,uB,uL⟩:=x
     simp only [StAt] at hc
     obtain ⟨ucs,uj,uh,ubx,ui,uw,ulx,rfl,uhe,uhbs,uhbt,uhls,uhlt⟩:=hc
     have uhe0:=uhe
     simp only [ExAt] at uhe0
     obtain ⟨uf,ug,uex,rfl,_⟩:=uhe0
     have hxB2:=hxB
     simp only [stB] at hxB2
     obtain ⟨_,hRe,_,_⟩:=id hxR
     rcases stT_inv htx with ⟨rfl,te,hte,rfl⟩ | ⟨rfl,rfl⟩ | ⟨rfl,rfl⟩ | ⟨rfl,te,hte,rfl⟩ | ⟨rfl,rfl⟩ | ⟨rfl,te,tb,tl,hte,htb,htl,rfl⟩ | ⟨rfl,te,tb,tl,hte,htb,htl,rfl⟩
     ·
      refine gV (yV 1 us uo ut uv un uf uk.length ug uj uB.length uh ui uL.length uw) (S:=Instr.loadAt 56 (.pointer (some ⟨gB a,oB a+l1.length*9+0,none⟩))) (fun W hk=>hld W hk) ?_
      refine rk ?_
      refine gH [nP b,nI (deep:Int)] b (margT deep) (.tuple #[]) hch (fun W hk hbu hA=>pindent_any deep _ b W (by omega) hbu (by simp only [List.length_append,List.length_cons,List.length_nil] at hlen ⊢;omega)) ?_
      intro w1 B1 hc1 _ _
      refine rs [24] 60 9 ?_
      refine gC (us) ([32,61]) (by simp only [List.length_append,List.length_cons,List.length_nil] at hlen ⊢;omega) ?_
      refine rk ?_
      refine gH [nP b,nT (us++[32,61]),xV uo ut uv un uf uk.length ug,nT [59]] b ((us++[32,61])++([32]++(te++([59]++[10])))) (.tuple #[]) hc1 (fun W hk hbu hA=>pheaded_any (us++[32,61]) [59] (Ex.mk uo ut uv un uk) (xL uo ut uv un uf uk.length ug) te _ b W (by omega) hRe (ht.out hb (hc1.keep hk)) hte hbu (by simp only [List.length_append,List.length_cons,List.length_nil] at hlen ⊢;omega) (uhe.keep (hc1.keep hk) hA)) ?_
      intro w2 B2 hc2 _ _
      refine rk ?_
      refine gS 10 (x:=nI (wrapF .i64 ((l1.length:Int)+1))) (nI ((l1++[(St.mk 1 us (Ex.mk uo ut uv un uk) uB uL)]).length:Nat)) (by rw [wr64 (by omega) (by omega)];congr 1;simp) ?_
      exact gU _ [(0,vP b),(2,vI (deep:Int)),(8,vL a n cap),(9,vI (n:Int)),(10,vI ((l1++[(St.mk 1 us (Ex.mk uo ut uv un uk) uB uL)]).length:Int))] [] gz hγ0 (ih2 (l1++[(St.mk 1 us (Ex.mk uo ut uv un uk) uB uL)],l3) _ _ ⟨by show L=(l1++[_])++l3;rw [hI];simp,_,htn,by simpa only [List.append_assoc] using hc2⟩ lS1)
     ·
      refine gV (yV 2 us uo ut uv un uf uk.length ug uj uB.length uh ui uL.length uw) (S:=Instr.loadAt 56 (.pointer (some ⟨gB a,oB a+l1.length*9+0,none⟩))) (fun W hk=>hld W hk) ?_
      refine rk ?_
      refine gH [nP b,nI (deep:Int)] b (margT deep) (.tuple #[]) hch (fun W hk hbu hA=>pindent_any deep _ b W (by omega) hbu (by simp only [List.length_append,List.length_cons,List.length_nil] at hlen ⊢;omega)) ?_
      intro w1 B1 hc1 _ _
      refine rs [35] 19 9 ?_
      refine good_drawL sy_mixed (by kernel_rfl) ?_
      refine q_run [35] 60 ?_
      refine qV (nT ([108,111,99,107,32]++us)) (S:=(do eqGuard .add 9 (.const (nT [108,111,99,107,32])) (.tmp 34) (nT ([108,111,99,107,32])) (nT (us));binOp .add 9 (nT ([108,111,99,107,32])) (nT (us)))) (fun W _=>cat_str _ _ ([108,111,99,107,32]) (us) (by simp only [List.length_append,List.length_cons,List.length_nil] at hlen ⊢;omega) W) ?_
      refine q_run [36] 60 ?_
      refine qV (nT ([108,111,99,107,32]++us++[59,10])) (S:=(do eqGuard .add 9 (.tmp 35) (.const (nT [59,10])) (nT ([108,111,99,107,32]++us)) (nT ([59,10]));binOp .add 9 (nT ([108,111,99,107,32]++us)) (nT ([59,10])))) (fun W _=>cat_str _ _ ([108,111,99,107,32]++us) ([59,10]) (by simp only [List.length_append,List.length_cons,List.length_nil] at hlen ⊢;omega) W) ?_
      refine q_run [] 60 ?_
      refine qE ?_
      refine rk ?_
      refine gw b ([108,111,99,107,32]++us++[59,10]) hc1 (by simp only [List.length_append,List.length_cons,List.length_nil] at hlen ⊢;omega) ?_
      intro w2 B2 hc2 _ _
      refine rk ?_
      refine gS 10 (x:=nI (wrapF .i64 ((l1.length:Int)+1))) (nI ((l1++[(St.mk 2 us (Ex.mk uo ut uv un uk) uB uL)]).length:Nat)) (by rw [wr64 (by omega) (by omega)];congr 1;simp) ?_
      exact gU _ [(0,vP b),(2,vI (deep:Int)),(8,vL a n cap),(9,vI (n:Int)),(10,vI ((l1++[(St.mk 2 us (Ex.mk uo ut uv un uk) uB uL)]).length:Int))] [] gz hγ0 (ih2 (l1++[(St.mk 2 us (Ex.mk uo ut uv un uk) uB uL)],l3) _ _ ⟨by show L=(l1++[_])++l3;rw [hI];simp,_,htn,by simpa only [List.append_assoc] using hc2⟩ lS1)
     ·
      refine gV (yV 3 us uo ut uv un uf uk.length ug uj uB.length uh ui uL.length uw) (S:=Instr.loadAt 56 (.pointer (some ⟨gB a,oB a+l1.length*9+0,none⟩))) (fun W hk=>hld W hk) ?_
      refine rk ?_
      refine gH [nP b,nI (deep:Int)] b (margT deep) (.tuple #[]) hch (fun W hk hbu hA=>pindent_any deep _ b W (by omega) hbu (by simp only [List.length_append,List.length_cons,List.length_nil] at hlen ⊢;omega)) ?_
      intro w1 B1 hc1 _ _
      refine rs [45] 25 9 ?_
      refine good_drawL sy_mixed (by kernel_rfl) ?_
      refine q_run [45] 60 ?_
      refine qV (nT ([117,110,108,111,99,107,32]++us)) (S:=(do eqGuard .add 9 (.const (nT [117,110,108,111,99,107,32])) (.tmp 44) (nT ([117,110,108,111,99,107,32])) (nT (us));binOp .add 9 (nT ([117,110,108,111,99,107,32])) (nT (us)))) (fun W _=>cat_str _ _ ([117,110,108,111,99,107,32]) (us) (by simp only [List.length_append,List.length_cons,List.length_nil] at hlen ⊢;omega) W) ?_
      refine q_run [46] 60 ?_
      refine qV (nT ([117,110,108,111,99,107,32]++us++[59,10])) (S:=(do eqGuard .add 9 (.tmp 45) (.const (nT [59,10])) (nT ([117,110,108,111,99,107,32]++us)) (nT ([59,10]));binOp .add 9 (nT ([117,110,108,111,99,107,32]++us)) (nT ([59,10])))) (fun W _=>cat_str _ _ ([117,110,108,111,99,107,32]++us) ([59,10]) (by simp only [List.length_append,List.length_cons,List.length_nil] at hlen ⊢;omega) W) ?_
      refine q_run [] 60 ?_
      refine qE ?_
      refine rk ?_
      refine gw b ([117,110,108,111,99,107,32]++us++[59,10]) hc1 (by simp only [List.length_append,List.length_cons,List.length_nil] at hlen ⊢;omega) ?_
      intro w2 B2 hc2 _ _
      refine rk ?_
      refine gS 10 (x:=nI (wrapF .i64 ((l1.length:Int)+1))) (nI ((l1++[(St.mk 3 us (Ex.mk uo ut uv un uk) uB uL)]).length:Nat)) (by rw [wr64 (by omega) (by omega)];congr 1;simp) ?_
      exact gU _ [(0,vP b),(2,vI (deep:Int)),(8,vL a n cap),(9,vI (n:Int)),(10,vI ((l1++[(St.mk 3 us (Ex.mk uo ut uv un uk) uB uL)]).length:Int))] [] gz hγ0 (ih2 (l1++[(St.mk 3 us (Ex.mk uo ut uv un uk) uB uL)],l3) _ _ ⟨by show L=(l1++[_])++l3;rw [hI];simp,_,htn,by simpa only [List.append_assoc] using hc2⟩ lS1)
     ·
      refine gV (yV 4 us uo ut uv un uf uk.length ug uj uB.length uh ui uL.length uw) (S:=Instr.loadAt 56 (.pointer (some ⟨gB a,oB a+l1.length*9+0,none⟩))) (fun W hk=>hld W hk) ?_
      refine rk ?_
      refine gH [nP b,nI (deep:Int)] b (margT deep) (.tuple #[]) hch (fun W hk hbu hA=>pindent_any deep _ b W (by omega) hbu (by simp only [List.length_append,List.length_cons,List.length_nil] at hlen ⊢;omega)) ?_
      intro w1 B1 hc1 _ _
      refine rs [] 60 9 ?_
      refine gH [nP b,nT [97,115,115,101,114,116],xV uo ut uv un uf uk.length ug,nT [59]] b ([97,115,115,101,114,116]++([32]++(te++([59]++[10])))) (.tuple #[]) hc1 (fun W hk hbu hA=>pheaded_any [97,115,115,101,114,116] [59] (Ex.mk uo ut uv un uk) (xL uo ut uv un uf uk.length ug) te _ b W (by omega) hRe (ht.out hb (hc1.keep hk)) hte hbu (by simp only [List.length_append,List.length_cons,List.length_nil] at hlen ⊢;omega) (uhe.keep (hc1.keep hk) hA)) ?_
      intro w2 B2 hc2 _ _
      refine rk ?_
      refine gS 10 (x:=nI (wrapF .i64 ((l1.length:Int)+1))) (nI ((l1++[(St.mk 4 us (Ex.mk uo ut uv un uk) uB uL)]).length:Nat)) (by rw [wr64 (by omega) (by omega)];congr 1;simp) ?_
      exact gU _ [(0,vP b),(2,vI (deep:Int)),(8,vL a n cap),(9,vI (n:Int)),(10,vI ((l1++[(St.mk 4 us (Ex.mk uo ut uv un uk) uB uL)]).length:Int))] [] gz hγ0 (ih2 (l1++[(St.mk 4 us (Ex.mk uo ut uv un uk) uB uL)],l3) _ _ ⟨by show L=(l1++[_])++l3;rw [hI];simp,_,htn,by simpa only [List.append_assoc] using hc2⟩ lS1)
     ·
      refine gV (yV 7 us uo ut uv un uf uk.length ug uj uB.length uh ui uL.length uw) (S:=Instr.loadAt 56 (.pointer (some ⟨gB a,oB a+l1.length*9+0,none⟩))) (fun W hk=>hld W hk) ?_
      refine rk ?_
      refine gH [nP b,nI (deep:Int)] b (margT deep) (.tuple #[]) hch (fun W hk hbu hA=>pindent_any deep _ b W (by omega) hbu (by simp only [List.length_append,List.length_cons,List.length_nil] at hlen ⊢;omega)) ?_
      intro w1 B1 hc1 _ _
      refine rs [] 60 9 ?_
      refine gw b ([115,107,105,112,59,10]) hc1 (by simp only [List.length_append,List.length_cons,List.length_nil] at hlen ⊢;omega) ?_
      intro w2 B2 hc2 _ _
      refine rk ?_
      refine gS 10 (x:=nI (wrapF .i64 ((l1.length:Int)+1))) (nI ((l1++[(St.mk 7 us (Ex.mk uo ut uv un uk) uB uL)]).length:Nat)) (by rw [wr64 (by omega) (by omega)];congr 1;simp) ?_
      exact gU _ [(0,vP b),(2,vI (deep:Int)),(8,vL a n cap),(9,vI (n:Int)),(10,vI ((l1++[(St.mk 7 us (Ex.mk uo ut uv un uk) uB uL)]).length:Int))] [] gz hγ0 (ih2 (l1++[(St.mk 7 us (Ex.mk uo ut uv un uk) uB uL)],l3) _ _ ⟨by show L=(l1++[_])++l3;rw [hI];simp,_,htn,by simpa only [List.append_assoc] using hc2⟩ lS1)
     ·
      refine gV (yV 5 us uo ut uv un uf uk.length ug uj uB.length uh ui uL.length uw) (S:=Instr.loadAt 56 (.pointer (some ⟨gB a,oB a+l1.length*9+0,none⟩))) (fun W hk=>hld W hk) ?_
      refine rk ?_
      refine gH [nP b,nI (deep:Int)] b (margT deep) (.tuple #[]) hch (fun W hk hbu hA=>pindent_any deep _ b W (by omega) hbu (by simp only [List.length_append,List.length_cons,List.length_nil] at hlen ⊢;omega)) ?_
      intro w1 B1 hc1 _ _
      refine rs [] 60 9 ?_
      refine gH [nP b,yV 5 us uo ut uv un uf uk.length ug uj uB.length uh ui uL.length uw,nI (deep:Int)] b (nsT deep 5 te tb tl uL.length) (.tuple #[]) hc1 (fun W hk hbu hA=>pnested5_of N ih us uo ut uv un uk uB uL uj ui uf uh uw ug deep ubx ulx te tb tl _ b W (by omega) (by omega) (by omega) (by omega) hxR (ht.out hb (hc1.keep hk)) hte htb htl hbu (by simp only [List.length_append,List.length_cons,List.length_nil] at hlen ⊢;omega) (uhe.keep (hc1.keep hk) hA) ((uhbs.keep (hc1.keep hk)).mono hA) (uhbt.keep (hc1.keep hk) hA) ((uhls.keep (hc1.keep hk)).mono hA) (uhlt.keep (hc1.keep hk) hA)) ?_
      intro w2 B2 hc2 _ _
      refine rk ?_
      refine gS 10 (x:=nI (wrapF .i64 ((l1.length:Int)+1))) (nI ((l1++[(St.mk 5 us (Ex.mk uo ut uv un uk) uB uL)]).length:Nat)) (by rw [wr64 (by omega) (by omega)];congr 1;simp) ?_
      exact gU _ [(0,vP b),(2,vI (deep:Int)),(8,vL a n cap),(9,vI (n:Int)),(10,vI ((l1++[(St.mk 5 us (Ex.mk uo ut uv un uk) uB uL)]).length:Int))] [] gz hγ0 (ih2 (l1++[(St.mk 5 us (Ex.mk uo ut uv un uk) uB uL)],l3) _ _ ⟨by show L=(l1++[_])++l3;rw [hI];simp,_,htn,by simpa only [List.append_assoc] using hc2⟩ lS1)
     ·
      refine gV (yV 6 us uo ut uv un uf uk.length ug uj uB.length uh ui uL.length uw) (S:=Instr.loadAt 56 (.pointer (some ⟨gB a,oB a+l1.length*9+0,none⟩))) (fun W hk=>hld W hk) ?_
      refine rk ?_
      refine gH [nP b,nI (deep:Int)] b (margT deep) (.tuple #[]) hch (fun W hk hbu hA=>pindent_any deep _ b W (by omega) hbu (by simp only [List.length_append,List.length_cons,List.length_nil] at hlen ⊢;omega)) ?_
      intro w1 B1 hc1 _ _
      refine rs [] 60 9 ?_
      refine gH [nP b,yV 6 us uo ut uv un uf uk.length ug uj uB.length uh ui uL.length uw,nI (deep:Int)] b (nsT deep 6 te tb tl uL.length) (.tuple #[]) hc1 (fun W hk hbu hA=>pnested6_of N ih us uo ut uv un uk uB uL uj ui uf uh uw ug deep ubx ulx te tb tl _ b W (by omega) (by omega) (by omega) (by omega) hxR (ht.out hb (hc1.keep hk)) hte htb htl hbu (by simp only [List.length_append,List.length_cons,List.length_nil] at hlen ⊢;omega) (uhe.keep (hc1.keep hk) hA) ((uhbs.keep (hc1.keep hk)).mono hA) (uhbt.keep (hc1.keep hk) hA) ((uhls.keep (hc1.keep hk)).mono hA) (uhlt.keep (hc1.keep hk) hA)) ?_
      intro w2 B2 hc2 _ _
      refine rk ?_
      refine gS 10 (x:=nI (wrapF .i64 ((l1.length:Int)+1))) (nI ((l1++[(St.mk 6 us (Ex.mk uo ut uv un uk) uB uL)]).length:Nat)) (by rw [wr64 (by omega) (by omega)];congr 1;simp) ?_
      exact gU _ [(0,vP b),(2,vI (deep:Int)),(8,vL a n cap),(9,vI (n:Int)),(10,vI ((l1++[(St.mk 6 us (Ex.mk uo ut uv un uk) uB uL)]).length:Int))] [] gz hγ0 (ih2 (l1++[(St.mk 6 us (Ex.mk uo ut uv un uk) uB uL)],l3) _ _ ⟨by show L=(l1++[_])++l3;rw [hI];simp,_,htn,by simpa only [List.append_assoc] using hc2⟩ lS1)
end
section
theorem allT_isSome {α:Type} {f:α→Option (List UInt8)} {ok:α→Bool}:∀ (l:List α),(∀ x∈l,(f x).isSome=ok x)→(allT f l).isSome=!(l.any fun x=>!(ok x))
 | [],_=>rfl
 | x::l,h=>by
   have h1:=h x (by simp)
   have ih:=allT_isSome l (fun y hy=>h y (by simp [hy]))
   simp only [allT,List.any_cons]
   cases hx:f x with
   | none=>rw [hx] at h1;rw [← h1];simp
   | some t=>
     rw [hx] at h1
     rw [← h1]
     cases ht:allT f l with
     | none=>rw [ht] at ih;simp at ih ⊢;exact ih
     | some s=>rw [ht] at ih;simp at ih ⊢;exact ih
theorem okT_plain (x:Th) (h:thR x):(thT x).isSome=okT x:=by
 have h1:=allT_isSome (f:=vrT [32,32,108,111,99,97,108]) (ok:=okV) x.locals (fun v hv=>okV_vrT _ v (h.1 v hv))
 unfold thT okT okB
 cases ha:allT (vrT [32,32,108,111,99,97,108]) x.locals with
 | none=>rw [ha] at h1;rw [← h1];simp
 | some a=>
   rw [ha] at h1
   rw [← h1]
   cases hb:stsT 0 x.body with
   | none=>simp
   | some b=>cases hn:nameB x.name <;> simp
theorem okM_plain (m:List UInt8):(mxT m).isSome=nameB m:=by
 unfold mxT
 cases hn:nameB m <;> simp
theorem okP_plain (p:Pg) (h:pgR p):(pgT p).isSome=okP p:=by
 have h1:=allT_isSome (f:=vrT [115,104,97,114,101,100]) (ok:=okV) p.shared (fun v hv=>okV_vrT _ v (h.1 v hv))
 have h2:=allT_isSome (f:=mxT) (ok:=nameB) p.mutexes (fun m _=>okM_plain m)
 have h3:=allT_isSome (f:=thT) (ok:=okT) p.threads (fun x hx=>okT_plain x (h.2 x hx))
 unfold pgT okP
 rw [← h1,← h2,← h3]
 cases allT (vrT [115,104,97,114,101,100]) p.shared <;> cases allT mxT p.mutexes <;> cases allT thT p.threads <;> rfl
theorem Ch.give {k:Nat} {w1:World} {A B1:Nat→Prop} (hq:w1.heap[k]?=some (.cells #[.pointer none,.slice none 0 0] 94 (0,0))) (hB:B1 k) (hA:∀ j,A j→B1 j) (hn:¬ A k) (hB1:∀ j,B1 j→j<w1.heap.size):Ch k [] A w1 w1 B1:=by
 have hF:∀ j,BuF k w1 j↔j=k:=fun j=>by rw [BuF.at_ hq];simp [Value.ownBlock]
 refine ⟨⟨_,none,0,0,.inl rfl,hq,World.ownsRow_nil _ _ _ _,by simp [Value.ownBlock],fun _=>rfl⟩,fun j hj=>?_,hA,Sy.Keep.refl _ _,fun j hj => .inl hj,fun j hj=>⟨hB1 j (hA j hj),fun h=>?_⟩⟩
 · rw [(hF j).1 hj];exact hB
 · rw [(hF j).1 h] at hj;exact hn hj
section
open Go.Sy
variable {I:Aux} {B:Nat→Prop} {w0:World} {γ0:Gm} {nt:Nat} {Q:Exit→Act→World→Prop} {g:Cfg}
theorem good_bStr (cx:Cx Tryz.prog I B w0) {b:Nat} {l:List UInt8} {A:Nat→Prop} {win:World} (hch:Ch b l A win w0 B) (h:hdCall Tryz.prog nt g=some (56,[Value.pointer (some ⟨b,0,none⟩)].map norm)) (hbod:bodied Tryz.prog 56=some true) (hx:closeLL ([Value.pointer (some ⟨b,0,none⟩)].map norm)=some [Value.pointer (some ⟨b,0,none⟩)])
  (hown:trAll blkOwned g.s.h=true)
  (hg:∀ w' B',Keep A win w'→(∀ k,A k→B' k)→Sy.Good Tryz.prog B' w' γ0 nt Q (nx0 g (norm (.string (str l))))):Sy.Good Tryz.prog B w0 γ0 nt Q g:=by
 refine good_callW cx [.pointer (some ⟨b,0,none⟩)] (BuF b w0) (Pr:=fun w r w'=>r = .string (str l)) h hbod hx hown hch.bB (fun w hk=>?_) ?_
 · obtain ⟨h1,h2⟩:=hch.seen hk
   exact (bString_any b l w h1).mono fun e w' ⟨e1,e2⟩=>⟨_,e1,rfl,e2.mono fun k hk2=>⟨hk2.1,fun hF=>hk2.2 ((h2 k).1 hF)⟩⟩
 · rintro w r w' B' hk rfl h1 h2 h3 h4 h5
   exact hg w' B' (hch.kp.trans (h2.mono fun k hA=>⟨hch.AB k hA,hch.disj hA⟩)) (fun k hA=>h3 k (hch.AB k hA))
end
end
section
theorem pgT_inv {p:Pg} {t:List UInt8} (h:pgT p=some t):∃ a b c,allT (vrT [115,104,97,114,101,100]) p.shared=some a∧allT mxT p.mutexes=some b∧allT thT p.threads=some c∧t=a++(b++c):=by
 unfold pgT at h
 cases h1:allT (vrT [115,104,97,114,101,100]) p.shared with
 | none=>rw [h1] at h;cases h
 | some a=>
   cases h2:allT mxT p.mutexes with
   | none=>rw [h1,h2] at h;cases h
   | some b=>
     cases h3:allT thT p.threads with
     | none=>rw [h1,h2,h3] at h;cases h
     | some c=>
       rw [h1,h2,h3] at h
       injection h with h
       exact ⟨a,b,c,rfl,rfl,rfl,h.symm⟩
theorem thT_inv {x:Th} {t:List UInt8} (h:thT x=some t):∃ a b,allT (vrT [32,32,108,111,99,97,108]) x.locals=some a∧stsT 0 x.body=some b∧t=([116,104,114,101,97,100,32]++x.name++[32,123,10])++(a++(b++[125,10])):=by
 unfold thT at h
 cases h1:allT (vrT [32,32,108,111,99,97,108]) x.locals with
 | none=>rw [h1] at h;cases h
 | some a=>
   cases h2:stsT 0 x.body with
   | none=>rw [h1,h2] at h;cases h
   | some b=>
     rw [h1,h2] at h
     simp only at h
     split at h
     · injection h with h
       exact ⟨a,b,rfl,rfl,by rw [← h];simp⟩
     · cases h
theorem mxT_inv {m t:List UInt8} (h:mxT m=some t):t=[109,117,116,101,120,32]++m++[59,10]:=by
 unfold mxT at h
 split at h
 · injection h with h
   rw [← h];simp
 · cases h
open Go.Sy in
set_option maxRecDepth 100000 in
theorem tPrint_any (p:Pg) (cs:List Value) (w:World) (hB:pgB p≤400000000000) (hR:pgR p) (ht:Tab w) (hlen:∀ t,pgT p=some t→t.length≤140737488355328) (hp:PgAt (·<w.heap.size) w p cs):
  CB 16 #[.agg cs.toArray] w (.tuple #[nT (printS p),nI (printE p)]):=by
 have hp0:=hp
 obtain ⟨a,cap,xs,b,cap2,ys,d,cap3,zs,rfl,_⟩:=hp0
 refine eN [.agg #[.slice a p.shared.length cap,.slice b p.mutexes.length cap2,.slice d p.threads.length cap3]] Tryz.func16 (fun γ0 hγ0=>?_)
 refine rk ?_
 cases hv:pgT p with
 | none=>
   refine gX [.agg #[.slice a p.shared.length cap,.slice b p.mutexes.length cap2,.slice d p.threads.length cap3]] (.bool false) (fun W hk=>by
    have:=tprogram_any p [.slice a p.shared.length cap,.slice b p.mutexes.length cap2,.slice d p.threads.length cap3] W hB hR (ht.below (Keep.below hk)) (hp.keep hk (kU hk))
    rw [← okP_plain p hR,hv] at this
    exact this) ?_
   refine rs [] 60 4 ?_
   exact gR (.tuple #[nT [],nI 2]) (fun W hk=>⟨by unfold printS printE;rw [hv],hk.below⟩)
 | some t=>
   have hlen:=hlen t hv
   obtain ⟨tS,tM,tT,hS,hM,hT,rfl⟩:=pgT_inv hv
   unfold pgB at hB
   obtain ⟨hRs,hRt⟩:=id hR
   have hl1:=len_sumN (μ:=vrB) (fun v=>by unfold vrB;omega) p.shared
   have hl2:=len_sumN (μ:=txB) (fun v=>by unfold txB;omega) p.mutexes
   have hl3:=len_sumN (μ:=thB) (fun v=>by unfold thB;omega) p.threads
   obtain ⟨a',cap',xs',b',cap2',ys',d',cap3',zs',he,hxs,hxt,hys,hyt,hzs,hzt⟩:=id hp
   simp only [List.cons.injEq,Value.slice.injEq,true_and,and_true] at he
   obtain ⟨⟨rfl,rfl⟩,⟨rfl,rfl⟩,rfl,rfl⟩:=he
   refine gX [.agg #[.slice a p.shared.length cap,.slice b p.mutexes.length cap2,.slice d p.threads.length cap3]] (.bool true) (fun W hk=>by
    have:=tprogram_any p [.slice a p.shared.length cap,.slice b p.mutexes.length cap2,.slice d p.threads.length cap3] W hB hR (ht.below (Keep.below hk)) (hp.keep hk (kU hk))
    rw [← okP_plain p hR,hv] at this
    exact this) ?_
   refine rs [] 60 2 ?_
   refine gG 4 (gz+1) 94 [.pointer none,.slice none 0 0] (fun q w1 B1 hk1 hB01 hBq hnq hB1 hq=>?_)
   have hch:=Ch.give hq hBq hB01 hnq hB1
   have hk1:Keep (·<w.heap.size) w w1:=hk1
   obtain ⟨A,hA⟩:∃ A:Nat→Prop,A=(·<w.heap.size):=⟨_,rfl⟩
   have hch:Ch q [] A w1 w1 B1:=by rw [hA];exact hch
   have KW:∀ {l B w3} (h:Ch q l A w1 w3 B) {W},Keep B w3 W→Keep (·<w.heap.size) w W:=fun h W hk=>by
    have:=h.keep hk
    rw [hA] at this
    exact hk1.trans this
   have OUT:∀ {l B w3} (h:Ch q l A w1 w3 B) {W},(∀ k,A k→Out q W k)→∀ k,k<w.heap.size→Out q W k:=fun h W hh k hk=>hh k (by rw [hA];exact hk)
   refine rk ?_
   refine good_toLp ?_
   refine good_loopB (fun i:List Vr×List Vr=>i.2.length) (fun i B3 w3=>p.shared=i.1++i.2∧∃ t1,allT (vrT [115,104,97,114,101,100]) i.1=some t1∧Ch q t1 A w1 w3 B3) (fun i=>⟨mkT [(1,.ptr gz 0),(4,vP q),(17,vL a p.shared.length cap),(18,vI (p.shared.length:Int)),(19,vI (i.1.length:Int))],mkH [(gz,bK 26 3 [vL a p.shared.length cap,vL b p.mutexes.length cap2,vL d p.threads.length cap3])],gz+2,[]⟩)
    ([],p.shared) ⟨rfl,[],rfl,hch⟩ (by kernel_rfl)
    (fun h=>gU _ [(1,.ptr gz 0),(4,vP q),(17,vL a p.shared.length cap),(18,vI (p.shared.length:Int)),(19,vI (([]:List Vr).length:Int))] [(gz,bK 26 3 [vL a p.shared.length cap,vL b p.mutexes.length cap2,vL d p.threads.length cap3])] (gz+2) (gA hγ0) h) ?_
   rintro ⟨l1,l2⟩ B3 w3 ⟨hI1,t1,ht1,hc3⟩ ih3
   have hI1:p.shared=l1++l2:=hI1
   have ht1:allT (vrT [115,104,97,114,101,100]) l1=some t1:=ht1
   have hnl1:p.shared.length=l1.length+l2.length:=by rw [hI1,List.length_append]
   refine rk ?_
   cases l2 with
   | cons v l3=>
     have hT2:=hS
     have hks2:=hxt
     rw [hI1] at hT2 hks2
     obtain ⟨tx,t3,htx,htt,htn⟩:=allT_mid hT2 ht1
     obtain ⟨c,hc,hcell⟩:=hks2.at_ (fun _ _ h=>h.len)
     obtain rfl:c=[nT v.name,.int .u8 v.ty,.int .u64 v.bits]:=hc
     have hin:l1.length<p.shared.length:=by rw [hnl1,List.length_cons];omega
     have hlt:=congrArg List.length htt
     simp only [List.length_append] at hlt
     refine kx (l1.length:Int) (p.shared.length:Int) (by omega) ?_
     refine rk ?_
     refine gI 22 67 cap l1.length hxs hin ?_
     refine rk ?_
     refine gV (.agg #[nT v.name,.int .u8 v.ty,.int .u64 v.bits]) (S:=Instr.loadAt 67 (.pointer (some ⟨gB a,oB a+l1.length*3+0,none⟩))) (fun W hk=>load_slA (P:=Tryz.prog) (ty:=67) (m:=3) (cs:=[nT v.name,.int .u8 v.ty,.int .u64 v.bits]) hxs (by kernel_rfl) (by kernel_rfl) l1.length 0 rfl (fun j v hv=>by rw [Nat.add_zero];exact hcell j v hv) (W:=W) (KW hc3 hk)) ?_
     refine rk ?_
     refine gH [nP q,nT [115,104,97,114,101,100],.agg #[nT v.name,.int .u8 v.ty,.int .u64 v.bits]] q (tx) (.tuple #[]) hc3 (fun W hk hbu hA=>pvariable_any [115,104,97,114,101,100] v tx _ q W (hRs v (by rw [hI1];simp)) (ht.below (KW hc3 hk).below) htx hbu (by simp only [List.length_append,List.length_cons,List.length_nil] at hlen ⊢;omega)) ?_
     intro w9 B9 hc9 _ _
     refine rk ?_
     refine gS 19 (x:=nI (wrapF .i64 ((l1.length:Int)+1))) (nI ((l1++[v]).length:Nat)) (by rw [wr64 (by omega) (by omega)];congr 1;simp) ?_
     exact gU _ [(1,.ptr gz 0),(4,vP q),(17,vL a p.shared.length cap),(18,vI (p.shared.length:Int)),(19,vI ((l1++[v]).length:Int))] [(gz,bK 26 3 [vL a p.shared.length cap,vL b p.mutexes.length cap2,vL d p.threads.length cap3])] (gz+2) (gA hγ0) (ih3 (l1++[v],l3) _ _ ⟨by show p.shared=(l1++[_])++l3;rw [hI1];simp,_,htn,by simpa only [List.append_assoc] using hc9⟩ lS1)
   | nil=>
     rw [hI1,List.append_nil,ht1] at hS
     injection hS with hS
     subst hS
     refine ky (l1.length:Int) (p.shared.length:Int) (by simp at hnl1;omega) ?_
     refine rk ?_
     refine good_toLp ?_
     refine good_loopB (fun i:List (List UInt8)×List (List UInt8)=>i.2.length) (fun i B4 w4=>p.mutexes=i.1++i.2∧∃ t2,allT mxT i.1=some t2∧Ch q (t1++t2) A w1 w4 B4) (fun i=>⟨mkT [(1,.ptr gz 0),(4,vP q),(27,vL b p.mutexes.length cap2),(28,vI (p.mutexes.length:Int)),(29,vI (i.1.length:Int))],mkH [(gz,bK 26 3 [vL a p.shared.length cap,vL b p.mutexes.length cap2,vL d p.threads.length cap3])],gz+2,[]⟩)
      ([],p.mutexes) ⟨rfl,[],rfl,by rw [List.append_nil];exact hc3⟩ (by kernel_rfl)
      (fun h=>gU _ [(1,.ptr gz 0),(4,vP q),(27,vL b p.mutexes.length cap2),(28,vI (p.mutexes.length:Int)),(29,vI (([]:List (List UInt8)).length:Int))] [(gz,bK 26 3 [vL a p.shared.length cap,vL b p.mutexes.length cap2,vL d p.threads.length cap3])] (gz+2) (gA hγ0) h) ?_
     rintro ⟨m1,m2⟩ B4 w4 ⟨hI2,t2,ht2,hc4⟩ ih4
     have hI2:p.mutexes=m1++m2:=hI2
     have ht2:allT mxT m1=some t2:=ht2
     have hnm1:p.mutexes.length=m1.length+m2.length:=by rw [hI2,List.length_append]
     refine rk ?_
     cases m2 with
     | cons s m3=>
       have hT2:=hM
       have hks2:=hyt
       rw [hI2] at hT2 hks2
       obtain ⟨tx,t3,htx,htt,htn⟩:=allT_mid hT2 ht2
       obtain ⟨c,hc,hcell⟩:=hks2.at_ (k:=1) (fun _ _ h=>by rw [show _=_ from h];rfl)
       obtain rfl:c=[nT s]:=hc
       obtain rfl:=mxT_inv htx
       have hin:m1.length<p.mutexes.length:=by rw [hnm1,List.length_cons];omega
       have hlt:=congrArg List.length htt
       simp only [List.length_append,List.length_cons,List.length_nil] at hlt
       refine kx (m1.length:Int) (p.mutexes.length:Int) (by omega) ?_
       refine rk ?_
       refine gI 23 9 cap2 m1.length hys hin ?_
       refine rk ?_
       refine gV (nT s) (S:=Instr.loadAt 9 (.pointer (some ⟨gB b,oB b+m1.length*1+0,none⟩))) (fun W hk=>load_sl hys (by kernel_rfl) m1.length 0 (by rw [Nat.add_zero];exact hcell 0 _ rfl) (KW hc4 hk)) ?_
       refine rs [35] 60 0 ?_
       refine gC ([109,117,116,101,120,32]) (s) (by simp only [List.length_append,List.length_cons,List.length_nil] at hlen ⊢;omega) ?_
       refine rs [36] 60 0 ?_
       refine gC ([109,117,116,101,120,32]++s) ([59,10]) (by simp only [List.length_append,List.length_cons,List.length_nil] at hlen ⊢;omega) ?_
       refine rk ?_
       refine gw q ([109,117,116,101,120,32]++s++[59,10]) hc4 (by simp only [List.length_append,List.length_cons,List.length_nil] at hlen ⊢;omega) ?_
       intro w9 B9 hc9 _ _
       refine rk ?_
       refine gS 29 (x:=nI (wrapF .i64 ((m1.length:Int)+1))) (nI ((m1++[s]).length:Nat)) (by rw [wr64 (by omega) (by omega)];congr 1;simp) ?_
       exact gU _ [(1,.ptr gz 0),(4,vP q),(27,vL b p.mutexes.length cap2),(28,vI (p.mutexes.length:Int)),(29,vI ((m1++[s]).length:Int))] [(gz,bK 26 3 [vL a p.shared.length cap,vL b p.mutexes.length cap2,vL d p.threads.length cap3])] (gz+2) (gA hγ0) (ih4 (m1++[s],m3) _ _ ⟨by show p.mutexes=(m1++[_])++m3;rw [hI2];simp,_,htn,by simpa only [List.append_assoc] using hc9⟩ lS1)
     | nil=>
       rw [hI2,List.append_nil,ht2] at hM
       injection hM with hM
       subst hM
       refine ky (m1.length:Int) (p.mutexes.length:Int) (by simp at hnm1;omega) ?_
       refine rk ?_
       refine good_toLp ?_
       refine good_loopB (fun i:List Th×List Th=>i.2.length) (fun i B5 w5=>p.threads=i.1++i.2∧∃ t3,allT thT i.1=some t3∧Ch q (t1++(t2++t3)) A w1 w5 B5) (fun i=>⟨mkT [(1,.ptr gz 0),(4,vP q),(40,vL d p.threads.length cap3),(41,vI (p.threads.length:Int)),(42,vI (i.1.length:Int))],mkH [(gz,bK 26 3 [vL a p.shared.length cap,vL b p.mutexes.length cap2,vL d p.threads.length cap3])],gz+2,[]⟩)
        ([],p.threads) ⟨rfl,[],rfl,by rw [List.append_nil];exact hc4⟩ (by kernel_rfl)
        (fun h=>gU _ [(1,.ptr gz 0),(4,vP q),(40,vL d p.threads.length cap3),(41,vI (p.threads.length:Int)),(42,vI (([]:List Th).length:Int))] [(gz,bK 26 3 [vL a p.shared.length cap,vL b p.mutexes.length cap2,vL d p.threads.length cap3])] (gz+2) (gA hγ0) h) ?_
       rintro ⟨k1,k2⟩ B5 w5 ⟨hI3,t3,ht3,hc5⟩ ih5
       have hI3:p.threads=k1++k2:=hI3
       have ht3:allT thT k1=some t3:=ht3
       have hnk1:p.threads.length=k1.length+k2.length:=by rw [hI3,List.length_append]
       refine rk ?_
       cases k2 with
       | cons x k3=>
         have hT2:=hT
         have hks2:=hzt
         rw [hI3] at hT2 hks2
         obtain ⟨ty,t4,hty,htt,hto⟩:=allT_mid hT2 ht3
         obtain ⟨c,hc,hcell⟩:=hks2.at_ (k:=3) (fun _ _ h=>h.len)
         have hxR:=hRt x (by rw [hI3];simp)
         have hxB:x.name.length+1+sumN vrB x.locals+stBs x.body≤sumN thB p.threads:=sumN_mem (μ:=thB) (x:=x) (l:=p.threads) (by rw [hI3];simp)
         obtain ⟨hxRl,hxRb⟩:=hxR
         have hkl:=len_sumN (μ:=vrB) (fun v=>by unfold vrB;omega) x.locals
         have hkb:=swts_stBs x.body
         obtain ⟨xa,xcap,xxs,xb,xcap2,xys,rfl,xh1,xh2,xh3,xh4⟩:=hc
         obtain ⟨tA,tB,hTA,hTB,rfl⟩:=thT_inv hty
         have hin:k1.length<p.threads.length:=by rw [hnk1,List.length_cons];omega
         have hlt:=congrArg List.length htt
         simp only [List.length_append,List.length_cons,List.length_nil] at hlt
         refine kx (k1.length:Int) (p.threads.length:Int) (by omega) ?_
         refine rk ?_
         refine gI 24 58 cap3 k1.length hzs hin ?_
         refine rk ?_
         refine gV (.agg #[nT x.name,.slice xa x.locals.length xcap,.slice xb x.body.length xcap2]) (S:=Instr.loadAt 58 (.pointer (some ⟨gB d,oB d+k1.length*3+0,none⟩))) (fun W hk=>load_slA (P:=Tryz.prog) (ty:=58) (m:=3) (cs:=[nT x.name,.slice xa x.locals.length xcap,.slice xb x.body.length xcap2]) hzs (by kernel_rfl) (by kernel_rfl) k1.length 0 rfl (fun j v hv=>by rw [Nat.add_zero];exact hcell j v hv) (W:=W) (KW hc5 hk)) ?_
         refine rs [49] 60 0 ?_
         refine gC ([116,104,114,101,97,100,32]) (x.name) (by simp only [List.length_append,List.length_cons,List.length_nil] at hlen ⊢;omega) ?_
         refine rs [50] 60 0 ?_
         refine gC ([116,104,114,101,97,100,32]++x.name) ([32,123,10]) (by simp only [List.length_append,List.length_cons,List.length_nil] at hlen ⊢;omega) ?_
         refine rk ?_
         refine gw q ([116,104,114,101,97,100,32]++x.name++[32,123,10]) hc5 (by simp only [List.length_append,List.length_cons,List.length_nil] at hlen ⊢;omega) ?_
         intro w6 B6 hc6 _ _
         refine rk ?_
         refine good_toLp ?_
         refine good_loopB (fun i:List Vr×List Vr=>i.2.length) (fun i B7 w7=>x.locals=i.1++i.2∧∃ t6,allT (vrT [32,32,108,111,99,97,108]) i.1=some t6∧Ch q ((t1++(t2++t3))++(([116,104,114,101,97,100,32]++x.name++[32,123,10])++t6)) A w1 w7 B7) (fun i=>⟨mkT [(1,.ptr gz 0),(4,vP q),(40,vL d p.threads.length cap3),(41,vI (p.threads.length:Int)),(42,vI (k1.length:Int)),(10,.ptr (gz+2) 0),(53,vL xa x.locals.length xcap),(54,vI (x.locals.length:Int)),(55,vI (i.1.length:Int))],mkH [(gz,bK 26 3 [vL a p.shared.length cap,vL b p.mutexes.length cap2,vL d p.threads.length cap3]),(gz+2,bK 58 3 [vT x.name,vL xa x.locals.length xcap,vL xb x.body.length xcap2])],gz+3,[]⟩)
          ([],x.locals) ⟨rfl,[],rfl,by rw [List.append_nil];exact hc6⟩ (by kernel_rfl)
          (fun h=>gU _ [(1,.ptr gz 0),(4,vP q),(40,vL d p.threads.length cap3),(41,vI (p.threads.length:Int)),(42,vI (k1.length:Int)),(10,.ptr (gz+2) 0),(53,vL xa x.locals.length xcap),(54,vI (x.locals.length:Int)),(55,vI (([]:List Vr).length:Int))] [(gz,bK 26 3 [vL a p.shared.length cap,vL b p.mutexes.length cap2,vL d p.threads.length cap3]),(gz+2,bK 58 3 [vT x.name,vL xa x.locals.length xcap,vL xb x.body.length xcap2])] (gz+3) (gA hγ0) h) ?_
         rintro ⟨j1,j2⟩ B7 w7 ⟨hI4,t6,ht6,hc7⟩ ih7
         have hI4:x.locals=j1++j2:=hI4
         have ht6:allT (vrT [32,32,108,111,99,97,108]) j1=some t6:=ht6
         have hnj1:x.locals.length=j1.length+j2.length:=by rw [hI4,List.length_append]
         refine rk ?_
         cases j2 with
         | cons v j3=>
           have xh1k:=xh1
           have hT2:=hTA
           have hks2:=xh2
           rw [hI4] at hT2 hks2
           obtain ⟨tx,t8,htx,htt6,htn⟩:=allT_mid hT2 ht6
           obtain ⟨c6,hc6x,hcell6⟩:=hks2.at_ (fun _ _ h=>h.len)
           obtain rfl:c6=[nT v.name,.int .u8 v.ty,.int .u64 v.bits]:=hc6x
           have hin:j1.length<x.locals.length:=by rw [hnj1,List.length_cons];omega
           have hlt6:=congrArg List.length htt6
           simp only [List.length_append] at hlt6
           refine kx (j1.length:Int) (x.locals.length:Int) (by omega) ?_
           refine rk ?_
           refine gI 22 67 xcap j1.length xh1 hin ?_
           refine rk ?_
           refine gV (.agg #[nT v.name,.int .u8 v.ty,.int .u64 v.bits]) (S:=Instr.loadAt 67 (.pointer (some ⟨gB xa,oB xa+j1.length*3+0,none⟩))) (fun W hk=>load_slA (P:=Tryz.prog) (ty:=67) (m:=3) (cs:=[nT v.name,.int .u8 v.ty,.int .u64 v.bits]) xh1 (by kernel_rfl) (by kernel_rfl) j1.length 0 rfl (fun j v hv=>by rw [Nat.add_zero];exact hcell6 j v hv) (W:=W) (KW hc7 hk)) ?_
           refine rk ?_
           refine gH [nP q,nT [32,32,108,111,99,97,108],.agg #[nT v.name,.int .u8 v.ty,.int .u64 v.bits]] q (tx) (.tuple #[]) hc7 (fun W hk hbu hA=>pvariable_any [32,32,108,111,99,97,108] v tx _ q W (hxRl v (by rw [hI4];simp)) (ht.below (KW hc7 hk).below) htx hbu (by simp only [List.length_append,List.length_cons,List.length_nil] at hlen ⊢;omega)) ?_
           intro w9 B9 hc9 _ _
           refine rk ?_
           refine gS 55 (x:=nI (wrapF .i64 ((j1.length:Int)+1))) (nI ((j1++[v]).length:Nat)) (by rw [wr64 (by omega) (by omega)];congr 1;simp) ?_
           exact gU _ [(1,.ptr gz 0),(4,vP q),(40,vL d p.threads.length cap3),(41,vI (p.threads.length:Int)),(42,vI (k1.length:Int)),(10,.ptr (gz+2) 0),(53,vL xa x.locals.length xcap),(54,vI (x.locals.length:Int)),(55,vI ((j1++[v]).length:Int))] [(gz,bK 26 3 [vL a p.shared.length cap,vL b p.mutexes.length cap2,vL d p.threads.length cap3]),(gz+2,bK 58 3 [vT x.name,vL xa x.locals.length xcap,vL xb x.body.length xcap2])] (gz+3) (gA hγ0) (ih7 (j1++[v],j3) _ _ ⟨by show x.locals=(j1++[_])++j3;rw [hI4];simp,_,htn,by simpa only [List.append_assoc] using hc9⟩ lS1)
         | nil=>
           rw [hI4,List.append_nil,ht6] at hTA
           injection hTA with hTA
           subst hTA
           refine ky (j1.length:Int) (x.locals.length:Int) (by simp at hnj1;omega) ?_
           refine rk ?_
           refine gH [nP q,.slice xb x.body.length xcap2,nI ((0:Nat):Int)] q (tB) (.tuple #[]) hc7 (fun W hk hbu hA=>blkW _ x.body xb x.body.length xcap2 xys 0 tB _ q W rfl (Nat.lt_succ_self _) (by omega) (by omega) (by omega) hxRb (ht.below (KW hc7 hk).below) hTB hbu (by simp only [List.length_append,List.length_cons,List.length_nil] at hlen ⊢;omega) ((xh3.keep (KW hc7 hk)).mono (OUT hc7 hA)) (StsAt_ls.1 (xh4.keep (KW hc7 hk) (OUT hc7 hA)))) ?_
           intro w8 B8 hc8 _ _
           refine rk ?_
           refine gw q ([125,10]) hc8 (by simp only [List.length_append,List.length_cons,List.length_nil] at hlen ⊢;omega) ?_
           intro w9 B9 hc9 _ _
           refine rk ?_
           refine gS 42 (x:=nI (wrapF .i64 ((k1.length:Int)+1))) (nI ((k1++[x]).length:Nat)) (by rw [wr64 (by omega) (by omega)];congr 1;simp) ?_
           exact gU _ [(1,.ptr gz 0),(4,vP q),(40,vL d p.threads.length cap3),(41,vI (p.threads.length:Int)),(42,vI ((k1++[x]).length:Int))] [(gz,bK 26 3 [vL a p.shared.length cap,vL b p.mutexes.length cap2,vL d p.threads.length cap3])] (gz+2) (gA hγ0) (ih5 (k1++[x],k3) _ _ ⟨by show p.threads=(k1++[_])++k3;rw [hI3];simp,_,hto,by simpa only [List.append_assoc] using hc9⟩ lS1)
       | nil=>
         rw [hI3,List.append_nil,ht3] at hT
         injection hT with hT
         subst hT
         refine ky (k1.length:Int) (p.threads.length:Int) (by simp at hnk1;omega) ?_
         refine rk ?_
         refine gX [nP q] (nI (((t1++(t2++t3):List UInt8).length:Nat):Int)) (fun W hk=>bLen_any q _ W (hc5.seen hk).1) ?_
         refine rk ?_
         by_cases hm:16384<(t1++(t2++t3)).length
         ·
          refine kx 16384 (((t1++(t2++t3):List UInt8).length:Nat):Int) (by omega) ?_
          refine rs [] 60 1 ?_
          exact gR (.tuple #[nT [],nI 3]) (fun W hk=>⟨by unfold printS printE;rw [hv];simp only [if_pos hm],(KW hc5 hk).below⟩)
         refine ky 16384 (((t1++(t2++t3):List UInt8).length:Nat):Int) (by omega) ?_
         refine rk ?_
         refine good_bStr (sy_cx _ _) hc5 (by kernel_rfl) (by kernel_rfl) (by kernel_rfl) (by kernel_rfl) (fun w4 B4 hk4 hB4=>?_)
         refine rk ?_
         rw [hA] at hk4 hB4
         exact gR (.tuple #[nT (t1++(t2++t3)),nI 0]) (fun W hk=>⟨by unfold printS printE;rw [hv];simp only [if_neg hm],((hk1.trans hk4).trans (hk.mono hB4)).below⟩)
end
section
theorem sgn_lt {n:Nat} (h:n<9223372036854775808):(n:Int)<signBits:=by unfold signBits;omega
theorem sgn_ge {n:Nat} (h:¬ n<9223372036854775808):¬ (n:Int)<signBits:=by unfold signBits;omega
theorem valT_one {n:Nat} (h:¬ 9223372036854775808<n):valT 1 (n:Int)=litT 1 (n:Int):=by
 rw [litT1]
 unfold valT
 rw [if_pos rfl]
 by_cases hy:(n:Int)<signBits
 · rw [if_pos hy,if_pos hy]
 · rw [if_neg hy,if_neg hy,if_pos (show (n:Int)=signBits by unfold signBits at hy ⊢;omega)]
theorem valT_neg {n m:Nat} (h:9223372036854775808<n) (hm:(m:Int)=18446744073709551616 - (n:Int)):valT 1 (n:Int)=some ([45]++Lib.decDigits m):=by
 unfold valT
 rw [if_pos rfl,if_neg (show ¬ (n:Int)<signBits by unfold signBits;omega),if_neg (show ¬ (n:Int)=signBits by unfold signBits;omega),← hm,Int.toNat_natCast,List.singleton_append]
theorem valT_real {n:Nat} (h:n<9223372036854775808):valT 3 (n:Int)=litT 3 (n:Int):=by
 unfold valT
 rw [if_neg (by decide),if_pos rfl,if_pos (sgn_lt h)]
theorem valT_rnan {n m:Nat} (h:¬ n<9223372036854775808) (hm:(m:Int)=(n:Int) - signBits) (hq:(m:Int)=nanBits):valT 3 (n:Int)=none:=by
 unfold valT
 rw [if_neg (by decide),if_pos rfl,if_neg (sgn_ge h),← hm,if_pos hq]
theorem valT_rneg {n m:Nat} (h:¬ n<9223372036854775808) (hm:(m:Int)=(n:Int) - signBits) (hq:¬ (m:Int)=nanBits):valT 3 (n:Int)=(litT 3 (m:Int)).map (45::·):=by
 unfold valT
 rw [if_neg (by decide),if_pos rfl,if_neg (sgn_ge h),← hm,if_neg hq]
theorem valT_other {ty:Int} (c1:¬ ty=1) (c3:¬ ty=3) (n:Int):valT ty n=litT ty n:=by
 unfold valT
 rw [if_neg c1,if_neg c3]
end
section
theorem decDigits_le:∀ (k n:Nat),n<10 ^ (k+1)→(Lib.decDigits n).length≤k+1
 | 0,n,h=>by
   rw [Lib.decDigits,dif_pos (by simpa using h)]
   simp
 | k+1,n,h=>by
   rw [Lib.decDigits]
   split
   · simp
   · have:=decDigits_le k (n / 10) (by rw [Nat.pow_succ] at h;omega)
     simp
     omega
theorem decDigits_len20 {n:Nat} (h:n<18446744073709551616):(Lib.decDigits n).length≤20:=decDigits_le 19 n (Nat.lt_trans h (by decide))
theorem lit_len {ty:Int} {n:Nat} {t:List UInt8} (hn:n<18446744073709551616) (h:litT ty (n:Int)=some t):t.length≤1048600:=by
 unfold litT at h
 split at h
 · split at h
   · injection h with h
     have:=decDigits_len20 hn
     rw [← h]
     show (Lib.decDigits ((n:Int).toNat)).length≤_
     rw [Int.toNat_natCast]
     omega
   · cases h
 split at h
 · split at h
   · injection h with h;rw [← h];simp
   · split at h
     · injection h with h;rw [← h];simp
     · cases h
 split at h
 · split at h
   · injection h with h;rw [← h];simp
   · split at h
     · injection h with h;rw [← h];simp
     · split at h
       · have:=(realP_bound h).2.2.len;omega
       · cases h
 · cases h
end
section
mutual
theorem exT_len:∀ (e:Ex) {t:List UInt8},exR e→exT e=some t→t.length≤1048600*exB e
 | .mk op ty bits name kids,t,hR,h=>by
   simp only [exR] at hR
   obtain ⟨_,_,hb,hk⟩:=hR
   simp only [exB]
   rcases exT_inv h with ⟨rfl,rfl,hl⟩ | ⟨rfl,rfl,rfl⟩ | ⟨rfl,x,tx,rfl,hx,rfl⟩ | ⟨rfl,x,tx,rfl,hx,rfl⟩ | ⟨rfl,x,tx,rfl,hx,rfl⟩ | ⟨rfl,x,tx,rfl,hx,rfl⟩ | ⟨_,x,y,tx,ty',rfl,hx,hy,rfl⟩
   · obtain ⟨n,rfl⟩:∃ n:Nat,bits=(n:Int):=⟨bits.toNat,by omega⟩
     have:=lit_len (by omega) hl
     omega
   · omega
   all_goals
    simp only [exRs] at hk
    have h1:=exT_len x hk.1 hx
    simp only [exBs,List.length_append,List.length_cons,List.length_nil]
   · omega
   · omega
   · omega
   · omega
   · have h2:=exT_len y hk.2.1 hy
     have h3:=psignT_len op
     omega
end
end
section
theorem valT_len {ty:Int} {n:Nat} {t:List UInt8} (hn:n<18446744073709551616) (h:valT ty (n:Int)=some t):t.length≤1048601:=by
 by_cases h1:ty=1
 · subst h1
   by_cases hz:9223372036854775808<n
   · obtain ⟨m,hm⟩:∃ m:Nat,(m:Int)=18446744073709551616 - (n:Int):=⟨18446744073709551616 - n,by omega⟩
     rw [valT_neg hz hm] at h
     injection h with h
     have:=decDigits_len20 (n:=m) (by omega)
     rw [← h]
     simp
     omega
   · rw [valT_one hz] at h
     have:=lit_len hn h
     omega
 by_cases h3:ty=3
 · subst h3
   by_cases hz:n<9223372036854775808
   · rw [valT_real hz] at h
     have:=lit_len hn h
     omega
   · obtain ⟨m,hm⟩:∃ m:Nat,(m:Int)=(n:Int) - signBits:=⟨n - 9223372036854775808,by unfold signBits;omega⟩
     have hm2:(m:Int)=(n:Int) - 9223372036854775808:=hm
     by_cases hq:(m:Int)=nanBits
     · rw [valT_rnan hz hm hq] at h
       cases h
     · rw [valT_rneg hz hm hq,Option.map_eq_some_iff] at h
       obtain ⟨s,hs,rfl⟩:=h
       have:=lit_len (n:=m) (by omega) hs
       simp
       omega
 rw [valT_other h1 h3] at h
 have:=lit_len hn h
 omega
theorem vrT_len {wd:List UInt8} (hwd:wd.length≤100) {v:Vr} (hR:vrR v) {t:List UInt8} (h:vrT wd v=some t):t.length≤1048900*vrB v:=by
 obtain ⟨_,h1,h2⟩:=hR
 unfold vrT at h
 split at h
 rotate_left
 · cases h
 rw [Option.map_eq_some_iff] at h
 obtain ⟨s,hs,rfl⟩:=h
 obtain ⟨n,hn⟩:∃ n:Nat,v.bits=(n:Int):=⟨v.bits.toNat,by omega⟩
 rw [hn] at hs
 have:=valT_len (by omega) hs
 have h4:(typT v.ty).length≤4:=by
  unfold typT
  by_cases c:v.ty=2
  · rw [if_pos c];decide
  · rw [if_neg c]
    by_cases d:v.ty=3
    · rw [if_pos d];decide
    · rw [if_neg d];decide
 unfold vrB
 simp only [List.length_append,List.length_cons,List.length_nil]
 omega
theorem varsT_len {wd:List UInt8} (hwd:wd.length≤100):∀ {l:List Vr} {t:List UInt8},(∀ v∈l,vrR v)→allT (vrT wd) l=some t→t.length≤1048900*sumN vrB l
 | [],t,_,h=>by
   simp only [allT,Option.some.injEq] at h
   subst h
   simp
 | v::l,t,hR,h=>by
   simp only [allT] at h
   split at h
   · cases h
   rename_i a ha
   split at h
   · cases h
   rename_i b hb
   injection h with h
   have h1:=vrT_len hwd (hR v (by simp)) ha
   have h2:=varsT_len hwd (fun x hx=>hR x (by simp [hx])) hb
   rw [← h]
   simp only [sumN,List.length_append]
   omega
end
section
mutual
theorem stT_len:∀ (x:St) {deep:Nat} {t:List UInt8},deep≤32→stR x→stT deep x=some t→t.length≤1048900*stB x
 | .mk kind name e body els,deep,t,hd,hR,h=>by
   obtain ⟨_,hRe,hRb,hRl⟩:=hR
   simp only [stB]
   have hm:=margT_len deep
   rcases stT_inv h with ⟨rfl,te,hte,rfl⟩ | ⟨rfl,rfl⟩ | ⟨rfl,rfl⟩ | ⟨rfl,te,hte,rfl⟩ | ⟨rfl,rfl⟩ | ⟨rfl,te,tb,tl,hte,htb,htl,rfl⟩ | ⟨rfl,te,tb,tl,hte,htb,htl,rfl⟩
   · have:=exT_len e hRe hte
     simp only [List.length_append,List.length_cons,List.length_nil]
     omega
   · simp only [List.length_append,List.length_cons,List.length_nil]
     omega
   · simp only [List.length_append,List.length_cons,List.length_nil]
     omega
   · have:=exT_len e hRe hte
     simp only [List.length_append,List.length_cons,List.length_nil]
     omega
   · simp only [List.length_append,List.length_cons,List.length_nil]
     omega
   all_goals
    have h1:=exT_len e hRe hte
    have h2:=stsT_len body hRb htb
    have h3:=stsT_len els hRl htl
    have hw5:(wdT 5).length=2:=rfl
    have hw6:(wdT 6).length=5:=rfl
    unfold nsT
    by_cases hz:0<els.length
    · rw [if_pos hz]
      simp only [List.length_append,List.length_cons,List.length_nil]
      omega
    · rw [if_neg hz]
      simp only [List.length_append,List.length_cons,List.length_nil]
      omega
theorem stsT_len:∀ (L:List St) {deep:Nat} {t:List UInt8},stRs L→stsT deep L=some t→t.length≤1048900*stBs L
 | [],deep,t,_,h=>by
   simp only [stsT,Option.some.injEq] at h
   subst h
   simp
 | x::l,deep,t,hR,h=>by
   simp only [stsT] at h
   split at h
   · cases h
   split at h
   · cases h
   rename_i hd _ a ha
   split at h
   · cases h
   rename_i b hb
   injection h with h
   simp only [stRs] at hR
   have h1:=stT_len x (by omega) hR.1 ha
   have h2:=stsT_len l hR.2 hb
   rw [← h]
   simp only [stBs,List.length_append]
   omega
end
end
section
theorem allT_len {α:Type} {f:α→Option (List UInt8)} {μ:α→Nat}:∀ {l:List α} {t:List UInt8},(∀ x∈l,∀ u,f x=some u→u.length≤1048900*μ x)→allT f l=some t→t.length≤1048900*sumN μ l
 | [],t,_,h=>by
   simp only [allT,Option.some.injEq] at h
   subst h
   simp
 | x::l,t,hf,h=>by
   simp only [allT] at h
   split at h
   · cases h
   rename_i a ha
   split at h
   · cases h
   rename_i b hb
   injection h with h
   have h1:=hf x (by simp) a ha
   have h2:=allT_len (fun y hy=>hf y (by simp [hy])) hb
   rw [← h]
   simp only [sumN,List.length_append]
   omega
theorem mxT_len {m t:List UInt8} (h:mxT m=some t):t.length≤1048900*txB m:=by
 rw [mxT_inv h]
 unfold txB
 simp only [List.length_append,List.length_cons,List.length_nil]
 omega
theorem thT_len {x:Th} {t:List UInt8} (hR:thR x) (h:thT x=some t):t.length≤1048900*thB x:=by
 obtain ⟨a,b,ha,hb,rfl⟩:=thT_inv h
 have h1:=varsT_len (by decide) hR.1 ha
 have h2:=stsT_len x.body hR.2 hb
 unfold thB
 simp only [List.length_append,List.length_cons,List.length_nil]
 omega
theorem pgT_len {p:Pg} {t:List UInt8} (hR:pgR p) (h:pgT p=some t):t.length≤1048900*pgB p:=by
 obtain ⟨a,b,c,ha,hb,hc,rfl⟩:=pgT_inv h
 have h1:=varsT_len (by decide) hR.1 ha
 have h2:=allT_len (μ:=txB) (fun m _ u hu=>mxT_len hu) hb
 have h3:=allT_len (μ:=thB) (fun x hx u hu=>thT_len (hR.2 x hx) hu) hc
 unfold pgB
 simp only [List.length_append]
 omega
end
section
set_option maxRecDepth 100000
noncomputable def okD (p:Pg):Bool:=!(Sy.intEq (printE p) 2)
theorem okD_some (p:Pg):okD p=(pgT p).isSome:=by
 unfold okD printE
 cases h:pgT p with
 | none=>rw [eq_t rfl];rfl
 | some t=>
   simp only
   split <;> rw [eq_f (by decide)] <;> rfl
open Go.Sy
theorem cprinted_any (p:Pg) {pa pb pd:Option Addr} {vn qm qt qc qd qe:Nat} (w:World) (ht:Tab w) (hB:pgB p≤100000000) (hR:pgR p) (hp:PgAt (·<w.heap.size) w p [.slice pa vn qc,.slice pb qm qd,.slice pd qt qe]):
  CB 168 #[.agg #[.slice pa vn qc,.slice pb qm qd,.slice pd qt qe]] w (.bool (okD p)):=by
 have hB0:=hB
 have hB:pgB p≤400000000000:=by omega
 refine eN [.agg #[.slice pa vn qc,.slice pb qm qd,.slice pd qt qe]] Tryz.func168 (fun γ0 hγ0=>?_)
 refine rk ?_
 refine gX [.agg #[.slice pa vn qc,.slice pb qm qd,.slice pd qt qe]] (.tuple #[nT (printS p),nI (printE p)]) (fun W hk=>tPrint_any p [.slice pa vn qc,.slice pb qm qd,.slice pd qt qe] W hB hR (ht.below hk.below) (fun t h=>by have:=pgT_len hR h;omega) (hp.keep hk (kU hk))) ?_
 refine rk ?_
 exact gR (.bool (!(intEq (printE p) 2))) (fun W hk=>⟨by unfold okD;rfl,hk.below⟩)
def alS:St→St
 | .mk k n e b l => .mk k n e (if k=5∨k=6 then [] else b) (if k=5 then [] else l)
def onePg (s:St):Pg:=⟨[],[],[⟨[116],[],[s]⟩]⟩
theorem sl_nil (F:Nat→Prop) (w:World) (a:Option Addr) (sz:Nat):Sy.SlAt F w a 0 sz []:=⟨by simp,.inl rfl⟩
theorem pg_one {F:Nat→Prop} {w:World} {s:St} {c:List Value} {k1 k2:Option Addr} {cap1 cap2:Nat} (hs:StAt F w s c) (h1:Sy.SlAt F w k1 1 9 c) (h2:Sy.SlAt F w k2 1 3 [.string (str [116]),.slice none 0 0,.slice k1 1 cap1]):
  PgAt F w (onePg s) [.slice none 0 0,.slice none 0 0,.slice k2 1 cap2]:=by
 refine ⟨none,0,[],none,0,[],k2,cap2,_,rfl,sl_nil _ _ _ _,rfl,sl_nil _ _ _ _,rfl,h2,_,[],(List.append_nil _).symm,⟨none,0,[],k1,cap1,c,rfl,sl_nil _ _ _ _,rfl,h1,?_⟩,rfl⟩
 exact ⟨c,[],(List.append_nil _).symm,hs,rfl⟩
theorem calone_5 (us:List UInt8) (uo ut uv:Int) (un:List UInt8) (uk:List Ex) (uB uL:List St) (uj ui uf:Option Addr) (uh uw ug:Nat) (ubx ulx:List Value) (w:World) (ht:Tab w)
  (uhe:ExAt (·<w.heap.size) w (Ex.mk uo ut uv un uk) (xL uo ut uv un uf uk.length ug)) (uhbs:SlAt (·<w.heap.size) w uj uB.length 9 ubx) (uhbt:StsAt (·<w.heap.size) w uB ubx) (uhls:SlAt (·<w.heap.size) w ui uL.length 9 ulx) (uhlt:StsAt (·<w.heap.size) w uL ulx)
  (hBd:pgB (onePg (alS (.mk 5 us (Ex.mk uo ut uv un uk) uB uL)))≤100000000) (hRR:pgR (onePg (alS (.mk 5 us (Ex.mk uo ut uv un uk) uB uL)))):
  CB 107 #[yV 5 us uo ut uv un uf uk.length ug uj uB.length uh ui uL.length uw] w (.bool (okD (onePg (alS (.mk 5 us (Ex.mk uo ut uv un uk) uB uL))))):=by
 refine eN [yV 5 us uo ut uv un uf uk.length ug uj uB.length uh ui uL.length uw] Tryz.func107 (fun γ0 hγ0=>?_)
 refine rs [18] 120 2 ?_
 refine good_giveC 17 (gz+1) 56 9 1 (yL 5 us uo ut uv un uf uk.length ug none 0 0 none 0 0) (by kernel_rfl) (by kernel_rfl) rfl (fun k1 cap1 w1 B1 hk1 hB01 hB1 hs1=>?_)
 refine rs [20] 60 0 ?_
 refine good_giveC 19 (gz+2) 58 3 1 [nT [116],.slice none 0 0,.slice (some ⟨k1,0,none⟩) 1 cap1] (by kernel_rfl) (by kernel_rfl) rfl (fun k2 cap2 w2 B2 hk2 hB12 hB2 hs2=>?_)
 have hk02:Keep (·<w.heap.size) w w2:=hk1.trans (hk2.mono hB01)
 have hB02:∀ k,k<w.heap.size→B2 k:=fun k h=>hB12 k (hB01 k h)
 have hs1:=(hs1.keep hk2).mono hB12
 have hst:StAt B2 w2 (alS (.mk 5 us (Ex.mk uo ut uv un uk) uB uL)) (yL 5 us uo ut uv un uf uk.length ug none 0 0 none 0 0):=by
  show StAt B2 w2 (.mk 5 us (Ex.mk uo ut uv un uk) [] []) _
  exact ⟨_,none,0,[],none,0,[],rfl,uhe.keep hk02 hB02,sl_nil _ _ _ _,rfl,sl_nil _ _ _ _,rfl⟩
 have hpg:=pg_one hst hs1 hs2 (cap2:=cap2)
 refine rk ?_
 refine gX [.agg #[.slice none 0 0,.slice none 0 0,.slice (some ⟨k2,0,none⟩) 1 cap2]] (.bool (okD (onePg (alS (.mk 5 us (Ex.mk uo ut uv un uk) uB uL))))) (fun W hk=>cprinted_any _ W (ht.below (hk02.trans (hk.mono hB02)).below) hBd hRR (hpg.keep hk fun k h=>Nat.lt_of_lt_of_le (hB2 k h) hk.size)) ?_
 refine rs [] 60 2 ?_
 exact gR (.bool (okD (onePg (alS (.mk 5 us (Ex.mk uo ut uv un uk) uB uL))))) (fun W hk=>⟨rfl,(hk02.trans (hk.mono hB02)).below⟩)
theorem calone_6 (us:List UInt8) (uo ut uv:Int) (un:List UInt8) (uk:List Ex) (uB uL:List St) (uj ui uf:Option Addr) (uh uw ug:Nat) (ubx ulx:List Value) (w:World) (ht:Tab w)
  (uhe:ExAt (·<w.heap.size) w (Ex.mk uo ut uv un uk) (xL uo ut uv un uf uk.length ug)) (uhbs:SlAt (·<w.heap.size) w uj uB.length 9 ubx) (uhbt:StsAt (·<w.heap.size) w uB ubx) (uhls:SlAt (·<w.heap.size) w ui uL.length 9 ulx) (uhlt:StsAt (·<w.heap.size) w uL ulx)
  (hBd:pgB (onePg (alS (.mk 6 us (Ex.mk uo ut uv un uk) uB uL)))≤100000000) (hRR:pgR (onePg (alS (.mk 6 us (Ex.mk uo ut uv un uk) uB uL)))):
  CB 107 #[yV 6 us uo ut uv un uf uk.length ug uj uB.length uh ui uL.length uw] w (.bool (okD (onePg (alS (.mk 6 us (Ex.mk uo ut uv un uk) uB uL))))):=by
 refine eN [yV 6 us uo ut uv un uf uk.length ug uj uB.length uh ui uL.length uw] Tryz.func107 (fun γ0 hγ0=>?_)
 refine rs [18] 120 2 ?_
 refine good_giveC 17 (gz+1) 56 9 1 (yL 6 us uo ut uv un uf uk.length ug none 0 0 ui uL.length uw) (by kernel_rfl) (by kernel_rfl) rfl (fun k1 cap1 w1 B1 hk1 hB01 hB1 hs1=>?_)
 refine rs [20] 60 0 ?_
 refine good_giveC 19 (gz+2) 58 3 1 [nT [116],.slice none 0 0,.slice (some ⟨k1,0,none⟩) 1 cap1] (by kernel_rfl) (by kernel_rfl) rfl (fun k2 cap2 w2 B2 hk2 hB12 hB2 hs2=>?_)
 have hk02:Keep (·<w.heap.size) w w2:=hk1.trans (hk2.mono hB01)
 have hB02:∀ k,k<w.heap.size→B2 k:=fun k h=>hB12 k (hB01 k h)
 have hs1:=(hs1.keep hk2).mono hB12
 have hst:StAt B2 w2 (alS (.mk 6 us (Ex.mk uo ut uv un uk) uB uL)) (yL 6 us uo ut uv un uf uk.length ug none 0 0 ui uL.length uw):=by
  show StAt B2 w2 (.mk 6 us (Ex.mk uo ut uv un uk) [] uL) _
  exact ⟨_,none,0,[],ui,uw,ulx,rfl,uhe.keep hk02 hB02,sl_nil _ _ _ _,rfl,(uhls.keep hk02).mono hB02,StsAt_ls.2 ((StsAt_ls.1 uhlt).imp fun _ _ h=>h.keep hk02 hB02)⟩
 have hpg:=pg_one hst hs1 hs2 (cap2:=cap2)
 refine rk ?_
 refine gX [.agg #[.slice none 0 0,.slice none 0 0,.slice (some ⟨k2,0,none⟩) 1 cap2]] (.bool (okD (onePg (alS (.mk 6 us (Ex.mk uo ut uv un uk) uB uL))))) (fun W hk=>cprinted_any _ W (ht.below (hk02.trans (hk.mono hB02)).below) hBd hRR (hpg.keep hk fun k h=>Nat.lt_of_lt_of_le (hB2 k h) hk.size)) ?_
 refine rs [] 60 2 ?_
 exact gR (.bool (okD (onePg (alS (.mk 6 us (Ex.mk uo ut uv un uk) uB uL))))) (fun W hk=>⟨rfl,(hk02.trans (hk.mono hB02)).below⟩)
theorem calone_any0 (us:List UInt8) (uK:Int) (k5:¬ uK=5) (k6:¬ uK=6) (uo ut uv:Int) (un:List UInt8) (uk:List Ex) (uB uL:List St) (uj ui uf:Option Addr) (uh uw ug:Nat) (ubx ulx:List Value) (w:World) (ht:Tab w)
  (uhe:ExAt (·<w.heap.size) w (Ex.mk uo ut uv un uk) (xL uo ut uv un uf uk.length ug)) (uhbs:SlAt (·<w.heap.size) w uj uB.length 9 ubx) (uhbt:StsAt (·<w.heap.size) w uB ubx) (uhls:SlAt (·<w.heap.size) w ui uL.length 9 ulx) (uhlt:StsAt (·<w.heap.size) w uL ulx)
  (hBd:pgB (onePg (alS (.mk uK us (Ex.mk uo ut uv un uk) uB uL)))≤100000000) (hRR:pgR (onePg (alS (.mk uK us (Ex.mk uo ut uv un uk) uB uL)))):
  CB 107 #[yV uK us uo ut uv un uf uk.length ug uj uB.length uh ui uL.length uw] w (.bool (okD (onePg (alS (.mk uK us (Ex.mk uo ut uv un uk) uB uL))))):=by
 refine eN [yV uK us uo ut uv un uf uk.length ug uj uB.length uh ui uL.length uw] Tryz.func107 (fun γ0 hγ0=>?_)
 refine rs [6] 60 0 ?_
 refine gF 5 uK 5 k5 ?_
 refine rk ?_
 refine kw uK 6 k6 ?_
 refine rk ?_
 refine kw uK 5 k5 ?_
 refine rs [18] 60 0 ?_
 refine good_giveC 17 (gz+1) 56 9 1 (yL uK us uo ut uv un uf uk.length ug uj uB.length uh ui uL.length uw) (by kernel_rfl) (by kernel_rfl) rfl (fun k1 cap1 w1 B1 hk1 hB01 hB1 hs1=>?_)
 refine rs [20] 60 0 ?_
 refine good_giveC 19 (gz+2) 58 3 1 [nT [116],.slice none 0 0,.slice (some ⟨k1,0,none⟩) 1 cap1] (by kernel_rfl) (by kernel_rfl) rfl (fun k2 cap2 w2 B2 hk2 hB12 hB2 hs2=>?_)
 have hk02:Keep (·<w.heap.size) w w2:=hk1.trans (hk2.mono hB01)
 have hB02:∀ k,k<w.heap.size→B2 k:=fun k h=>hB12 k (hB01 k h)
 have hs1:=(hs1.keep hk2).mono hB12
 have hst:StAt B2 w2 (alS (.mk uK us (Ex.mk uo ut uv un uk) uB uL)) (yL uK us uo ut uv un uf uk.length ug uj uB.length uh ui uL.length uw):=by
  have e:alS (.mk uK us (Ex.mk uo ut uv un uk) uB uL) = .mk uK us (Ex.mk uo ut uv un uk) uB uL:=by simp only [alS];rw [if_neg (fun h=>h.elim k5 k6),if_neg k5]
  rw [e]
  exact ⟨_,uj,uh,ubx,ui,uw,ulx,rfl,uhe.keep hk02 hB02,(uhbs.keep hk02).mono hB02,StsAt_ls.2 ((StsAt_ls.1 uhbt).imp fun _ _ h=>h.keep hk02 hB02),(uhls.keep hk02).mono hB02,StsAt_ls.2 ((StsAt_ls.1 uhlt).imp fun _ _ h=>h.keep hk02 hB02)⟩
 have hpg:=pg_one hst hs1 hs2 (cap2:=cap2)
 refine rk ?_
 refine gX [.agg #[.slice none 0 0,.slice none 0 0,.slice (some ⟨k2,0,none⟩) 1 cap2]] (.bool (okD (onePg (alS (.mk uK us (Ex.mk uo ut uv un uk) uB uL))))) (fun W hk=>cprinted_any _ W (ht.below (hk02.trans (hk.mono hB02)).below) hBd hRR (hpg.keep hk fun k h=>Nat.lt_of_lt_of_le (hB2 k h) hk.size)) ?_
 refine rs [] 60 2 ?_
 exact gR (.bool (okD (onePg (alS (.mk uK us (Ex.mk uo ut uv un uk) uB uL))))) (fun W hk=>⟨rfl,(hk02.trans (hk.mono hB02)).below⟩)
end
section
set_option maxRecDepth 100000
open Go.Sy
theorem cfirst1_0 (fid:FuncId) (c1 c2:Nat) (ft:Int) (kf kt ko:Nat) (ti num deep:Int) (uK:Int) (us:List UInt8) (uo ut uv:Int) (un:List UInt8) (uk:List Ex) (uB uL:List St) (uj ui uf:Option Addr) (uh uw ug:Nat) (oc:Array Value) (w:World) (hbod:bodied Tryz.prog fid=some true)
  (hbf:SlAt (·<w.heap.size) w (some ⟨kf,0,none⟩) 1 1 [.func (.func fid) #[] #[]]) (hbt:SlAt (·<w.heap.size) w (some ⟨kt,0,none⟩) 1 1 [nI ti]) (hko:ko<w.heap.size) (hbo:w.heap[ko]?=some (.cells oc 80 (0,0))) (hsz:oc.size=3)
  (hcall:∀ W,Keep (·<w.heap.size) w W→CB fid #[yV uK us uo ut uv un uf uk.length ug uj uB.length uh ui uL.length uw,nI deep] W (nI ft)):
  Calls Tryz.prog 217 #[yV uK us uo ut uv un uf uk.length ug uj uB.length uh ui uL.length uw,nI num,nI deep,nP kf,nP kt,nP ko] w fun e w'=>
   (ft=0∧e = .returned (.bool true)∧Below w.heap.size w w')∨(ft≠0∧e = .returned (.bool false)∧Keep (fun k=>k<w.heap.size∧¬ k=ko) w w'∧w'.heap[ko]?=some (.cells [nI ft,nI ti,nI num].toArray 80 (0,0))):=by
 refine eN [yV uK us uo ut uv un uf uk.length ug uj uB.length uh ui uL.length uw,nI num,nI deep,nP kf,nP kt,nP ko] Tryz.func217 (fun γ0 hγ0=>?_)
 refine rk ?_
 refine gL 198 (.func (.func fid) #[] #[]) 0 0 hbf rfl ?_
 refine rs [14] 60 0 ?_
 refine good_callN (sy_cx _ _) [yV uK us uo ut uv un uf uk.length ug uj uB.length uh ui uL.length uw,nI deep] (fun v=>v=nI ft) (by kernel_rfl) hbod (fun W hk=>(hcall W hk).mono fun e w' h=>⟨_,h.1,rfl,h.2⟩) ?_
 rintro v w1 rfl hk1
 refine rk ?_
 by_cases hft:ft=0
 ·
  refine gK false (b:=!(intEq ft 0)) (by rw [eq_t hft];rfl) ?_
  refine rs [] 60 2 ?_
  exact gR (.bool true) (fun W hk => .inl ⟨hft,rfl,hk.below⟩)
 refine gK true (b:=!(intEq ft 0)) (by rw [eq_f hft];rfl) ?_
 refine rk ?_
 refine gL 3 (nI ti) 0 0 hbt rfl ?_
 refine rk ?_
 refine good_storeC 80 (nP ko) (.agg #[nI ft,nI ti,nI num]) (ay:=norm (.agg #[nI ft,nI ti,nI num])) (·=ko) (by kernel_rfl) (by kernel_rfl) (by kernel_rfl) (fun k hk=>hk ▸ hko) (fun W hk=>let ⟨w',h1,h2,h3⟩:=store_whole (P:=Tryz.prog) (n:=3) (by kernel_rfl) (b:=ko) ((hk.block ko hko).trans hbo) hsz [nI ft,nI ti,nI num] rfl rfl (by simp [Value.oneCell']);⟨w',h1,h2,h3⟩) ?_
 intro wa wb Bd hka hst hkk hkF hBd hBd'
 refine rs [] 60 2 ?_
 exact gR (.bool false) (fun W hk => .inr ⟨hft,rfl,(hkF.mono (fun k h=>⟨h.1,h.2⟩)).trans (hk.mono fun k h=>hBd k h.1),by rw [hk.block ko (hBd ko hko)];exact hst⟩)
theorem cfirst1_2 (fid:FuncId) (c1 c2:Nat) (ft:Int) (kf kt ko:Nat) (ti num deep:Int) (uK:Int) (us:List UInt8) (uo ut uv:Int) (un:List UInt8) (uk:List Ex) (uB uL:List St) (uj ui uf:Option Addr) (uh uw ug:Nat) (oc:Array Value) (w:World) (hbod:bodied Tryz.prog fid=some true)
  (hbf:SlAt (·<w.heap.size) w (some ⟨kf,0,none⟩) 1 1 [.func (.func fid) #[] #[nP c1,nP c2]]) (hbt:SlAt (·<w.heap.size) w (some ⟨kt,0,none⟩) 1 1 [nI ti]) (hko:ko<w.heap.size) (hbo:w.heap[ko]?=some (.cells oc 80 (0,0))) (hsz:oc.size=3)
  (hcall:∀ W,Keep (·<w.heap.size) w W→CB fid #[yV uK us uo ut uv un uf uk.length ug uj uB.length uh ui uL.length uw,nI deep,nP c1,nP c2] W (nI ft)):
  Calls Tryz.prog 217 #[yV uK us uo ut uv un uf uk.length ug uj uB.length uh ui uL.length uw,nI num,nI deep,nP kf,nP kt,nP ko] w fun e w'=>
   (ft=0∧e = .returned (.bool true)∧Below w.heap.size w w')∨(ft≠0∧e = .returned (.bool false)∧Keep (fun k=>k<w.heap.size∧¬ k=ko) w w'∧w'.heap[ko]?=some (.cells [nI ft,nI ti,nI num].toArray 80 (0,0))):=by
 refine eN [yV uK us uo ut uv un uf uk.length ug uj uB.length uh ui uL.length uw,nI num,nI deep,nP kf,nP kt,nP ko] Tryz.func217 (fun γ0 hγ0=>?_)
 refine rk ?_
 refine gL 198 (.func (.func fid) #[] #[nP c1,nP c2]) 0 0 hbf rfl ?_
 refine rs [14] 60 0 ?_
 refine good_callN (sy_cx _ _) [yV uK us uo ut uv un uf uk.length ug uj uB.length uh ui uL.length uw,nI deep,nP c1,nP c2] (fun v=>v=nI ft) (by kernel_rfl) hbod (fun W hk=>(hcall W hk).mono fun e w' h=>⟨_,h.1,rfl,h.2⟩) ?_
 rintro v w1 rfl hk1
 refine rk ?_
 by_cases hft:ft=0
 ·
  refine gK false (b:=!(intEq ft 0)) (by rw [eq_t hft];rfl) ?_
  refine rs [] 60 2 ?_
  exact gR (.bool true) (fun W hk => .inl ⟨hft,rfl,hk.below⟩)
 refine gK true (b:=!(intEq ft 0)) (by rw [eq_f hft];rfl) ?_
 refine rk ?_
 refine gL 3 (nI ti) 0 0 hbt rfl ?_
 refine rk ?_
 refine good_storeC 80 (nP ko) (.agg #[nI ft,nI ti,nI num]) (ay:=norm (.agg #[nI ft,nI ti,nI num])) (·=ko) (by kernel_rfl) (by kernel_rfl) (by kernel_rfl) (fun k hk=>hk ▸ hko) (fun W hk=>let ⟨w',h1,h2,h3⟩:=store_whole (P:=Tryz.prog) (n:=3) (by kernel_rfl) (b:=ko) ((hk.block ko hko).trans hbo) hsz [nI ft,nI ti,nI num] rfl rfl (by simp [Value.oneCell']);⟨w',h1,h2,h3⟩) ?_
 intro wa wb Bd hka hst hkk hkF hBd hBd'
 refine rs [] 60 2 ?_
 exact gR (.bool false) (fun W hk => .inr ⟨hft,rfl,(hkF.mono (fun k h=>⟨h.1,h.2⟩)).trans (hk.mono fun k h=>hBd k h.1),by rw [hk.block ko (hBd ko hko)];exact hst⟩)
end
section
def FstC (w:World) (FV:Value) (ti:Int) (ft:St→Nat→Int) (L:List (St×Nat)):Prop:=
 ∀ (kf kt ko:Nat) (F:Nat→Prop) (w0:World),Sy.Keep (·<w.heap.size) w w0→(∀ k,k<w.heap.size→F k)→Sy.SlAt F w0 (some ⟨kf,0,none⟩) 1 1 [FV]→Sy.SlAt F w0 (some ⟨kt,0,none⟩) 1 1 [.int .i64 ti]→DoC F w0 kf kt ko ti ft L
def FaC (w:World) (fid:FuncId) (cap:List Value) (ft:St→Nat→Int) (L:List (St×Nat)):Prop:=
 ∀ s d,(s,d)∈L→∀ (c:List Value) (W:World),Sy.Keep (·<w.heap.size) w W→StAt (·<W.heap.size) W s c→Calls Tryz.prog fid (#[.agg c.toArray,.int .i64 (d:Int)]++cap.toArray) W fun e w'=>e = .returned (.int .i64 (ft s d))∧Below W.heap.size W w'
theorem fstC_0 {w:World} {fid:FuncId} (hbod:Sy.bodied Tryz.prog fid=some true) (c1 c2:Nat) {ft:St→Nat→Int} {L:List (St×Nat)} (ti:Int) (h:FaC w fid [] ft L):FstC w (.func (.func fid) #[] #[]) ti ft L:=by
 intro kf kt ko F w0 hk hF hbf hbt s d hs num c W hst hkW hFW hsp
 obtain ⟨uK,us,⟨uo,ut,uv,un,uk⟩,uB,uL⟩:=s
 have hst0:=hst
 simp only [StAt] at hst
 obtain ⟨ucs,uj,uh,ubx,ui,uw,ulx,rfl,uhe,uhbs,uhbt,uhls,uhlt⟩:=hst
 simp only [ExAt] at uhe
 obtain ⟨uf,ug,uex,rfl,_⟩:=uhe
 obtain ⟨hko,oc,hoc,hsz⟩:=hsp
 refine (cfirst1_0 fid c1 c2 (ft (.mk uK us (.mk uo ut uv un uk) uB uL) d) kf kt ko ti (num:Int) (d:Int) uK us uo ut uv un uk uB uL uj ui uf uh uw ug oc W hbod ((hbf.keep hkW).mono hFW) ((hbt.keep hkW).mono hFW) hko hoc hsz (fun W' hk'=>?_)).mono fun e w' h=>h
 exact h _ _ hs _ W' (hk.trans ((hkW.mono hF).trans (hk'.mono fun k h=>hFW k (hF k h)))) (hst0.keep (hkW.trans (hk'.mono hFW)) fun k h=>Nat.lt_of_lt_of_le (hFW k h) hk'.size)
theorem fstC_2 {w:World} {fid:FuncId} (hbod:Sy.bodied Tryz.prog fid=some true) (c1 c2:Nat) {ft:St→Nat→Int} {L:List (St×Nat)} (ti:Int) (h:FaC w fid [.pointer (some ⟨c1,0,none⟩),.pointer (some ⟨c2,0,none⟩)] ft L):FstC w (.func (.func fid) #[] #[.pointer (some ⟨c1,0,none⟩),.pointer (some ⟨c2,0,none⟩)]) ti ft L:=by
 intro kf kt ko F w0 hk hF hbf hbt s d hs num c W hst hkW hFW hsp
 obtain ⟨uK,us,⟨uo,ut,uv,un,uk⟩,uB,uL⟩:=s
 have hst0:=hst
 simp only [StAt] at hst
 obtain ⟨ucs,uj,uh,ubx,ui,uw,ulx,rfl,uhe,uhbs,uhbt,uhls,uhlt⟩:=hst
 simp only [ExAt] at uhe
 obtain ⟨uf,ug,uex,rfl,_⟩:=uhe
 obtain ⟨hko,oc,hoc,hsz⟩:=hsp
 refine (cfirst1_2 fid c1 c2 (ft (.mk uK us (.mk uo ut uv un uk) uB uL) d) kf kt ko ti (num:Int) (d:Int) uK us uo ut uv un uk uB uL uj ui uf uh uw ug oc W hbod ((hbf.keep hkW).mono hFW) ((hbt.keep hkW).mono hFW) hko hoc hsz (fun W' hk'=>?_)).mono fun e w' h=>h
 exact h _ _ hs _ W' (hk.trans ((hkW.mono hF).trans (hk'.mono fun k h=>hFW k (hF k h)))) (hst0.keep (hkW.trans (hk'.mono hFW)) fun k h=>Nat.lt_of_lt_of_le (hFW k h) hk'.size)
open Go.Sy in
set_option maxRecDepth 100000 in
theorem cfirst_any (p:Pg) (ti:Nat) (th0:Th) (fid:FuncId) (cap:Array Value) (ft:St→Nat→Int) {pa pb pd:Option Addr} {vn qm qt qc qd qe:Nat} {zs:List Value} (w:World) (hbd:qt≤1000000000000) (hpnt:qt=p.threads.length) (hzs:SlAt (·<w.heap.size) w pd qt 3 zs) (hzt:LsAt (ThAt (·<w.heap.size) w) p.threads zs) (hth0:p.threads[ti]?=some th0) (hbm:swts th0.body≤1000000000000)
  (hft:FstC w (.func (.func fid) #[] cap) (ti:Int) ft (flatL 0 th0.body)):
  CB 165 #[.agg #[.slice pa vn qc,.slice pb qm qd,.slice pd qt qe],nI (ti:Int),.func (.func fid) #[] cap] w (spV (spotF ft (ti:Int) th0.body)):=by
 refine Sy.enter (hl:=fun γ=>LR.cons (norm_VR (.agg #[.slice pa vn qc,.slice pb qm qd,.slice pd qt qe])) (LR.cons (.v (nI (ti:Int))) (LR.cons (.v (.func (.func fid) #[] cap)) LR.nil))) sy_fine Tryz.func165 rfl rfl (fun γ0 hγ0=>?_)
 refine run_ok (sy_cx _ _) 500 [16] 60 0 ?_
 have hspl:p.threads.take ti++th0::p.threads.drop (ti+1)=p.threads:=by
  obtain ⟨h,rfl⟩:=List.getElem?_eq_some_iff.1 hth0
  rw [← List.drop_eq_getElem_cons h,List.take_append_drop]
 have hti:ti<qt:=by rw [hpnt];exact (List.getElem?_eq_some_iff.1 hth0).1
 rw [← hspl] at hzt
 obtain ⟨c,hc,hcell⟩:=hzt.at_ (fun _ _ h=>h.len)
 have hlen:(p.threads.take ti).length=ti:=by rw [List.length_take];omega
 rw [hlen] at hcell
 obtain ⟨la,lcap,lxs,lb,lcap2,lys,rfl,hls,hlt,hbs,hbt⟩:=hc
 refine gI 24 58 qe ti hzs hti ?_
 refine rs [16] 60 0 ?_
 refine gL 54 (.slice lb th0.body.length lcap2) ti 2 hzs (hcell 2 _ rfl) ?_
 refine rs [16] 60 0 ?_
 refine gG 5 (gz+2) 198 [.func (.func fid) #[] cap] (fun kf w1 B1 hk1 hB01 hBk1 hnB1 hB1 hnew1=>?_)
 refine gG 4 (gz+1) 3 [nI (ti:Int)] (fun kt w2 B2 hk2 hB12 hBk2 hnB2 hB2 hnew2=>?_)
 refine gG 7 (gz+5) 80 [nI 0,nI (-1),nI (-1)] (fun ko w3 B3 hk3 hB23 hBk3 hnB3 hB3 hnew3=>?_)
 refine gG 8 (gz+6) 3 [nI 0] (fun kn w4 B4 hk4 hB34 hBk4 hnB4 hB4 hnew4=>?_)
 have hk02:Keep (·<w.heap.size) w w2:=hk1.trans (hk2.mono hB01)
 have hB02:∀ k,k<w.heap.size→B2 k:=fun k h=>hB12 k (hB01 k h)
 have hk24:Keep B2 w2 w4:=hk3.trans (hk4.mono hB23)
 have hB24:∀ k,B2 k→B4 k:=fun k h=>hB34 k (hB23 k h)
 have hbf:=(((box_sl hnew1 hBk1 rfl).keep hk2).mono hB12)
 have hbt2:=box_sl hnew2 hBk2 rfl
 have hno:¬ ko=kn:=fun e=>hnB4 (e ▸ hBk3)
 have hnn:¬ B2 kn:=fun h=>hnB4 (hB23 kn h)
 have hdo:DoC B2 w2 kf kt ko (ti:Int) ft (flatL 0 th0.body):=hft kf kt ko B2 w2 hk02 hB02 hbf hbt2
 have hnum:=cnumbered_any B2 w2 kf kt kn ko (ti:Int) ft hnn hno
 refine rs [17] 60 0 ?_
 refine good_callWN (cx:=sy_cx _ _) [.slice lb th0.body.length lcap2,nI ((0:Nat):Int),nP kn,.func (.func 217) #[] #[nP kf,nP kt,nP ko]] (fun k=>k=kn∨k=ko) (Pr:=fun V r w'=>(firstIx ft (flatL 0 th0.body) 0=none∧Keep (fun k=>k<V.heap.size∧¬ k=kn) V w')∨
    (∃ er j,firstIx ft (flatL 0 th0.body) 0=some (er,j)∧w'.heap[ko]?=some (.cells [nI er,nI (ti:Int),nI (j:Int)].toArray 80 (0,0)))) (by kernel_rfl) (by kernel_rfl) (by kernel_rfl) (fun k hk=>hk.elim (fun h=>h ▸ hBk4) (fun h=>h ▸ hB34 ko hBk3))
  (fun V hk=>(hnum _ th0.body lb th0.body.length lcap2 lys 0 0 V rfl (Nat.lt_succ_self _) (by omega) (by omega) ((hbs.keep hk02).mono hB02) (hbt.keep hk02 hB02) hdo (hk24.trans (hk.mono hB24)) (fun k h=>Nat.lt_of_lt_of_le (hB4 k (hB24 k h)) hk.size) (Nat.lt_of_lt_of_le (hB4 kn hBk4) hk.size) ((hk.block kn hBk4).trans hnew4) ⟨Nat.lt_of_lt_of_le (hB4 ko (hB34 ko hBk3)) hk.size,_,(hk.block ko (hB34 ko hBk3)).trans ((hk4.block ko hBk3).trans hnew3),rfl⟩).mono fun e w' h=>by
   rcases h with ⟨h1,rfl,h2,h3⟩ | ⟨er,j,h1,rfl,h2,h3⟩
   · exact ⟨_,rfl,.inl ⟨h1,h3⟩,h3.mono fun k h=>⟨h.1,fun e=>h.2 (.inl e)⟩⟩
   · exact ⟨_,rfl,.inr ⟨er,j,h1,h2⟩,h3⟩) ?_
 intro V r U Be hkV hdr hkk hkF hBe hBen hBe'
 have hres:∃ oc:List Value,U.heap[ko]?=some (.cells oc.toArray 80 (0,0))∧oc=[nI (spotF ft (ti:Int) th0.body).1,nI (spotF ft (ti:Int) th0.body).2.1,nI (spotF ft (ti:Int) th0.body).2.2]:=by
  unfold spotF
  rcases hdr with ⟨h1,h2⟩ | ⟨er,j,h1,h2⟩
  · rw [h1]
    exact ⟨_,by rw [h2.block ko ⟨Nat.lt_of_lt_of_le (hB4 ko (hB34 ko hBk3)) hkV.size,hno⟩,hkV.block ko (hB34 ko hBk3),hk4.block ko hBk3];exact hnew3,rfl⟩
  · rw [h1]
    exact ⟨_,h2,rfl⟩
 obtain ⟨oc,hoc,hoce⟩:=hres
 obtain ⟨sp,hsp⟩:∃ sp,sp=spotF ft (ti:Int) th0.body:=⟨_,rfl⟩
 rw [← hsp] at hoce ⊢
 subst hoce
 have hbo:=box_sl hoc (F:=Be) (hBe ko (hB34 ko hBk3)) rfl
 clear hdr
 refine rk ?_
 refine gV (.agg #[nI sp.1,nI sp.2.1,nI sp.2.2]) (S:=Instr.loadAt 80 (nP ko)) (fun V hk=>ld_box hbo (by kernel_rfl) (by kernel_rfl) hk) ?_
 refine rk ?_
 exact gR (spV sp) (fun V2 hk=>⟨rfl,(hk02.trans ((hk24.mono hB02).trans ((hkF.mono fun k h=>⟨hB24 k (hB02 k h),fun e=>e.elim (fun e=>hnn (e ▸ hB02 k h)) (fun e=>hnB3 (e ▸ hB02 k h))⟩).trans (hk.mono fun k h=>hBe k (hB24 k (hB02 k h)))))).below⟩)
end
section
set_option maxRecDepth 100000
open Go.Sy
theorem ceach1_any (fid:FuncId) (c1 c2:Nat) (r i:Int) (kf kt:Nat) (deep:Int) (uK:Int) (us:List UInt8) (uo ut uv:Int) (un:List UInt8) (uk:List Ex) (uB uL:List St) (uj ui uf:Option Addr) (uh uw ug:Nat) (w:World) (hbod:bodied Tryz.prog fid=some true)
  (hbf:SlAt (·<w.heap.size) w (some ⟨kf,0,none⟩) 1 1 [.func (.func fid) #[] #[nP c1,nP c2]]) (hbt:SlAt (·<w.heap.size) w (some ⟨kt,0,none⟩) 1 1 [nI i])
  (hcall:∀ W,Keep (·<w.heap.size) w W→CB fid #[nI i,yV uK us uo ut uv un uf uk.length ug uj uB.length uh ui uL.length uw,nI (deep:Int),nP c1,nP c2] W (nI r)):
  CB 175 #[yV uK us uo ut uv un uf uk.length ug uj uB.length uh ui uL.length uw,nI (deep:Int),nP kf,nP kt] w (nI r):=by
 refine eN [yV uK us uo ut uv un uf uk.length ug uj uB.length uh ui uL.length uw,nI (deep:Int),nP kf,nP kt] Tryz.func175 (fun γ0 hγ0=>?_)
 refine rk ?_
 refine gL 151 (.func (.func fid) #[] #[nP c1,nP c2]) 0 0 hbf rfl ?_
 refine rk ?_
 refine gL 3 (nI i) 0 0 hbt rfl ?_
 refine rs [11] 60 0 ?_
 refine good_callN (sy_cx _ _) [nI i,yV uK us uo ut uv un uf uk.length ug uj uB.length uh ui uL.length uw,nI (deep:Int),nP c1,nP c2] (fun v=>v=nI r) (by kernel_rfl) hbod (fun W hk=>(hcall W hk).mono fun e w' h=>⟨_,h.1,rfl,h.2⟩) ?_
 rintro v w1 rfl hk1
 refine rs [] 60 2 ?_
 exact gR (nI r) (fun W hk=>⟨rfl,hk.below⟩)
def EaC (w:World) (fid:FuncId) (c1 c2:Nat) (ft:Nat→St→Nat→Int) (p:Pg):Prop:=
 ∀ (i:Nat) (t:Th),p.threads[i]?=some t→∀ s d,(s,d)∈flatL 0 t.body→∀ (c:List Value) (W:World),Sy.Keep (·<w.heap.size) w W→StAt (·<W.heap.size) W s c→CB fid #[.int .i64 (i:Int),.agg c.toArray,.int .i64 (d:Int),.pointer (some ⟨c1,0,none⟩),.pointer (some ⟨c2,0,none⟩)] W (.int .i64 (ft i s d))
theorem eac_fac {w w0:World} {fid:FuncId} {c1 c2 kf kt:Nat} {ft:Nat→St→Nat→Int} {p:Pg} {i:Nat} {t:Th} (hbod:Sy.bodied Tryz.prog fid=some true) (h:EaC w fid c1 c2 ft p) (hi:p.threads[i]?=some t) (hk:Sy.Keep (·<w.heap.size) w w0)
  (hbf:Sy.SlAt (·<w0.heap.size) w0 (some ⟨kf,0,none⟩) 1 1 [.func (.func fid) #[] #[.pointer (some ⟨c1,0,none⟩),.pointer (some ⟨c2,0,none⟩)]]) (hbt:Sy.SlAt (·<w0.heap.size) w0 (some ⟨kt,0,none⟩) 1 1 [.int .i64 (i:Int)]):FaC w0 175 [.pointer (some ⟨kf,0,none⟩),.pointer (some ⟨kt,0,none⟩)] (ft i) (flatL 0 t.body):=by
 intro s d hs c W hkW hst
 obtain ⟨uK,us,⟨uo,ut,uv,un,uk⟩,uB,uL⟩:=s
 have hst0:=hst
 simp only [StAt] at hst
 obtain ⟨ucs,uj,uh,ubx,ui,uw,ulx,rfl,uhe,uhbs,uhbt,uhls,uhlt⟩:=hst
 simp only [ExAt] at uhe
 obtain ⟨uf,ug,uex,rfl,_⟩:=uhe
 have hF1:∀ k,k<w0.heap.size→k<W.heap.size:=fun k h=>Nat.lt_of_lt_of_le h hkW.size
 refine ceach1_any fid c1 c2 (ft i (.mk uK us (.mk uo ut uv un uk) uB uL) d) (i:Int) kf kt (d:Int) uK us uo ut uv un uk uB uL uj ui uf uh uw ug W hbod ((hbf.keep hkW).mono hF1) ((hbt.keep hkW).mono hF1) (fun W' hk'=>?_)
 exact h i t hi _ _ hs _ W' (hk.trans ((hkW.mono (kU hk)).trans (hk'.mono fun k h=>hF1 k (Nat.lt_of_lt_of_le h hk.size)))) (hst0.keep hk' fun k h=>Nat.lt_of_lt_of_le h hk'.size)
structure EaI (w:World) (kf:Nat) (FV:Value) (B:Nat→Prop) (w1:World):Prop where
 keep:Sy.Keep (·<w.heap.size) w w1
 old:∀ k,k<w.heap.size→B k
 lt:∀ k,B k→k<w1.heap.size
 box:Sy.SlAt B w1 (some ⟨kf,0,none⟩) 1 1 [FV]
theorem swts_body {p:List Th} {l1 l3:List Th} {t:Th} (h:p=l1++t::l3):swts t.body≤thws p:=by
 rw [h,thws_app]
 simp only [thws,thw]
 omega
theorem ceach_any (p:Pg) (fid:FuncId) (c1 c2:Nat) (ft:Nat→St→Nat→Int) {pa pb pd:Option Addr} {vn qm qt qc qd qe:Nat} {zs:List Value} (w:World) (hbd:qt≤1000000000000) (hpnt:qt=p.threads.length) (hzs:SlAt (·<w.heap.size) w pd qt 3 zs) (hzt:LsAt (ThAt (·<w.heap.size) w) p.threads zs) (hbw:thws p.threads≤1000000000000) (hbod:bodied Tryz.prog fid=some true) (hft:EaC w fid c1 c2 ft p):
  CB 102 #[.agg #[.slice pa vn qc,.slice pb qm qd,.slice pd qt qe],.func (.func fid) #[] #[nP c1,nP c2]] w (spV (thrF (fun i t=>spotF (ft i) (i:Int) t.body) 0 p.threads)):=by
 obtain ⟨ftt,hftt⟩:∃ g:Nat→Th→Spt,g=fun i t=>spotF (ft i) (i:Int) t.body:=⟨_,rfl⟩
 rw [← hftt]
 refine Sy.enter (hl:=fun γ=>LR.cons (norm_VR (.agg #[.slice pa vn qc,.slice pb qm qd,.slice pd qt qe])) (LR.cons (.v (.func (.func fid) #[] #[nP c1,nP c2])) LR.nil)) sy_fine Tryz.func102 rfl rfl (fun γ0 hγ0=>?_)
 refine rs [8] 60 0 ?_
 refine gG 3 (gz+1) 151 [.func (.func fid) #[] #[nP c1,nP c2]] (fun kf w1 B1 hk1 hB01 hBk1 hnB1 hB1 hnew1=>?_)
 refine rk ?_
 refine good_toLp ?_
 have hI0:EaI w kf (.func (.func fid) #[] #[nP c1,nP c2]) B1 w1:=⟨hk1,hB01,hB1,box_sl hnew1 hBk1 rfl⟩
 refine good_loopB (fun i:List Th×List Th=>i.2.length) (fun i B w1=>p.threads=i.1++i.2∧thrF ftt 0 p.threads=thrF ftt i.1.length i.2∧EaI w kf (.func (.func fid) #[] #[nP c1,nP c2]) B w1) (fun i=>⟨mkT [(2,.ptr gz 0),(3,vP kf),(4,.ptr (gz+2) 0),(8,vL pd qt qe),(9,vI (qt:Int)),(10,vI (i.1.length:Int))],mkH [(gz,bK 26 3 [vL pa vn qc,vL pb qm qd,vL pd qt qe]),(gz+2,bK 80 3 [vI 0,vI 0,vI 0])],gz+3,[]⟩) ([],p.threads) ⟨rfl,rfl,hI0⟩ (by kernel_rfl)
  (fun h=>gU _ [(2,.ptr gz 0),(3,vP kf),(4,.ptr (gz+2) 0),(8,vL pd qt qe),(9,vI (qt:Int)),(10,vI (([]:List Th).length:Int))] [(gz,bK 26 3 [vL pa vn qc,vL pb qm qd,vL pd qt qe]),(gz+2,bK 80 3 [vI 0,vI 0,vI 0])] (gz+3) (gA hγ0) h) ?_
 clear hI0
 rintro ⟨l1,l2⟩ Bc wc ⟨hsp,hth,hN0⟩ ih
 have hsp:p.threads=l1++l2:=hsp
 have hth:thrF ftt 0 p.threads=thrF ftt l1.length l2:=hth
 have hN:EaI w kf (.func (.func fid) #[] #[nP c1,nP c2]) Bc wc:=hN0
 clear hN0
 have hn2:qt=l1.length+l2.length:=by rw [hpnt,hsp,List.length_append]
 refine rk ?_
 cases l2 with
 | nil=>
   have hn3:qt=l1.length:=by rw [hn2];simp
   refine ky (l1.length:Int) (qt:Int) (by omega) ?_
   refine run_ok (sy_cx _ _) 500 [] 60 2 ?_
   exact gR (.agg #[nI 0,nI (-1),nI (-1)]) (fun V hk=>⟨by rw [hth];rfl,(hN.keep.trans (hk.mono hN.old)).below⟩)
 | cons th0 l3=>
   have hin:l1.length<qt:=by rw [hn2,List.length_cons];omega
   have hget:p.threads[l1.length]?=some th0:=by rw [hsp];simp
   refine kx (l1.length:Int) (qt:Int) (by omega) ?_
   refine rs [15] 60 0 ?_
   refine gG 5 (gz+3) 3 [nI (l1.length:Int)] (fun kt w2 B2 hk2 hB12 hBk2 hnB2 hB2 hnew2=>?_)
   have hN2:EaI w kf (.func (.func fid) #[] #[nP c1,nP c2]) B2 w2:=⟨hN.keep.trans (hk2.mono hN.old),fun k h=>hB12 k (hN.old k h),hB2,(hN.box.keep hk2).mono hB12⟩
   have hbt:=box_sl hnew2 hBk2 rfl
   obtain ⟨sp,hsp2⟩:∃ sp,sp=ftt l1.length th0:=⟨_,rfl⟩
   have hsp3:sp=spotF (ft l1.length) (l1.length:Int) th0.body:=by rw [hsp2,hftt]
   refine rs [16] 60 0 ?_
   refine gN [.agg #[.slice pa vn qc,.slice pb qm qd,.slice pd qt qe],nI (l1.length:Int),.func (.func 175) #[] #[nP kf,nP kt]] (fun v=>v=spV sp) (fun V hk=>(cfirst_any p l1.length th0 175 #[nP kf,nP kt] (ft l1.length) V hbd hpnt ((hzs.keep (hN2.keep.trans (hk.mono hN2.old))).mono fun k h=>Nat.lt_of_lt_of_le (hN2.lt k (hN2.old k h)) hk.size) (hzt.imp fun _ _ h=>h.keep (hN2.keep.trans (hk.mono hN2.old)) fun k h=>Nat.lt_of_lt_of_le (hN2.lt k (hN2.old k h)) hk.size) hget (Nat.le_trans (swts_body hsp) hbw)
    (fstC_2 (by kernel_rfl) kf kt (l1.length:Int) (eac_fac hbod hft hget (hN2.keep.trans (hk.mono hN2.old)) ((hN2.box.keep hk).mono fun k h=>Nat.lt_of_lt_of_le (hN2.lt k h) hk.size) ((hbt.keep hk).mono fun k h=>Nat.lt_of_lt_of_le (hN2.lt k h) hk.size)))).mono fun e w' h=>⟨_,h.1,by rw [hsp3],h.2⟩) ?_
   rintro v w3 rfl hk3
   refine rk ?_
   by_cases hs0:sp.1=0
   rotate_left
   ·
    refine gK true (b:=!(intEq sp.1 0)) (by rw [eq_f hs0];rfl) ?_
    refine rs [] 60 2 ?_
    exact gR (spV sp) (fun V hk=>⟨by rw [hth];simp only [thrF];rw [← hsp2,if_neg hs0],(hN2.keep.trans (hk.mono hN2.old)).below⟩)
   refine gK false (b:=!(intEq sp.1 0)) (by rw [eq_t hs0];rfl) ?_
   refine rs [] 60 2 ?_
   refine gJ 10 l1 th0 (by omega) ?_
   exact gU _ [(2,.ptr gz 0),(3,vP kf),(4,.ptr (gz+2) 0),(8,vL pd qt qe),(9,vI (qt:Int)),(10,vI ((l1++[th0]).length:Int))] [(gz,bK 26 3 [vL pa vn qc,vL pb qm qd,vL pd qt qe]),(gz+2,bK 80 3 [vI 0,vI 0,vI 0])] (gz+3) (gA hγ0) (ih (l1++[th0],l3) B2 w2 ⟨by show p.threads=(l1++[_])++l3;rw [hsp];simp,by show thrF ftt 0 p.threads=thrF ftt (l1++[th0]).length l3;rw [hth];simp only [thrF,List.length_append,List.length_cons,List.length_nil];rw [← hsp2,if_pos hs0],hN2⟩ lS1)
end
section
def St.ex:St→Ex
 | .mk _ _ e _ _=>e
def lgF (s:St) (d:Nat):Int:=if 8192<wgt s.ex then 3 else 0
def lgT (i:Nat) (t:Th):Spt:=if 16<t.locals.length∨1024<sizs t.body then (3,(i:Int),-1) else spotF lgF i t.body
def longD (p:Pg):Spt:=if p.threads.length<1∨16<p.threads.length∨32<p.shared.length∨16<p.mutexes.length then (3,-1,-1) else thrF lgT 0 p.threads
noncomputable def odF (s:St) (d:Nat):Int:=if 32<d∨okD (onePg (alS s))=false then 2 else 0
noncomputable def odT (i:Nat) (t:Th):Spt:=if okD ⟨[],[],[⟨t.name,t.locals,[]⟩]⟩=false then (2,(i:Int),-1) else spotF odF i t.body
noncomputable def oddD (p:Pg):Spt:=if (p.shared.any fun v=>!(okD ⟨[v],[],[]⟩))=true then (2,-1,-1) else if (p.mutexes.any fun m=>!(okD ⟨[],[m],[]⟩))=true then (2,-1,-1) else thrF odT 0 p.threads
def twV:Thg→List Vr→Option Thg
 | th,[]=>some th
 | th,v::l=>if (thOf th v.name).1=0 then twV (upT th v.name (1,v.ty)) l else none
def twM:Thg→List (List UInt8)→Option Thg
 | th,[]=>some th
 | th,m::l=>if (thOf th m).1=0 then twM (upT th m (3,0)) l else none
def lcB (th:Thg):List (List UInt8)→List Vr→Bool
 | own,[]=>false
 | own,v::l=>if v.name∈own∨(thOf th v.name).1=1∨(thOf th v.name).1=3 then true else lcB th (v.name::own) l
def twT:Nat→Thg→List Th→Spt
 | _,_,[]=>fineS
 | i,th,t::l=>if (thOf th t.name).1≠0∨lcB th [] t.locals=true then (7,(i:Int),-1) else twT (i+1) (upT th t.name (4,0)) l
def twiceD (p:Pg):Spt:=match twV (fun _=>none) p.shared with
 | none=>(7,-1,-1)
 | some t1=>match twM t1 p.mutexes with
   | none=>(7,-1,-1)
   | some t2=>twT 0 t2 p.threads
def lkF (look:Thg→Int→List UInt8→Ex→Int) (th:Thg) (s:St) (d:Nat):Int:=match s with
 | .mk k n e _ _=>look th k n e
def lkD (look:Thg→Int→List UInt8→Ex→Int) (p:Pg):Spt:=thrF (fun i t=>spotF (lkF look (thN p t)) i t.body) 0 p.threads
def orS (a b:Spt):Spt:=if a.1=0 then b else a
noncomputable def checkD (p:Pg):Spt:=orS (longD p) (orS (oddD p) (orS (twiceD p) (orS (lkD msT p) (orS (lkD tyS p) (orS (lkD atS p) fineS)))))
section
variable (φ:List UInt8→List UInt8)
mutual
def rnE:Ex→Ex
 | .mk op ty bits name kids => .mk op ty bits (φ name) (rnEs kids)
def rnEs:List Ex→List Ex
 | []=>[]
 | e::l=>rnE e::rnEs l
end
mutual
def rnS:St→St
 | .mk k n e b l => .mk k (φ n) (rnE φ e) (rnSs b) (rnSs l)
def rnSs:List St→List St
 | []=>[]
 | s::l=>rnS s::rnSs l
end
def rnV (v:Vr):Vr:=⟨φ v.name,v.ty,v.bits⟩
def rnT (t:Th):Th:=⟨φ t.name,t.locals.map (rnV φ),rnSs φ t.body⟩
def rnP (p:Pg):Pg:=⟨p.shared.map (rnV φ),p.mutexes.map φ,p.threads.map (rnT φ)⟩
theorem rnEs_map:∀ l:List Ex,rnEs φ l=l.map (rnE φ)
 | []=>rfl
 | e::l=>by simp only [rnEs,List.map_cons];rw [rnEs_map l]
theorem rnSs_map:∀ l:List St,rnSs φ l=l.map (rnS φ)
 | []=>rfl
 | e::l=>by simp only [rnSs,List.map_cons];rw [rnSs_map l]
mutual
theorem rnE_wgt:∀ e:Ex,wgt (rnE φ e)=wgt e
 | .mk op ty bits name kids=>by simp only [rnE,wgt];rw [rnEs_wgt kids]
theorem rnEs_wgt:∀ l:List Ex,wgts (rnEs φ l)=wgts l
 | []=>rfl
 | e::l=>by simp only [rnEs,wgts];rw [rnE_wgt e,rnEs_wgt l]
end
mutual
theorem rnE_hgt:∀ e:Ex,hgt (rnE φ e)=hgt e
 | .mk op ty bits name kids=>by simp only [rnE,hgt];rw [rnEs_hgt kids]
theorem rnEs_hgt:∀ l:List Ex,hgts (rnEs φ l)=hgts l
 | []=>rfl
 | e::l=>by simp only [rnEs,hgts];rw [rnE_hgt e,rnEs_hgt l]
end
mutual
theorem rnS_siz:∀ s:St,siz (rnS φ s)=siz s
 | .mk k n e b l=>by simp only [rnS,siz];rw [rnSs_siz b,rnSs_siz l]
theorem rnSs_siz:∀ l:List St,sizs (rnSs φ l)=sizs l
 | []=>rfl
 | e::l=>by simp only [rnSs,sizs];rw [rnS_siz e,rnSs_siz l]
end
mutual
theorem rnS_flat (d:Nat):∀ s:St,flatS d (rnS φ s)=(flatS d s).map fun p=>(rnS φ p.1,p.2)
 | .mk k n e b l=>by simp only [rnS,flatS,List.map_cons,List.map_append];rw [rnSs_flat (d+1) b,rnSs_flat (d+1) l]
theorem rnSs_flat (d:Nat):∀ l:List St,flatL d (rnSs φ l)=(flatL d l).map fun p=>(rnS φ p.1,p.2)
 | []=>rfl
 | e::l=>by simp only [rnSs,flatL,List.map_append];rw [rnS_flat d e,rnSs_flat d l]
end
end
theorem firstIx_map {φ:List UInt8→List UInt8} {f g:St→Nat→Int}:∀ (l:List (St×Nat)) (m:Nat),(∀ s d,(s,d)∈l→f (rnS φ s) d=g s d)→firstIx f (l.map fun p=>(rnS φ p.1,p.2)) m=firstIx g l m
 | [],m,_=>rfl
 | (s,d)::l,m,h=>by
   simp only [List.map_cons,firstIx]
   rw [h s d (by simp),firstIx_map l (m+1) (fun s d hs=>h s d (List.mem_cons_of_mem _ hs))]
theorem spotF_map {φ:List UInt8→List UInt8} {f g:St→Nat→Int} (i:Int) (l:List St) (h:∀ s d,(s,d)∈flatL 0 l→f (rnS φ s) d=g s d):spotF f i (rnSs φ l)=spotF g i l:=by
 unfold spotF
 rw [rnSs_flat,firstIx_map _ _ h]
theorem thrF_map {φ:List UInt8→List UInt8} {f g:Nat→Th→Spt}:∀ (l:List Th) (i:Nat),(∀ i t,t∈l→f i (rnT φ t)=g i t)→thrF f i (l.map (rnT φ))=thrF g i l
 | [],i,_=>rfl
 | t::l,i,h=>by
   simp only [List.map_cons,thrF]
   rw [h i t (by simp),thrF_map l (i+1) (fun i t ht=>h i t (List.mem_cons_of_mem _ ht))]
structure NmOk (φ:List UInt8→List UInt8):Prop where
 name:∀ s,nameB (φ s)=nameB s
 nil:∀ s,φ s=[]↔s=[]
section
variable {φ:List UInt8→List UInt8}
mutual
theorem rnE_exT (hφ:NmOk φ):∀ e:Ex,(exT (rnE φ e)).isSome=(exT e).isSome
 | .mk op ty bits name kids=>by
   have hk:=rnEs_exT hφ kids
   have hn:=hφ.nil name
   have hb:=hφ.name name
   simp only [rnE,exT]
   have e1:(φ name≠[])↔(name≠[]):=not_congr hn
   simp only [e1]
   by_cases h0:(op≠1∧¬ (ty=0∧bits=0))∨(op≠2∧name≠[])
   · rw [if_pos h0,if_pos h0]
   rw [if_neg h0,if_neg h0]
   cases h1:exTs kids with
   | none=>
     cases h2:exTs (rnEs φ kids) with
     | none=>rfl
     | some ks=>rw [h1,h2] at hk;exact hk.elim
   | some k1=>
     cases h2:exTs (rnEs φ kids) with
     | none=>rw [h1,h2] at hk;exact hk.elim
     | some k2=>
       rw [h1,h2] at hk
       have hk:k2.length=k1.length:=hk
       simp only
       match k1,k2,hk with
       | [],[],_=>
         simp only
         split
         · rfl
         split
         · rw [hb];cases nameB name <;> rfl
         repeat' split
         all_goals rfl
       | [a],[b],_=>
         simp only
         repeat' split
         all_goals rfl
       | [a,a'],[b,b'],_=>
         simp only
         repeat' split
         all_goals rfl
       | a::a'::a''::l,b::b'::b''::l',_=>
         simp only
         repeat' split
         all_goals rfl
theorem rnEs_exT (hφ:NmOk φ):∀ l:List Ex,match exTs (rnEs φ l),exTs l with
  | some a,some b=>a.length=b.length
  | none,none=>True
  | _,_=>False
 | []=>by simp [rnEs,exTs]
 | e::l=>by
   have h1:=rnE_exT hφ e
   have h2:=rnEs_exT hφ l
   simp only [rnEs,exTs]
   revert h1 h2
   cases exT (rnE φ e) <;> cases exT e <;> cases exTs (rnEs φ l) <;> cases exTs l <;> simp
end
theorem rnE_ex32 (hφ:NmOk φ) (e:Ex):(ex32 (rnE φ e)).isSome=(ex32 e).isSome:=by
 unfold ex32
 rw [rnE_hgt]
 split
 · exact rnE_exT hφ e
 · rfl
theorem rnE_none (hφ:NmOk φ) (e:Ex):exNone (rnE φ e)=exNone e:=by
 cases e with
 | mk op ty bits name kids=>
   simp only [rnE,exNone,rnEs_map,List.length_map,hφ.nil name]
theorem rnSs_len (l:List St):(rnSs φ l).length=l.length:=by rw [rnSs_map,List.length_map]
mutual
theorem rnS_okS (hφ:NmOk φ):∀ (s:St) (d:Nat),okS d (rnS φ s)=okS d s
 | .mk k n e b l,d=>by
   have h1:=rnSs_okB hφ b (d+1)
   have h2:=rnSs_okB hφ l (d+1)
   by_cases hk:1≤k∧k≤7
   · simp only [rnS]
     have hb:Sy.bEqL (φ n) []=Sy.bEqL n []:=by
      rw [Bool.eq_iff_iff,bEq_nil,bEq_nil]
      exact hφ.nil n
     rw [okS_mk _ _ _ _ _ _ hk,okS_mk _ _ _ _ _ _ hk,h1,h2,hφ.name,hb,rnSs_len,rnSs_len,rnE_none hφ,← ex32_some,← ex32_some,rnE_ex32 hφ]
   · simp only [rnS]
     unfold okS
     simp only [stT]
     rw [if_neg (by omega),if_neg (by omega),if_neg (by omega),if_neg (by omega),if_neg (by omega),if_neg (by omega),if_neg (by omega),if_neg (by omega),if_neg (by omega),if_neg (by omega),if_neg (by omega),if_neg (by omega)]
theorem rnSs_okB (hφ:NmOk φ):∀ (l:List St) (d:Nat),okB d (rnSs φ l)=okB d l
 | [],d=>rfl
 | s::l,d=>by
   have h1:=rnS_okS hφ s d
   have h2:=rnSs_okB hφ l d
   simp only [rnSs]
   unfold okB okS at *
   simp only [stsT]
   split
   · rfl
   · revert h1 h2
     cases stT d (rnS φ s) <;> cases stT d s <;> cases stsT d (rnSs φ l) <;> cases stsT d l <;> simp
end
theorem rnV_okV (hφ:NmOk φ) (v:Vr):okV (rnV φ v)=okV v:=by unfold okV rnV;rw [hφ.name]
theorem any_map_eq {α β:Type} {f:α→β} {q:β→Bool} {r:α→Bool} (h:∀ x,q (f x)=r x) (l:List α):(l.map f).any q=l.any r:=by
 induction l with
 | nil=>rfl
 | cons x l ih=>simp only [List.map_cons,List.any_cons,h,ih]
theorem rnT_okT (hφ:NmOk φ) (t:Th):okT (rnT φ t)=okT t:=by
 unfold okT rnT
 simp only
 rw [hφ.name,any_map_eq (r:=fun v=>!(okV v)) (fun v=>by rw [rnV_okV hφ]),rnSs_okB hφ]
theorem rnP_okP (hφ:NmOk φ) (p:Pg):okP (rnP φ p)=okP p:=by
 unfold okP rnP
 simp only
 rw [any_map_eq (r:=fun v=>!(okV v)) (fun v=>by rw [rnV_okV hφ]),any_map_eq (r:=fun s=>!(nameB s)) (fun v=>by rw [hφ.name]),any_map_eq (r:=fun x=>!(okT x)) (fun v=>by rw [rnT_okT hφ])]
mutual
theorem rnE_R:∀ e:Ex,exR e→exR (rnE φ e)
 | .mk op ty bits name kids,h=>by
   simp only [exR,rnE] at h ⊢
   exact ⟨h.1,h.2.1,h.2.2.1,rnEs_R kids h.2.2.2⟩
theorem rnEs_R:∀ l:List Ex,exRs l→exRs (rnEs φ l)
 | [],h=>h
 | e::l,h=>by
   simp only [exRs,rnEs] at h ⊢
   exact ⟨rnE_R e h.1,rnEs_R l h.2⟩
end
mutual
theorem rnS_R:∀ e:St,stR e→stR (rnS φ e)
 | .mk k n e b l,h=>by
   simp only [stR,rnS] at h ⊢
   exact ⟨h.1,rnE_R e h.2.1,rnSs_R b h.2.2.1,rnSs_R l h.2.2.2⟩
theorem rnSs_R:∀ l:List St,stRs l→stRs (rnSs φ l)
 | [],h=>h
 | e::l,h=>by
   simp only [stRs,rnSs] at h ⊢
   exact ⟨rnS_R e h.1,rnSs_R l h.2⟩
end
theorem rnT_R {t:Th} (h:thR t):thR (rnT φ t):=by
 refine ⟨fun v hv=>?_,rnSs_R _ h.2⟩
 obtain ⟨x,hx,rfl⟩:=List.mem_map.1 hv
 exact h.1 x hx
theorem rnP_R {p:Pg} (h:pgR p):pgR (rnP φ p):=by
 refine ⟨fun v hv=>?_,fun t ht=>?_⟩
 · obtain ⟨x,hx,rfl⟩:=List.mem_map.1 hv
   exact h.1 x hx
 · obtain ⟨x,hx,rfl⟩:=List.mem_map.1 ht
   exact rnT_R (h.2 x hx)
theorem rnP_okD (hφ:NmOk φ) {p:Pg} (h:pgR p):okD (rnP φ p)=okD p:=by
 rw [okD_some,okD_some,okP_plain _ h,okP_plain _ (rnP_R h),rnP_okP hφ]
end
end
end Go.Proofs.YtiacalnkmnckjaaGreatDoor
