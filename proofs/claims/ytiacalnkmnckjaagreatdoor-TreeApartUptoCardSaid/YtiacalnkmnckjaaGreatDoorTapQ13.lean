/- Texts of this proof, one behind the other. Conditions: those in each theorem. -/
import Derived.Test.YtiacalnkmnckjaaGreatDoorTapQ12
import Derived.Test.YtiacalnkmnckjaaGreatDoorTapQ10
import Derived.Test.YtiacalnkmnckjaaGreatDoorTapQ7
set_option linter.unusedVariables false
set_option linter.unusedSimpArgs false
section
namespace Go.Proofs.YtiacalnkmnckjaaGreatDoor
open Go.RowKit Go.As
theorem drop_3 (a b c:UInt8) (x:List UInt8):List.drop 3 ([a,b,c]++x)=x:=rfl
theorem drop_8 (a b c d e f g h:UInt8) (x:List UInt8):List.drop 8 ([a,b,c,d,e,f,g,h]++x)=x:=rfl
theorem head_8 (a b c d e f g h:UInt8) (x:List UInt8):List.headD ([a,b,c,d,e,f,g,h]++x) 0=a:=rfl
theorem wdT_5:wdT 5=[105,102]:=by decide
theorem wdT_6:wdT 6=[119,104,105,108,101]:=by decide
def exZ:Ex := .mk 0 0 0 [] []
theorem exNone_z {e:Ex} (h:exNone e=true):e=exZ:=by
 cases e with
 | mk op ty bits name kids=>
   simp only [exNone,decide_eq_true_eq] at h
   obtain ⟨h1,h2,h3,h4,h5⟩:=h
   rw [h1,h2,h3,h4,List.eq_nil_of_length_eq_zero h5]
   rfl
theorem stT_g {deep:Nat} {kind:Int} {name t:List UInt8} {e:Ex} {body els:List St} (h:stT deep (.mk kind name e body els)=some t):
  (kind=1∨kind=2∨kind=3→nameB name=true)∧(kind=4∨kind=5∨kind=6∨kind=7→name=[])∧(kind=2∨kind=3∨kind=7→e=exZ)∧(kind≠5∧kind≠6→body=[])∧(kind≠5→els=[]):=by
 simp only [stT] at h
 by_cases c1:kind=1
 · rw [if_pos c1] at h
   split at h
   · rename_i g
     exact ⟨fun _=>g.1,fun _=>by omega,fun _=>by omega,fun _=>List.eq_nil_of_length_eq_zero g.2.1,fun _=>List.eq_nil_of_length_eq_zero g.2.2⟩
   · cases h
 rw [if_neg c1] at h
 by_cases c2:kind=2
 · rw [if_pos c2] at h
   split at h
   · rename_i g
     exact ⟨fun _=>g.1,fun _=>by omega,fun _=>exNone_z g.2.1,fun _=>List.eq_nil_of_length_eq_zero g.2.2.1,fun _=>List.eq_nil_of_length_eq_zero g.2.2.2⟩
   · cases h
 rw [if_neg c2] at h
 by_cases c3:kind=3
 · rw [if_pos c3] at h
   split at h
   · rename_i g
     exact ⟨fun _=>g.1,fun _=>by omega,fun _=>exNone_z g.2.1,fun _=>List.eq_nil_of_length_eq_zero g.2.2.1,fun _=>List.eq_nil_of_length_eq_zero g.2.2.2⟩
   · cases h
 rw [if_neg c3] at h
 by_cases c4:kind=4
 · rw [if_pos c4] at h
   split at h
   · rename_i g
     exact ⟨fun _=>by omega,fun _=>g.1,fun _=>by omega,fun _=>List.eq_nil_of_length_eq_zero g.2.1,fun _=>List.eq_nil_of_length_eq_zero g.2.2⟩
   · cases h
 rw [if_neg c4] at h
 by_cases c7:kind=7
 · rw [if_pos c7] at h
   split at h
   · rename_i g
     exact ⟨fun _=>by omega,fun _=>g.1,fun _=>exNone_z g.2.1,fun _=>List.eq_nil_of_length_eq_zero g.2.2.1,fun _=>List.eq_nil_of_length_eq_zero g.2.2.2⟩
   · cases h
 rw [if_neg c7] at h
 split at h
 · rename_i c56
   split at h
   · split at h
     · cases h
     · rename_i g
       refine ⟨fun _=>by omega,fun _=>?_,fun _=>by omega,fun _=>by omega,fun hk=>?_⟩
       · by_cases c:name=[]
         · exact c
         · exact absurd (.inl c) g
       · have:kind=6:=by omega
         have:¬ 0<els.length:=fun hl=>g (.inr ⟨this,hl⟩)
         exact List.eq_nil_of_length_eq_zero (by omega)
   · cases h
 · cases h
def wLock:List UInt8:=[108,111,99,107]
def wUnlock:List UInt8:=[117,110,108,111,99,107]
def wSkip:List UInt8:=[115,107,105,112]
def wAssert:List UInt8:=[97,115,115,101,114,116]
def wIf:List UInt8:=[105,102]
def wWhile:List UInt8:=[119,104,105,108,101]
noncomputable def rdIf (deep:Nat) (rc:List UInt8→List St×List UInt8) (e:Ex) (b:List St×List UInt8):St×List UInt8:=
 if (b.2.drop (2*deep+3)).headD 0=32 then (.mk 5 [] e b.1 (rc ((b.2.drop (2*deep+3)).drop 8)).1,(rc ((b.2.drop (2*deep+3)).drop 8)).2.drop (2*deep+4))
 else (.mk 5 [] e b.1 [],(b.2.drop (2*deep+3)).drop 1)
noncomputable def rdOne (M deep:Nat) (rc:List UInt8→List St×List UInt8) (w r:List UInt8):St×List UInt8:=
 if w=wLock then (.mk 2 (r.tail.takeWhile atC) exZ [] [],(r.tail.dropWhile atC).drop 2)
 else if w=wUnlock then (.mk 3 (r.tail.takeWhile atC) exZ [] [],(r.tail.dropWhile atC).drop 2)
 else if w=wSkip then (.mk 7 [] exZ [] [],r.drop 2)
 else if w=wAssert then (.mk 4 [] (rdE M r.tail).1 [] [],(rdE M r.tail).2.drop 2)
 else if w=wIf then rdIf deep rc (rdE M r.tail).1 (rc ((rdE M r.tail).2.drop 3))
 else if w=wWhile then (.mk 6 [] (rdE M r.tail).1 (rc ((rdE M r.tail).2.drop 3)).1 [],(rc ((rdE M r.tail).2.drop 3)).2.drop (2*deep+4))
 else (.mk 1 w (rdE M (r.drop 3)).1 [] [],(rdE M (r.drop 3)).2.drop 2)
noncomputable def rdS (M:Nat):Nat→Nat→List UInt8→List St×List UInt8
 | 0,_,l=>([],l)
 | N+1,deep,l=>
   if (l.drop (2*deep)).headD 0=32 then
    ((rdOne M deep (rdS M N (deep+1)) ((l.drop (2*deep+2)).takeWhile atC) ((l.drop (2*deep+2)).dropWhile atC)).1::(rdS M N deep (rdOne M deep (rdS M N (deep+1)) ((l.drop (2*deep+2)).takeWhile atC) ((l.drop (2*deep+2)).dropWhile atC)).2).1,
      (rdS M N deep (rdOne M deep (rdS M N (deep+1)) ((l.drop (2*deep+2)).takeWhile atC) ((l.drop (2*deep+2)).dropWhile atC)).2).2)
   else ([],l)
theorem marg_len (deep:Nat):(margT deep).length=2*deep+2:=by
 induction deep with
 | zero=>rfl
 | succ d ih=>
   have:margT (d+1)=32::32::margT d:=by unfold margT;rw [List.replicate_succ];rfl
   rw [this,List.length_cons,List.length_cons,ih]
   omega
theorem marg_head:∀ (deep:Nat) (r:List UInt8),((margT deep++r).drop (2*deep)).headD 0=32
 | 0,r=>rfl
 | d+1,r=>by
   have:margT (d+1)=32::32::margT d:=by unfold margT;rw [List.replicate_succ];rfl
   rw [this,show 2*(d+1)=2*d+1+1 by omega]
   exact marg_head d r
theorem marg_drop (deep:Nat) (r:List UInt8):(margT deep++r).drop (2*deep+2)=r:=by
 rw [← marg_len deep,List.drop_left]
theorem marg_drop3 (deep:Nat) (r:List UInt8):(margT deep++(125::r)).drop (2*deep+3)=r:=by
 rw [show 2*deep+3=(2*deep+2)+1 by omega,← List.drop_drop,marg_drop]
 rfl
theorem marg_drop4 (deep:Nat) (r:List UInt8):(margT deep++(125::10::r)).drop (2*deep+4)=r:=by
 rw [show 2*deep+4=(2*deep+2)+2 by omega,← List.drop_drop,marg_drop]
 rfl
def EndB (deep:Nat) (r:List UInt8):Prop:=(r.drop (2*deep)).headD 0≠32
theorem EndB.marg (deep:Nat) (r:List UInt8):EndB (deep+1) (margT deep++(125::r)):=by
 unfold EndB
 rw [show 2*(deep+1)=2*deep+2 by omega,marg_drop]
 show (125:UInt8)≠32
 decide
theorem name_kw {s w:List UInt8} (h:nameB s=true) (hw:wordB w=true):s≠w:=by
 rintro rfl
 rw [(name_at h).2.2] at hw
 cases hw
set_option maxHeartbeats 1000000 in
theorem rdS_ok (M:Nat):∀ (N deep:Nat) (L:List St) (t r:List UInt8),swts L≤N→swts L≤M→stRs L→stsT deep L=some t→EndB deep r→rdS M (N+1) deep (t++r)=(L,r)
 | N,deep,[],t,r,hN,hM,hR,ht,hs=>by
   simp only [stsT,Option.some.injEq] at ht
   subst ht
   rw [List.nil_append,rdS,if_neg hs]
 | 0,deep,s::L,t,r,hN,hM,hR,ht,hs=>by
   cases s
   simp only [swts,swt] at hN
   omega
 | N+1,deep,.mk kind name e body els::L,t,r,hN,hM,hR,ht,hs=>by
   simp only [stsT] at ht
   split at ht
   · cases ht
   split at ht
   · cases ht
   rename_i ts hts
   split at ht
   · cases ht
   rename_i tl htl
   injection ht with ht
   subst ht
   simp only [swts,swt] at hN hM
   simp only [stRs,stR] at hR
   have IH:=rdS_ok M N deep L tl r (by omega) (by omega) hR.2 htl hs
   have G:=stT_g hts
   have EX:∀ (te x:List UInt8),exT e=some te→StopE x→rdE M (te++x)=(e,x):=fun te x hte hx=>rdE_ok M e te x (by omega) hR.1.2.1 hte hx
   have hb:swts body≤N∧swts els≤N∧swts body≤M∧swts els≤M:=by omega
   have BO:∀ (tb x:List UInt8),stsT (deep+1) body=some tb→rdS M (N+1) (deep+1) (tb++(margT deep++(125::x)))=(body,margT deep++(125::x)):=fun tb x h=>rdS_ok M N (deep+1) body tb _ hb.1 hb.2.2.1 hR.1.2.2.1 h (EndB.marg deep x)
   have EL:∀ (tb x:List UInt8),stsT (deep+1) els=some tb→rdS M (N+1) (deep+1) (tb++(margT deep++(125::x)))=(els,margT deep++(125::x)):=fun tb x h=>rdS_ok M N (deep+1) els tb _ hb.2.1 hb.2.2.2 hR.1.2.2.2 h (EndB.marg deep x)
   have FIN:∀ (w x:List UInt8) (st:St),ts++tl++r=margT deep++(w++x)→w.all atC=true→atC (x.headD 0)=false→x≠[]→rdOne M deep (rdS M (N+1) (deep+1)) w x=(st,tl++r)→rdS M (N+1+1) deep (ts++tl++r)=(st::L,r):=fun w x st he hw hx hne ho=>by
    obtain ⟨c1,c2⟩:=take_at hw hx hne
    rw [he,rdS,marg_head,if_pos rfl,marg_drop,c1,c2,ho]
    simp only []
    rw [IH]
   rcases stT_inv hts with ⟨rfl,te,hte,h2⟩ | ⟨rfl,h2⟩ | ⟨rfl,h2⟩ | ⟨rfl,te,hte,h2⟩ | ⟨rfl,h2⟩ | ⟨rfl,te,tb,te2,hte,htb,hte2,h2⟩ | ⟨rfl,te,tb,te2,hte,htb,hte2,h2⟩
   · have hn:=G.1 (by decide)
     obtain ⟨n1,n2,n3⟩:=name_at hn
     refine FIN name ([32,61,32]++(te++(59::10::(tl++r)))) _ (by rw [h2];simp) n1 (by rfl) (by simp) ?_
     unfold rdOne
     rw [if_neg (name_kw hn (by decide)),if_neg (name_kw hn (by decide)),if_neg (name_kw hn (by decide)),if_neg (name_kw hn (by decide)),if_neg (name_kw hn (by decide)),if_neg (name_kw hn (by decide))]
     rw [drop_3,EX te _ hte (.inr (.inr rfl))]
     rw [G.2.2.2.1 (by decide),G.2.2.2.2 (by decide)]
     rfl
   · have hn:=G.1 (by decide)
     obtain ⟨n1,n2,n3⟩:=name_at hn
     obtain ⟨c1,c2⟩:=take_at (r:=59::10::(tl++r)) n1 (by rfl) (by simp)
     refine FIN wLock (32::(name++(59::10::(tl++r)))) _ (by rw [h2];simp [wLock]) (by decide) (by rfl) (by simp) ?_
     unfold rdOne
     rw [if_pos rfl,List.tail_cons,c1,c2]
     rw [G.2.2.2.1 (by decide),G.2.2.2.2 (by decide),G.2.2.1 (by decide)]
     rfl
   · have hn:=G.1 (by decide)
     obtain ⟨n1,n2,n3⟩:=name_at hn
     obtain ⟨c1,c2⟩:=take_at (r:=59::10::(tl++r)) n1 (by rfl) (by simp)
     refine FIN wUnlock (32::(name++(59::10::(tl++r)))) _ (by rw [h2];simp [wUnlock]) (by decide) (by rfl) (by simp) ?_
     unfold rdOne
     rw [if_neg (by decide),if_pos rfl,List.tail_cons,c1,c2]
     rw [G.2.2.2.1 (by decide),G.2.2.2.2 (by decide),G.2.2.1 (by decide)]
     rfl
   · refine FIN wAssert (32::(te++(59::10::(tl++r)))) _ (by rw [h2];simp [wAssert]) (by decide) (by rfl) (by simp) ?_
     unfold rdOne
     rw [if_neg (by decide),if_neg (by decide),if_neg (by decide),if_pos rfl,List.tail_cons,EX te _ hte (.inr (.inr rfl))]
     rw [G.2.1 (by decide),G.2.2.2.1 (by decide),G.2.2.2.2 (by decide)]
     rfl
   · refine FIN wSkip (59::10::(tl++r)) _ (by rw [h2];simp [wSkip]) (by decide) (by rfl) (by simp) ?_
     unfold rdOne
     rw [if_neg (by decide),if_neg (by decide),if_pos rfl]
     rw [G.2.1 (by decide),G.2.2.2.1 (by decide),G.2.2.2.2 (by decide),G.2.2.1 (by decide)]
     rfl
   · have hnm:=G.2.1 (by decide)
     by_cases hl:0<els.length
     · refine FIN wIf (32::(te++([32,123,10]++(tb++(margT deep++(125::([32,101,108,115,101,32,123,10]++(te2++(margT deep++(125::10::(tl++r))))))))))) _ (by
        rw [h2]
        simp [nsT,hl,wIf,wdT_5]) (by decide) (by rfl) (by simp) ?_
       unfold rdOne
       rw [if_neg (by decide),if_neg (by decide),if_neg (by decide),if_neg (by decide),if_pos rfl,List.tail_cons,EX te _ hte (.inl rfl)]
       simp only []
       rw [drop_3,BO tb _ htb]
       unfold rdIf
       rw [marg_drop3,head_8,if_pos rfl,drop_8,EL te2 _ hte2]
       simp only []
       rw [marg_drop4,hnm]
     · have e0:els=[]:=List.eq_nil_of_length_eq_zero (by omega)
       refine FIN wIf (32::(te++([32,123,10]++(tb++(margT deep++(125::10::(tl++r)))))) ) _ (by
        rw [h2]
        simp [nsT,hl,wIf,wdT_5]) (by decide) (by rfl) (by simp) ?_
       unfold rdOne
       rw [if_neg (by decide),if_neg (by decide),if_neg (by decide),if_neg (by decide),if_pos rfl,List.tail_cons,EX te _ hte (.inl rfl)]
       simp only []
       rw [drop_3,BO tb _ htb]
       unfold rdIf
       rw [marg_drop3,List.headD_cons,if_neg (by decide),e0,hnm]
       rfl
   · have hnm:=G.2.1 (by decide)
     have e0:=G.2.2.2.2 (by decide)
     refine FIN wWhile (32::(te++([32,123,10]++(tb++(margT deep++(125::10::(tl++r))))))) _ (by
      rw [h2]
      simp [nsT,e0,wWhile,wdT_6]) (by decide) (by rfl) (by simp) ?_
     unfold rdOne
     rw [if_neg (by decide),if_neg (by decide),if_neg (by decide),if_neg (by decide),if_neg (by decide),if_pos rfl,List.tail_cons,EX te _ hte (.inl rfl)]
     simp only []
     rw [drop_3,BO tb _ htb]
     simp only []
     rw [marg_drop4,e0,hnm]
def rdL {α:Type} (wd:List UInt8) (one:List UInt8→α×List UInt8):Nat→List UInt8→List α×List UInt8
 | 0,l=>([],l)
 | N+1,l=>if l.take wd.length=wd then ((one (l.drop wd.length)).1::(rdL wd one N (one (l.drop wd.length)).2).1,(rdL wd one N (one (l.drop wd.length)).2).2) else ([],l)
theorem rdL_ok {α:Type} {wd:List UInt8} {one:List UInt8→α×List UInt8} {f:α→Option (List UInt8)}:∀ (N:Nat) (L:List α) (t r:List UInt8),L.length≤N→
  (∀ x∈L,∀ t,f x=some t→∃ t',t=wd++t'∧∀ r,one (t'++r)=(x,r))→allT f L=some t→r.take wd.length≠wd→rdL wd one (N+1) (t++r)=(L,r)
 | N,[],t,r,hN,h,ht,hr=>by
   simp only [allT,Option.some.injEq] at ht
   subst ht
   rw [List.nil_append,rdL,if_neg hr]
 | 0,x::L,t,r,hN,h,ht,hr=>by simp at hN
 | N+1,x::L,t,r,hN,h,ht,hr=>by
   simp only [allT] at ht
   split at ht
   · cases ht
   rename_i ts hts
   split at ht
   · cases ht
   rename_i tl htl
   injection ht with ht
   subst ht
   obtain ⟨t',e,ho⟩:=h x (by simp) ts hts
   have ih:=rdL_ok N L tl r (by simpa using hN) (fun y hy=>h y (by simp [hy])) htl hr
   rw [e,show wd++t'++tl++r=wd++(t'++(tl++r)) by simp,rdL,List.take_left,if_pos rfl,List.drop_left,ho,ih]
noncomputable def vrOf (name t:List UInt8):Vr:=open Classical in if h:∃ v:Vr,vrR v∧v.name=name∧valT v.ty v.bits=some t then h.choose else ⟨[],0,0⟩
theorem vrOf_ok {v:Vr} {t:List UInt8} (hr:vrR v) (h:valT v.ty v.bits=some t):vrOf v.name t=v:=by
 unfold vrOf
 have hx:∃ u:Vr,vrR u∧u.name=v.name∧valT u.ty u.bits=some t:=⟨v,hr,rfl,h⟩
 rw [dif_pos hx]
 obtain ⟨h1,h2,h3⟩:=hx.choose_spec
 generalize hx.choose=u at h1 h2 h3
 obtain ⟨e1,e2⟩:=valT_inj ⟨h1.2.1,h1.2.2⟩ ⟨hr.2.1,hr.2.2⟩ h3 h
 cases u
 cases v
 simp only at h2 e1 e2
 rw [h2,e1,e2]
def noSem (c:UInt8):Bool:=!(c==59)
theorem at_sem {c:UInt8} (h:atC c=true):noSem c=true:=by
 unfold noSem
 cases hc:(c==59) with
 | false=>rfl
 | true=>
   rw [beq_iff_eq] at hc
   subst hc
   revert h;decide
theorem valT_sem {ty bits:Int} {t:List UInt8} (hb:0≤bits∧bits<18446744073709551616) (h:valT ty bits=some t):t.all noSem=true:=by
 rcases valT_inv hb h with h | ⟨b,s,_,h1,rfl,_⟩
 · exact all_mono (fun c=>at_sem) (litT_at h)
 · rw [List.all_cons,Bool.and_eq_true]
   exact ⟨by decide,all_mono (fun c=>at_sem) (litT_at h1)⟩
theorem typT_at (ty:Int):(typT ty).all atC=true:=by
 unfold typT
 split
 · decide
 · split <;> decide
noncomputable def rdV (l:List UInt8):Vr×List UInt8:=
 (vrOf (l.takeWhile atC) ((((l.dropWhile atC).tail.dropWhile atC).drop 3).takeWhile noSem),((((l.dropWhile atC).tail.dropWhile atC).drop 3).dropWhile noSem).drop 2)
theorem rdV_ok {word:List UInt8} {v:Vr} {t:List UInt8} (hr:vrR v) (h:vrT word v=some t):∃ t',t=(word++[32])++t'∧∀ r,rdV (t'++r)=(v,r):=by
 unfold vrT at h
 split at h
 · rename_i hn
   rw [Option.map_eq_some_iff] at h
   obtain ⟨tv,h1,h2⟩:=h
   obtain ⟨n1,n2,n3⟩:=name_at hn
   refine ⟨v.name++(32::(typT v.ty++([32,61,32]++(tv++[59,10])))),by rw [← h2];simp,fun r=>?_⟩
   have e:v.name++(32::(typT v.ty++([32,61,32]++(tv++[59,10]))))++r=v.name++(32::(typT v.ty++([32,61,32]++(tv++(59::10::r))))):=by simp
   obtain ⟨a1,a2⟩:=take_at (r:=32::(typT v.ty++([32,61,32]++(tv++(59::10::r))))) n1 (by rfl) (by simp)
   obtain ⟨b1,b2⟩:=take_at (r:=[32,61,32]++(tv++(59::10::r))) (typT_at v.ty) (by rfl) (by simp)
   obtain ⟨c1,c2⟩:=take_at (r:=59::10::r) (valT_sem ⟨hr.2.1,hr.2.2⟩ h1) (by rfl) (by simp)
   unfold rdV
   rw [e,a1,a2,List.tail_cons,b2,drop_3,c1,c2,vrOf_ok hr h1]
   rfl
 · cases h
def rdM (l:List UInt8):List UInt8×List UInt8:=(l.takeWhile atC,(l.dropWhile atC).drop 2)
theorem rdM_ok {m t:List UInt8} (h:mxT m=some t):∃ t',t=[109,117,116,101,120,32]++t'∧∀ r,rdM (t'++r)=(m,r):=by
 unfold mxT at h
 split at h
 · rename_i hn
   injection h with h
   obtain ⟨n1,n2,n3⟩:=name_at hn
   refine ⟨m++[59,10],by rw [← h],fun r=>?_⟩
   obtain ⟨a1,a2⟩:=take_at (r:=59::10::r) n1 (by rfl) (by simp)
   unfold rdM
   rw [List.append_assoc,show ([59,10]:List UInt8)++r=59::10::r from rfl,a1,a2]
   rfl
 · cases h
noncomputable def rdT (M:Nat) (l:List UInt8):Th×List UInt8:=
 let q:=rdL [32,32,108,111,99,97,108,32] rdV (M+1) ((l.dropWhile atC).drop 3)
 let s:=rdS M (M+1) 0 q.2
 (⟨l.takeWhile atC,q.1,s.1⟩,s.2.drop 2)
theorem no_local {L:List St} {b r:List UInt8} (h:stsT 0 L=some b):(b++(125::r)).take 8≠[32,32,108,111,99,97,108,32]:=by
 cases L with
 | nil=>
   simp only [stsT,Option.some.injEq] at h
   subst h
   intro e
   have:=congrArg (·.headD 0) e
   revert this
   show ¬ (125:UInt8)=32
   decide
 | cons s L=>
   cases s with
   | mk kind name e body els=>
   simp only [stsT] at h
   split at h
   · cases h
   split at h
   · cases h
   rename_i ts hts
   split at h
   · cases h
   injection h with h
   subst h
   have G:=stT_g hts
   have key:∀ (w x y:List UInt8),ts=margT 0++(w++x)→w.all atC=true→atC (x.headD 0)=false→x≠[]→w≠[108,111,99,97,108]→(ts++y).take 8≠[32,32,108,111,99,97,108,32]:=fun w x y he hw hx hne hwl e=>by
    have e2:ts++y=[32,32,108,111,99,97,108,32]++(ts++y).drop 8:=by rw [← e,List.take_append_drop]
    rw [he] at e2
    have e3:=congrArg (fun l=>(List.drop 2 l).takeWhile atC) e2
    have e4:(List.drop 2 (margT 0++(w++x)++y)).takeWhile atC=w:=by
     rw [List.append_assoc,show 2=2*0+2 from rfl,marg_drop,List.append_assoc]
     refine (take_at hw ?_ ?_).1
     · cases x with
       | nil=>exact absurd rfl hne
       | cons _ _=>exact hx
     · simp [hne]
    rw [e4] at e3
    exact hwl e3
   rw [List.append_assoc]
   rcases stT_inv hts with ⟨rfl,te,hte,h2⟩ | ⟨rfl,h2⟩ | ⟨rfl,h2⟩ | ⟨rfl,te,hte,h2⟩ | ⟨rfl,h2⟩ | ⟨rfl,te,tb,te2,hte,htb,hte2,h2⟩ | ⟨rfl,te,tb,te2,hte,htb,hte2,h2⟩
   · have hn:=G.1 (by decide)
     exact key name ([32,61,32]++(te++[59,10])) _ (by rw [h2];simp) (name_at hn).1 (by rfl) (by simp) (name_kw hn (by decide))
   · exact key wLock (32::(name++[59,10])) _ (by rw [h2];simp [wLock]) (by decide) (by rfl) (by simp) (by decide)
   · exact key wUnlock (32::(name++[59,10])) _ (by rw [h2];simp [wUnlock]) (by decide) (by rfl) (by simp) (by decide)
   · exact key wAssert (32::(te++[59,10])) _ (by rw [h2];simp [wAssert]) (by decide) (by rfl) (by simp) (by decide)
   · exact key wSkip [59,10] _ (by rw [h2];simp [wSkip]) (by decide) (by rfl) (by simp) (by decide)
   · obtain ⟨y,hy⟩:∃ y,nsT 0 5 te tb te2 els.length=wIf++(32::y):=⟨(nsT 0 5 te tb te2 els.length).drop 3,by unfold nsT;rw [wdT_5];simp [wIf]⟩
     exact key wIf (32::y) _ (by rw [h2,hy]) (by decide) (by rfl) (by simp) (by decide)
   · obtain ⟨y,hy⟩:∃ y,nsT 0 6 te tb te2 els.length=wWhile++(32::y):=⟨(nsT 0 6 te tb te2 els.length).drop 6,by unfold nsT;rw [wdT_6];simp [wWhile]⟩
     exact key wWhile (32::y) _ (by rw [h2,hy]) (by decide) (by rfl) (by simp) (by decide)
theorem rdT_ok {M:Nat} {h:Th} {t:List UInt8} (hr:thR h) (hM1:h.locals.length≤M) (hM2:swts h.body≤M) (ht:thT h=some t):∃ t',t=[116,104,114,101,97,100,32]++t'∧∀ r,rdT M (t'++r)=(h,r):=by
 unfold thT at ht
 split at ht
 · rename_i a b ha hb
   split at ht
   · rename_i hn
     injection ht with ht
     obtain ⟨n1,n2,n3⟩:=name_at hn
     refine ⟨h.name++([32,123,10]++(a++(b++[125,10]))),by rw [← ht],fun r=>?_⟩
     have e:h.name++([32,123,10]++(a++(b++[125,10])))++r=h.name++([32,123,10]++(a++(b++(125::10::r)))):=by simp
     obtain ⟨a1,a2⟩:=take_at (r:=[32,123,10]++(a++(b++(125::10::r)))) n1 (by rfl) (by simp)
     have l1:=rdL_ok (wd:=[32,32,108,111,99,97,108,32]) (one:=rdV) M h.locals a (b++(125::10::r)) hM1 (fun x hx t ht=>rdV_ok (word:=[32,32,108,111,99,97,108]) (hr.1 x hx) ht) ha (no_local hb)
     have l2:=rdS_ok M M 0 h.body b (125::10::r) hM2 hM2 hr.2 hb (by unfold EndB;show (125:UInt8)≠32;decide)
     unfold rdT
     rw [e,a1,a2,drop_3]
     simp only []
     rw [l1]
     simp only []
     rw [l2]
     rfl
   · cases ht
 · cases ht
noncomputable def rdP (M:Nat) (l:List UInt8):Pg:=
 let a:=rdL [115,104,97,114,101,100,32] rdV (M+1) l
 let b:=rdL [109,117,116,101,120,32] rdM (M+1) a.2
 let c:=rdL [116,104,114,101,97,100,32] (rdT M) (M+1) b.2
 ⟨a.1,b.1,c.1⟩
theorem allT_heads {α:Type} {f:α→Option (List UInt8)} {c:UInt8} {L:List α} {t:List UInt8} (h:∀ x∈L,∀ t,f x=some t→∃ t',t=c::t') (ht:allT f L=some t):t=[]∨∃ t',t=c::t':=by
 cases L with
 | nil=>
   simp only [allT,Option.some.injEq] at ht
   exact .inl ht.symm
 | cons x L=>
   simp only [allT] at ht
   split at ht
   · cases ht
   rename_i ts hts
   split at ht
   · cases ht
   injection ht with ht
   obtain ⟨t',e⟩:=h x (by simp) ts hts
   exact .inr ⟨t'++_,by rw [← ht,e];rfl⟩
theorem take_no {r wd:List UInt8} {c d:UInt8} (h:r=[]∨∃ r',r=c::r') (hw:wd.head?=some d) (hcd:c≠d):r.take wd.length≠wd:=by
 intro e
 cases wd with
 | nil=>cases hw
 | cons a wd=>
   rw [List.head?_cons] at hw
   injection hw with hw
   subst hw
   rcases h with rfl | ⟨r',rfl⟩
   · cases e
   · rw [List.length_cons,List.take_succ_cons] at e
     injection e with e _
     exact hcd e
theorem rdP_ok {M:Nat} {p:Pg} {t:List UInt8} (hr:pgR p) (h1:p.shared.length≤M) (h2:p.mutexes.length≤M) (h3:p.threads.length≤M) (h4:∀ x∈p.threads,x.locals.length≤M∧swts x.body≤M) (ht:pgT p=some t):rdP M t=p:=by
 unfold pgT at ht
 split at ht
 · rename_i a b c ha hb hc
   injection ht with ht
   subst ht
   have tc:∀ x∈p.threads,∀ t,thT x=some t→∃ t',t=(116:UInt8)::t':=fun x hx t ht=>by
    obtain ⟨t',e,_⟩:=rdT_ok (hr.2 x hx) (h4 x hx).1 (h4 x hx).2 ht
    exact ⟨_,e⟩
   have tb:∀ x∈p.mutexes,∀ t,mxT x=some t→∃ t',t=(109:UInt8)::t':=fun x hx t ht=>by
    obtain ⟨t',e,_⟩:=rdM_ok ht
    exact ⟨_,e⟩
   have kc:=allT_heads tc hc
   have kb:=allT_heads tb hb
   have l1:=rdL_ok (wd:=[115,104,97,114,101,100,32]) (one:=rdV) M p.shared a (b++c) h1 (fun x hx t ht=>rdV_ok (word:=[115,104,97,114,101,100]) (hr.1 x hx) ht) ha (by
    rcases kb with rfl | ⟨b',rfl⟩
    · exact take_no kc rfl (by decide)
    · exact take_no (c:=109) (.inr ⟨b'++c,rfl⟩) rfl (by decide))
   have l2:=rdL_ok (wd:=[109,117,116,101,120,32]) (one:=rdM) M p.mutexes b c h2 (fun x hx t ht=>rdM_ok ht) hb (take_no kc rfl (by decide))
   have l3:=rdL_ok (wd:=[116,104,114,101,97,100,32]) (one:=rdT M) M p.threads c [] h3 (fun x hx t ht=>rdT_ok (hr.2 x hx) (h4 x hx).1 (h4 x hx).2 ht) hc (by intro e;cases e)
   unfold rdP
   simp only []
   rw [l1]
   simp only []
   rw [l2]
   simp only []
   rw [List.append_nil] at l3
   rw [l3]
 · cases ht
theorem below_all {α:Type} (f:α→Nat):∀ (L:List α),∃ M,∀ x∈L,f x≤M
 | []=>⟨0,fun x hx=>by cases hx⟩
 | a::L=>by
   obtain ⟨M,h⟩:=below_all f L
   refine ⟨f a+M,fun x hx=>?_⟩
   rcases List.mem_cons.1 hx with rfl | hx
   · omega
   · have:=h x hx
     omega
theorem pgT_inj {p q:Pg} {t:List UInt8} (hp:pgR p) (hq:pgR q) (h:pgT p=some t) (g:pgT q=some t):p=q:=by
 obtain ⟨M1,h1⟩:=below_all (fun x:Th=>x.locals.length+swts x.body) p.threads
 obtain ⟨M2,h2⟩:=below_all (fun x:Th=>x.locals.length+swts x.body) q.threads
 have a:=rdP_ok (M:=p.shared.length+p.mutexes.length+p.threads.length+M1+(q.shared.length+q.mutexes.length+q.threads.length+M2)) hp (by omega) (by omega) (by omega) (fun x hx=>by have:=h1 x hx;omega) h
 have b:=rdP_ok (M:=p.shared.length+p.mutexes.length+p.threads.length+M1+(q.shared.length+q.mutexes.length+q.threads.length+M2)) hq (by omega) (by omega) (by omega) (fun x hx=>by have:=h2 x hx;omega) g
 exact a.symm.trans b
end Go.Proofs.YtiacalnkmnckjaaGreatDoor
end
section
namespace Go.Proofs.YtiacalnkmnckjaaGreatDoor
open Go.RowKit Go.As
set_option maxRecDepth 100000 in
theorem treeKnown_reckonedS:Sy.okTrue (Sy.reckonT Tryz.prog syIT 1000 1 evTab 4 [])=true:=by kernel_rfl
theorem treeKnown_any (w:World) (ht:Tab w):Calls Tryz.prog 4 #[] w fun e w'=>e = .returned (.bool true)∧Below w.heap.size w w':=
 Sy.reckonT_true sy_mixed sy_fineT sy_glob Tryz.func4 (by kernel_rfl) treeKnown_reckonedS w (tab_at ht) ht
end Go.Proofs.YtiacalnkmnckjaaGreatDoor
end
section
namespace Go.Proofs.YtiacalnkmnckjaaGreatDoor
open Go.RowKit Go.As
theorem decDigits_le:∀ (k n:Nat),n<10 ^ (k+1)→(Lib.decDigits n).length≤k+1
 | 0,n,h=>by
   rw [Lib.decDigits,dif_pos (by simpa using h)]
   simp
 | k+1,n,h=>by
   rw [Lib.decDigits]
   split
   · simp
   · have:=decDigits_le k (n / 10) (by rw [Nat.pow_succ] at h;omega)
     simp
     omega
theorem decDigits_len20 {n:Nat} (h:n<18446744073709551616):(Lib.decDigits n).length≤20:=decDigits_le 19 n (Nat.lt_trans h (by decide))
theorem lit_len {ty:Int} {n:Nat} {t:List UInt8} (hn:n<18446744073709551616) (h:litT ty (n:Int)=some t):t.length≤1048600:=by
 unfold litT at h
 split at h
 · split at h
   · injection h with h
     have:=decDigits_len20 hn
     rw [← h]
     show (Lib.decDigits ((n:Int).toNat)).length≤_
     rw [Int.toNat_natCast]
     omega
   · cases h
 split at h
 · split at h
   · injection h with h;rw [← h];simp
   · split at h
     · injection h with h;rw [← h];simp
     · cases h
 split at h
 · split at h
   · injection h with h;rw [← h];simp
   · split at h
     · injection h with h;rw [← h];simp
     · split at h
       · have:=(realP_bound h).2.2.len;omega
       · cases h
 · cases h
end Go.Proofs.YtiacalnkmnckjaaGreatDoor
end
section
namespace Go.Proofs.YtiacalnkmnckjaaGreatDoor
open Go.RowKit Go.As
mutual
theorem exT_len:∀ (e:Ex) {t:List UInt8},exR e→exT e=some t→t.length≤1048600*exB e
 | .mk op ty bits name kids,t,hR,h=>by
   simp only [exR] at hR
   obtain ⟨_,_,hb,hk⟩:=hR
   simp only [exB]
   rcases exT_inv h with ⟨rfl,rfl,hl⟩ | ⟨rfl,rfl,rfl⟩ | ⟨rfl,x,tx,rfl,hx,rfl⟩ | ⟨rfl,x,tx,rfl,hx,rfl⟩ | ⟨rfl,x,tx,rfl,hx,rfl⟩ | ⟨rfl,x,tx,rfl,hx,rfl⟩ | ⟨_,x,y,tx,ty',rfl,hx,hy,rfl⟩
   · obtain ⟨n,rfl⟩:∃ n:Nat,bits=(n:Int):=⟨bits.toNat,by omega⟩
     have:=lit_len (by omega) hl
     omega
   · omega
   all_goals
    simp only [exRs] at hk
    have h1:=exT_len x hk.1 hx
    simp only [exBs,List.length_append,List.length_cons,List.length_nil]
   · omega
   · omega
   · omega
   · omega
   · have h2:=exT_len y hk.2.1 hy
     have h3:=psignT_len op
     omega
end
end Go.Proofs.YtiacalnkmnckjaaGreatDoor
end
section
namespace Go.Proofs.YtiacalnkmnckjaaGreatDoor
open Go.RowKit Go.As
theorem valT_len {ty:Int} {n:Nat} {t:List UInt8} (hn:n<18446744073709551616) (h:valT ty (n:Int)=some t):t.length≤1048601:=by
 by_cases h1:ty=1
 · subst h1
   by_cases hz:9223372036854775808<n
   · obtain ⟨m,hm⟩:∃ m:Nat,(m:Int)=18446744073709551616 - (n:Int):=⟨18446744073709551616 - n,by omega⟩
     rw [valT_neg hz hm] at h
     injection h with h
     have:=decDigits_len20 (n:=m) (by omega)
     rw [← h]
     simp
     omega
   · rw [valT_one hz] at h
     have:=lit_len hn h
     omega
 by_cases h3:ty=3
 · subst h3
   by_cases hz:n<9223372036854775808
   · rw [valT_real hz] at h
     have:=lit_len hn h
     omega
   · obtain ⟨m,hm⟩:∃ m:Nat,(m:Int)=(n:Int) - signBits:=⟨n - 9223372036854775808,by unfold signBits;omega⟩
     have hm2:(m:Int)=(n:Int) - 9223372036854775808:=hm
     by_cases hq:(m:Int)=nanBits
     · rw [valT_rnan hz hm hq] at h
       cases h
     · rw [valT_rneg hz hm hq,Option.map_eq_some_iff] at h
       obtain ⟨s,hs,rfl⟩:=h
       have:=lit_len (n:=m) (by omega) hs
       simp
       omega
 rw [valT_other h1 h3] at h
 have:=lit_len hn h
 omega
theorem vrT_len {wd:List UInt8} (hwd:wd.length≤100) {v:Vr} (hR:vrR v) {t:List UInt8} (h:vrT wd v=some t):t.length≤1048900*vrB v:=by
 obtain ⟨_,h1,h2⟩:=hR
 unfold vrT at h
 split at h
 rotate_left
 · cases h
 rw [Option.map_eq_some_iff] at h
 obtain ⟨s,hs,rfl⟩:=h
 obtain ⟨n,hn⟩:∃ n:Nat,v.bits=(n:Int):=⟨v.bits.toNat,by omega⟩
 rw [hn] at hs
 have:=valT_len (by omega) hs
 have h4:(typT v.ty).length≤4:=by
  unfold typT
  by_cases c:v.ty=2
  · rw [if_pos c];decide
  · rw [if_neg c]
    by_cases d:v.ty=3
    · rw [if_pos d];decide
    · rw [if_neg d];decide
 unfold vrB
 simp only [List.length_append,List.length_cons,List.length_nil]
 omega
theorem varsT_len {wd:List UInt8} (hwd:wd.length≤100):∀ {l:List Vr} {t:List UInt8},(∀ v∈l,vrR v)→allT (vrT wd) l=some t→t.length≤1048900*sumN vrB l
 | [],t,_,h=>by
   simp only [allT,Option.some.injEq] at h
   subst h
   simp
 | v::l,t,hR,h=>by
   simp only [allT] at h
   split at h
   · cases h
   rename_i a ha
   split at h
   · cases h
   rename_i b hb
   injection h with h
   have h1:=vrT_len hwd (hR v (by simp)) ha
   have h2:=varsT_len hwd (fun x hx=>hR x (by simp [hx])) hb
   rw [← h]
   simp only [sumN,List.length_append]
   omega
end Go.Proofs.YtiacalnkmnckjaaGreatDoor
end
section
namespace Go.Proofs.YtiacalnkmnckjaaGreatDoor
open Go.RowKit Go.As
mutual
theorem stT_len:∀ (x:St) {deep:Nat} {t:List UInt8},deep≤32→stR x→stT deep x=some t→t.length≤1048900*stB x
 | .mk kind name e body els,deep,t,hd,hR,h=>by
   obtain ⟨_,hRe,hRb,hRl⟩:=hR
   simp only [stB]
   have hm:=margT_len deep
   rcases stT_inv h with ⟨rfl,te,hte,rfl⟩ | ⟨rfl,rfl⟩ | ⟨rfl,rfl⟩ | ⟨rfl,te,hte,rfl⟩ | ⟨rfl,rfl⟩ | ⟨rfl,te,tb,tl,hte,htb,htl,rfl⟩ | ⟨rfl,te,tb,tl,hte,htb,htl,rfl⟩
   · have:=exT_len e hRe hte
     simp only [List.length_append,List.length_cons,List.length_nil]
     omega
   · simp only [List.length_append,List.length_cons,List.length_nil]
     omega
   · simp only [List.length_append,List.length_cons,List.length_nil]
     omega
   · have:=exT_len e hRe hte
     simp only [List.length_append,List.length_cons,List.length_nil]
     omega
   · simp only [List.length_append,List.length_cons,List.length_nil]
     omega
   all_goals
    have h1:=exT_len e hRe hte
    have h2:=stsT_len body hRb htb
    have h3:=stsT_len els hRl htl
    have hw5:(wdT 5).length=2:=rfl
    have hw6:(wdT 6).length=5:=rfl
    unfold nsT
    by_cases hz:0<els.length
    · rw [if_pos hz]
      simp only [List.length_append,List.length_cons,List.length_nil]
      omega
    · rw [if_neg hz]
      simp only [List.length_append,List.length_cons,List.length_nil]
      omega
theorem stsT_len:∀ (L:List St) {deep:Nat} {t:List UInt8},stRs L→stsT deep L=some t→t.length≤1048900*stBs L
 | [],deep,t,_,h=>by
   simp only [stsT,Option.some.injEq] at h
   subst h
   simp
 | x::l,deep,t,hR,h=>by
   simp only [stsT] at h
   split at h
   · cases h
   split at h
   · cases h
   rename_i hd _ a ha
   split at h
   · cases h
   rename_i b hb
   injection h with h
   simp only [stRs] at hR
   have h1:=stT_len x (by omega) hR.1 ha
   have h2:=stsT_len l hR.2 hb
   rw [← h]
   simp only [stBs,List.length_append]
   omega
end
end Go.Proofs.YtiacalnkmnckjaaGreatDoor
end
section
namespace Go.Proofs.YtiacalnkmnckjaaGreatDoor
open Go.RowKit Go.As
theorem allT_len {α:Type} {f:α→Option (List UInt8)} {μ:α→Nat}:∀ {l:List α} {t:List UInt8},(∀ x∈l,∀ u,f x=some u→u.length≤1048900*μ x)→allT f l=some t→t.length≤1048900*sumN μ l
 | [],t,_,h=>by
   simp only [allT,Option.some.injEq] at h
   subst h
   simp
 | x::l,t,hf,h=>by
   simp only [allT] at h
   split at h
   · cases h
   rename_i a ha
   split at h
   · cases h
   rename_i b hb
   injection h with h
   have h1:=hf x (by simp) a ha
   have h2:=allT_len (fun y hy=>hf y (by simp [hy])) hb
   rw [← h]
   simp only [sumN,List.length_append]
   omega
theorem mxT_len {m t:List UInt8} (h:mxT m=some t):t.length≤1048900*txB m:=by
 rw [mxT_inv h]
 unfold txB
 simp only [List.length_append,List.length_cons,List.length_nil]
 omega
theorem thT_len {x:Th} {t:List UInt8} (hR:thR x) (h:thT x=some t):t.length≤1048900*thB x:=by
 obtain ⟨a,b,ha,hb,rfl⟩:=thT_inv h
 have h1:=varsT_len (by decide) hR.1 ha
 have h2:=stsT_len x.body hR.2 hb
 unfold thB
 simp only [List.length_append,List.length_cons,List.length_nil]
 omega
theorem pgT_len {p:Pg} {t:List UInt8} (hR:pgR p) (h:pgT p=some t):t.length≤1048900*pgB p:=by
 obtain ⟨a,b,c,ha,hb,hc,rfl⟩:=pgT_inv h
 have h1:=varsT_len (by decide) hR.1 ha
 have h2:=allT_len (μ:=txB) (fun m _ u hu=>mxT_len hu) hb
 have h3:=allT_len (μ:=thB) (fun x hx u hu=>thT_len (hR.2 x hx) hu) hc
 unfold pgB
 simp only [List.length_append]
 omega
end Go.Proofs.YtiacalnkmnckjaaGreatDoor
end
section
namespace Go.Proofs.YtiacalnkmnckjaaGreatDoor
open Go.RowKit Go.As
theorem pg_namesA {x:Pg} (hx:pgB x≤1048576):nls x.mutexes+vls x.shared+tls x.threads≤1000000000000:=by
 have h1:∀ (l:List (List UInt8)),nls l≤sumN txB l:=by
  intro l
  induction l with
  | nil=>exact Nat.le_refl _
  | cons s l ih=>simp only [nls,sumN,txB];omega
 have h2:∀ (l:List Vr),vls l≤sumN vrB l:=by
  intro l
  induction l with
  | nil=>exact Nat.le_refl _
  | cons s l ih=>simp only [vls,sumN,vrB];omega
 have h3:∀ (l:List Th),tls l≤sumN thB l:=by
  intro l
  induction l with
  | nil=>exact Nat.le_refl _
  | cons s l ih=>
    have:=h2 s.locals
    simp only [tls,sumN,thB]
    omega
 have h1:=h1 x.mutexes
 have h2:=h2 x.shared
 have h3:=h3 x.threads
 unfold pgB at hx
 omega
theorem sameP_at {b:Bool} (p q:Pg) (cs1 cs2:List Value) (w:World) (hbd0:pwt p≤1099511627776) (hp:PgAt (·<w.heap.size) w p cs1) (hq:PgAt (·<w.heap.size) w q cs2) (hb:sameB p q=b):
  Calls Tryz.prog 22 #[.agg cs1.toArray,.agg cs2.toArray] w fun r w'=>r = .returned (.bool b)∧Below w.heap.size w w':=by
 have:=sameProgram_any p q cs1 cs2 w hbd0 hp hq
 rw [hb] at this
 exact this
theorem apart_key {p q:Pg} (hp:pgR p) (hq:pgR q) (h:printE p=0) (g:printE q=0):Sy.bEqL (printS p) (printS q)=sameB p q:=by
 have one:∀ {x:Pg},printE x=0→∃ t,pgT x=some t∧printS x=t:=fun {x} h=>by
  unfold printE at h
  unfold printS
  cases hx:pgT x with
  | none=>rw [hx] at h;cases h
  | some t=>
    rw [hx] at h
    simp only at h ⊢
    by_cases c:16384<t.length
    · rw [if_pos c] at h;cases h
    · rw [if_neg c];exact ⟨t,rfl,rfl⟩
 obtain ⟨t,h1,h2⟩:=one h
 obtain ⟨u,g1,g2⟩:=one g
 rw [h2,g2,Sy.bEqL_eq]
 by_cases e:t=u
 · subst e
   have:=pgT_inj hp hq h1 g1
   rw [sameB_t.2 this]
   simp
 · have hne:p≠q:=by rintro rfl;rw [h1] at g1;injection g1 with g1;exact e g1
   have:sameB p q=false:=by rw [← Bool.not_eq_true,sameB_t];exact hne
   rw [this]
   simp [e]
open Go.Sy in
set_option maxRecDepth 100000 in
theorem treeApart_any (p q:Pg) (w:World) (ht:Tab w) (hbd:pgB p+pgB q≤1048576) (hpR:pgR p) (hqR:pgR q)
  {pa pb pd qa qb qd:Option Addr} {pns pnm pnt pcap pcap2 pcap3 qns qnm qnt qcap qcap2 qcap3:Nat} (hp:PgAt (·<w.heap.size) w p [.slice pa pns pcap,.slice pb pnm pcap2,.slice pd pnt pcap3]) (hq:PgAt (·<w.heap.size) w q [.slice qa qns qcap,.slice qb qnm qcap2,.slice qd qnt qcap3]):
  Calls Tryz.prog 5 #[.agg #[.slice pa pns pcap,.slice pb pnm pcap2,.slice pd pnt pcap3],.agg #[.slice qa qns qcap,.slice qb qnm qcap2,.slice qd qnt qcap3]] w (fun r w'=>r = .returned (.bool true)∧Below w.heap.size w w'):=by
 have hwp:=pwt_pgB p
 have hwq:=pwt_pgB q
 refine Sy.enter (vs:=[.agg #[.slice pa pns pcap,.slice pb pnm pcap2,.slice pd pnt pcap3],.agg #[.slice qa qns qcap,.slice qb qnm qcap2,.slice qd qnt qcap3]]) sy_fine Tryz.func5 rfl (fun γ=>norms_LR _) rfl (fun γ0 hγ0=>?_)
 refine rk ?_
 refine gX [] (.bool true) (fun W hk=>treeKnown_any W (ht.below hk.below)) ?_
 refine rk ?_
 refine gG 2 gz 26 [.slice pa pns pcap,.slice pb pnm pcap2,.slice pd pnt pcap3] (fun k2 wa Ba hka hBa hBk2 hnk2 hsa hh2=>?_)
 refine gG 3 (gz+1) 26 [.slice qa qns qcap,.slice qb qnm qcap2,.slice qd qnt qcap3] (fun k3 w1 B1 hkb hBb hBk3 hnk3 hB1 hh3=>?_)
 have hk1:Keep (·<w.heap.size) w w1:=hka.trans (hkb.mono hBa)
 have hB01:∀ k,k<w.heap.size→B1 k:=fun k h=>hBb k (hBa k h)
 have hb3:=box_sl hh3 hBk3 (n:=3) rfl
 have hb2:=((box_sl hh2 hBk2 (n:=3) rfl).keep hkb).mono hBb
 have KW:∀ W,Keep B1 w1 W→Keep (·<w.heap.size) w W:=fun W hk=>hk1.trans (hk.mono hB01)
 have PP:∀ W,Keep B1 w1 W→PgAt (·<W.heap.size) W p [.slice pa pns pcap,.slice pb pnm pcap2,.slice pd pnt pcap3]:=fun W hk=>hp.keep (KW W hk) fun k h=>Nat.lt_of_lt_of_le h (KW W hk).size
 have PQ:∀ W,Keep B1 w1 W→PgAt (·<W.heap.size) W q [.slice qa qns qcap,.slice qb qnm qcap2,.slice qd qnt qcap3]:=fun W hk=>hq.keep (KW W hk) fun k h=>Nat.lt_of_lt_of_le h (KW W hk).size
 rcases Bool.eq_false_or_eq_true (lrg p) with hpl | hpl
 ·
  refine gX [.agg #[.slice pa pns pcap,.slice pb pnm pcap2,.slice pd pnt pcap3]] (.bool true) (fun W hk=>by rw [← hpl];exact large_any p [.slice pa pns pcap,.slice pb pnm pcap2,.slice pd pnt pcap3] W (by omega) (pg_namesA (by omega)) (PP W hk)) ?_
  refine rs [] 60 4 ?_
  refine gR (.bool true) (fun W hk=>⟨rfl,(KW W hk).below⟩)
 refine gX [.agg #[.slice pa pns pcap,.slice pb pnm pcap2,.slice pd pnt pcap3]] (.bool false) (fun W hk=>by rw [← hpl];exact large_any p [.slice pa pns pcap,.slice pb pnm pcap2,.slice pd pnt pcap3] W (by omega) (pg_namesA (by omega)) (PP W hk)) ?_
 refine rk ?_
 refine gV (.agg #[.slice qa qns qcap,.slice qb qnm qcap2,.slice qd qnt qcap3]) (S:=Instr.loadAt 26 (.pointer (some ⟨k3,0,none⟩))) (fun W hk=>ld_box hb3 (by kernel_rfl) (by kernel_rfl) hk) ?_
 refine rk ?_
 rcases Bool.eq_false_or_eq_true (lrg q) with hql | hql
 ·
  refine gX [.agg #[.slice qa qns qcap,.slice qb qnm qcap2,.slice qd qnt qcap3]] (.bool true) (fun W hk=>by rw [← hql];exact large_any q [.slice qa qns qcap,.slice qb qnm qcap2,.slice qd qnt qcap3] W (by omega) (pg_namesA (by omega)) (PQ W hk)) ?_
  refine rs [] 60 4 ?_
  refine gR (.bool true) (fun W hk=>⟨rfl,(KW W hk).below⟩)
 refine gX [.agg #[.slice qa qns qcap,.slice qb qnm qcap2,.slice qd qnt qcap3]] (.bool false) (fun W hk=>by rw [← hql];exact large_any q [.slice qa qns qcap,.slice qb qnm qcap2,.slice qd qnt qcap3] W (by omega) (pg_namesA (by omega)) (PQ W hk)) ?_
 refine rs [] 60 3 ?_
 refine gV (.agg #[.slice pa pns pcap,.slice pb pnm pcap2,.slice pd pnt pcap3]) (S:=Instr.loadAt 26 (.pointer (some ⟨k2,0,none⟩))) (fun W hk=>ld_box hb2 (by kernel_rfl) (by kernel_rfl) hk) ?_
 refine rk ?_
 refine gX [.agg #[.slice pa pns pcap,.slice pb pnm pcap2,.slice pd pnt pcap3]] (.tuple #[.string (str (printS p)),.int .i64 (printE p)]) (fun W hk=>tPrint_any p [.slice pa pns pcap,.slice pb pnm pcap2,.slice pd pnt pcap3] W (by omega) hpR (ht.below (KW W hk).below) (fun t h=>by have:=pgT_len hpR h;omega) (PP W hk)) ?_
 refine rk ?_
 refine gV (.agg #[.slice qa qns qcap,.slice qb qnm qcap2,.slice qd qnt qcap3]) (S:=Instr.loadAt 26 (.pointer (some ⟨k3,0,none⟩))) (fun W hk=>ld_box hb3 (by kernel_rfl) (by kernel_rfl) hk) ?_
 refine rk ?_
 refine gX [.agg #[.slice qa qns qcap,.slice qb qnm qcap2,.slice qd qnt qcap3]] (.tuple #[.string (str (printS q)),.int .i64 (printE q)]) (fun W hk=>tPrint_any q [.slice qa qns qcap,.slice qb qnm qcap2,.slice qd qnt qcap3] W (by omega) hqR (ht.below (KW W hk).below) (fun t h=>by have:=pgT_len hqR h;omega) (PQ W hk)) ?_
 refine rk ?_
 refine gV (.agg #[.slice pa pns pcap,.slice pb pnm pcap2,.slice pd pnt pcap3]) (S:=Instr.loadAt 26 (.pointer (some ⟨k2,0,none⟩))) (fun W hk=>ld_box hb2 (by kernel_rfl) (by kernel_rfl) hk) ?_
 refine rk ?_
 refine gM [.agg #[.slice pa pns pcap,.slice pb pnm pcap2,.slice pd pnt pcap3]] (fun W hk=>tcopy_any p [.slice pa pns pcap,.slice pb pnm pcap2,.slice pd pnt pcap3] W (by omega) (PP W hk)) ?_
 rintro wc r w2 B2 hkc hcp hbc hk12 hB12 hBn2 hB2s
 obtain ⟨ca,ccap,cb,ccap2,cd,ccap3,cxs,cys,czs,cus,rfl,c1,c2,c3,c4,c5,c6,c7,c8,hcm⟩:=hcp
 refine rs [] 3 0 ?_
 refine gG 10 (gz+2) 26 [.slice ca p.shared.length ccap,.slice cb p.mutexes.length ccap2,.slice cd p.threads.length ccap3] (fun k10 w3 B3 hk23 hB23 hBk10 hnk10 hB3 hh10=>?_)
 have hk13:Keep B1 w1 w3:=hk12.trans (hk23.mono hB12)
 have hB13:∀ k,B1 k→B3 k:=fun k h=>hB23 k (hB12 k h)
 have hb10:=box_sl hh10 hBk10 (n:=3) rfl
 have hb2:=(hb2.keep hk13).mono hB13
 have hb3:=(hb3.keep hk13).mono hB13
 have KW:=fun W (hk:Keep B3 w3 W)=>KW W (hk13.trans (hk.mono hB13))
 have PP:=fun W (hk:Keep B3 w3 W)=>PP W (hk13.trans (hk.mono hB13))
 have PQ:=fun W (hk:Keep B3 w3 W)=>PQ W (hk13.trans (hk.mono hB13))
 have zz1:=hkc.size
 have zz2:=hk23.size
 have hF3:∀ k,NewS wc w2 k→B3 k:=fun k h=>hB23 k (hBn2 k h.1.1 h.1.2)
 have hKF:Keep (NewS wc w2) w2 w3:=hk23.mono fun k h=>hBn2 k h.1.1 h.1.2
 have hC3:PgAt B3 w3 p [.slice ca p.shared.length ccap,.slice cb p.mutexes.length ccap2,.slice cd p.threads.length ccap3]:=PgAt.keep hKF hF3 ⟨ca,ccap,cxs,cb,ccap2,cys,cd,ccap3,czs,rfl,c1,c2,c3,c4,c5,c6⟩
 have PC:=fun W (hk:Keep B3 w3 W)=>hC3.keep hk fun k h=>Nat.lt_of_lt_of_le (hB3 k h) hk.size
 refine rk ?_
 refine gV (.agg #[.slice ca p.shared.length ccap,.slice cb p.mutexes.length ccap2,.slice cd p.threads.length ccap3]) (S:=Instr.loadAt 26 (.pointer (some ⟨k10,0,none⟩))) (fun W hk=>ld_box hb10 (by kernel_rfl) (by kernel_rfl) hk) ?_
 refine rk ?_
 refine gV (.agg #[.slice pa pns pcap,.slice pb pnm pcap2,.slice pd pnt pcap3]) (S:=Instr.loadAt 26 (.pointer (some ⟨k2,0,none⟩))) (fun W hk=>ld_box hb2 (by kernel_rfl) (by kernel_rfl) hk) ?_
 refine rk ?_
 refine gX [.agg #[.slice ca p.shared.length ccap,.slice cb p.mutexes.length ccap2,.slice cd p.threads.length ccap3],.agg #[.slice pa pns pcap,.slice pb pnm pcap2,.slice pd pnt pcap3]] (.bool true) (fun W hk=>by have:=tsame_any p p [.slice ca p.shared.length ccap,.slice cb p.mutexes.length ccap2,.slice cd p.threads.length ccap3] [.slice pa pns pcap,.slice pb pnm pcap2,.slice pd pnt pcap3] W (by omega) (PC W hk) (PP W hk);rw [sameB_t.2 rfl] at this;exact this) ?_
 refine rk ?_
 refine gV (.agg #[.slice pa pns pcap,.slice pb pnm pcap2,.slice pd pnt pcap3]) (S:=Instr.loadAt 26 (.pointer (some ⟨k2,0,none⟩))) (fun W hk=>ld_box hb2 (by kernel_rfl) (by kernel_rfl) hk) ?_
 refine rk ?_
 refine gV (.agg #[.slice pa pns pcap,.slice pb pnm pcap2,.slice pd pnt pcap3]) (S:=Instr.loadAt 26 (.pointer (some ⟨k2,0,none⟩))) (fun W hk=>ld_box hb2 (by kernel_rfl) (by kernel_rfl) hk) ?_
 refine rk ?_
 refine gX [.agg #[.slice pa pns pcap,.slice pb pnm pcap2,.slice pd pnt pcap3],.agg #[.slice pa pns pcap,.slice pb pnm pcap2,.slice pd pnt pcap3]] (.bool true) (fun W hk=>by have:=tsame_any p p [.slice pa pns pcap,.slice pb pnm pcap2,.slice pd pnt pcap3] [.slice pa pns pcap,.slice pb pnm pcap2,.slice pd pnt pcap3] W (by omega) (PP W hk) (PP W hk);rw [sameB_t.2 rfl] at this;exact this) ?_
 refine rs [45] 60 3 ?_
 by_cases hE:printE p=0
 rotate_left
 ·
  refine gS 44 (x := .bool (!(intEq (printE p) 0))) (.bool true) (by rw [eq_f hE];rfl) ?_
  refine rs [] 60 6 ?_
  refine gR (.bool true) (fun W hk=>⟨rfl,(KW W hk).below⟩)
 refine gS 44 (x := .bool (!(intEq (printE p) 0))) (.bool false) (by rw [eq_t hE];rfl) ?_
 refine rs [48] 60 1 ?_
 by_cases hF:printE q=0
 rotate_left
 ·
  refine gS 47 (x := .bool (!(intEq (printE q) 0))) (.bool true) (by rw [eq_f hF];rfl) ?_
  refine rs [] 60 6 ?_
  refine gR (.bool true) (fun W hk=>⟨rfl,(KW W hk).below⟩)
 refine gS 47 (x := .bool (!(intEq (printE q) 0))) (.bool false) (by rw [eq_t hF];rfl) ?_
 refine rs [53] 60 1 ?_
 have key:=apart_key hpR hqR hE hF
 rcases Bool.eq_false_or_eq_true (sameB p q) with hs | hs
 all_goals
  refine gS 52 (x := .bool (Sy.bEqL (printS p) (printS q))) (_) (congrArg Value.bool (key.trans hs)) ?_
  refine rk ?_
  refine gV (.agg #[.slice pa pns pcap,.slice pb pnm pcap2,.slice pd pnt pcap3]) (S:=Instr.loadAt 26 (.pointer (some ⟨k2,0,none⟩))) (fun W hk=>ld_box hb2 (by kernel_rfl) (by kernel_rfl) hk) ?_
  refine rk ?_
  refine gV (.agg #[.slice qa qns qcap,.slice qb qnm qcap2,.slice qd qnt qcap3]) (S:=Instr.loadAt 26 (.pointer (some ⟨k3,0,none⟩))) (fun W hk=>ld_box hb3 (by kernel_rfl) (by kernel_rfl) hk) ?_
  refine rk ?_
  refine gX [.agg #[.slice pa pns pcap,.slice pb pnm pcap2,.slice pd pnt pcap3],.agg #[.slice qa qns qcap,.slice qb qnm qcap2,.slice qd qnt qcap3]] (.bool _) (fun W hk=>sameP_at p q [.slice pa pns pcap,.slice pb pnm pcap2,.slice pd pnt pcap3] [.slice qa qns qcap,.slice qb qnm qcap2,.slice qd qnt qcap3] W (by omega) (PP W hk) (PQ W hk) hs) ?_
  refine rs [] 60 6 ?_
  refine gR (.bool true) (fun W hk=>⟨rfl,(KW W hk).below⟩)
theorem treeApart_walk (w:World) (ht:Tab w) (p:Pg) (c0:List Value) (o0:PgAt (·<w.heap.size) w p c0∧pgR p) (q:Pg) (c1:List Value) (o1:PgAt (·<w.heap.size) w q c1∧pgR q) (hbd:pgB p+pgB q≤1048576):
  Calls Tryz.prog 5 #[.agg c0.toArray,.agg c1.toArray] w (fun r w'=>r = .returned (.bool true)∧Below w.heap.size w w'):=by
 obtain ⟨hp,hpR⟩:=o0
 obtain ⟨hq,hqR⟩:=o1
 have hp0:=hp
 have hq0:=hq
 obtain ⟨_,_,_,_,_,_,_,_,_,rfl,_⟩:=hp0
 obtain ⟨_,_,_,_,_,_,_,_,_,rfl,_⟩:=hq0
 exact treeApart_any p q w ht hbd hpR hqR hp hq
end Go.Proofs.YtiacalnkmnckjaaGreatDoor
end
