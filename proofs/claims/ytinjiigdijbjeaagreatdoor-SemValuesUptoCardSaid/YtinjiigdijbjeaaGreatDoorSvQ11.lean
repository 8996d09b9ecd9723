/- Texts of this proof, one behind the other. Conditions: those in each theorem. -/
import Derived.Test.YtinjiigdijbjeaaGreatDoorSvQ10
import Derived.Test.YtinjiigdijbjeaaGreatDoorSvQ9
import Derived.Test.YtinjiigdijbjeaaGreatDoorSvQ2
import Derived.Test.YtinjiigdijbjeaaGreatDoorSvQ8
set_option linter.unusedVariables false
set_option linter.unusedSimpArgs false
namespace Go.Proofs.YtinjiigdijbjeaaGreatDoor
open Go.RowKit Go.As
section
theorem ex32_some (e:Ex):(ex32 e).isSome=okE 32 e:=by
 unfold ex32 okE
 by_cases h:hgt e≤32
 · rw [if_pos h,decide_eq_true h,Bool.true_and]
 · rw [if_neg h,decide_eq_false h]
   rfl
noncomputable def okS (deep:Nat) (s:St):Bool:=(stT deep s).isSome
noncomputable def okB (deep:Nat) (l:List St):Bool:=(stsT deep l).isSome
theorem okB_any (deep:Nat) (h:deep≤32):∀ (l:List St),okB deep l=!(l.any fun s=>!(okS deep s))
 | []=>rfl
 | s::l=>by
   have ih:=okB_any deep h l
   unfold okB okS at *
   simp only [stsT,List.any_cons]
   rw [if_neg (by omega)]
   cases stT deep s with
   | none=>rfl
   | some t=>
     cases hx:stsT deep l with
     | none=>rw [hx] at ih;simp at ih ⊢;exact ih
     | some ts=>rw [hx] at ih;simp at ih ⊢;exact ih
theorem okB_deep (deep:Nat) (h:32<deep) (l:List St):okB deep l=decide (l.length=0):=by
 cases l with
 | nil=>rfl
 | cons s l=>unfold okB;simp only [stsT];rw [if_pos h];rfl
theorem okS_mk (deep:Nat) (k:Int) (name:List UInt8) (e:Ex) (body els:List St) (hk:1≤k∧k≤7):
  okS deep (.mk k name e body els)=((if k=1∨k=2∨k=3 then nameB name else Sy.bEqL name [])&&((if k=1∨k=4∨k=5∨k=6 then okE 32 e else exNone e)&&((decide (k=5) || decide (els.length=0))&&((decide (k=5∨k=6) || decide (body.length=0))&&(okB (deep+1) body&&okB (deep+1) els))))):=by
 have hbody:body.length=0→okB (deep+1) body=true:=fun h=>by rw [List.eq_nil_of_length_eq_zero h];rfl
 have hels:els.length=0→okB (deep+1) els=true:=fun h=>by rw [List.eq_nil_of_length_eq_zero h];rfl
 rw [← ex32_some]
 have hnm:Sy.bEqL name []=decide (name=[]):=by
  rw [Bool.eq_iff_iff,bEq_nil]
  simp
 rw [hnm]
 have h7:k=1∨k=2∨k=3∨k=4∨k=7∨k=5∨k=6:=by omega
 rcases h7 with rfl | rfl | rfl | rfl | rfl | rfl | rfl
 case inr.inr.inr.inr.inr.inl=>
  unfold okS okB
  simp only [stT]
  cases hB:stsT (deep+1) body <;> cases hL:stsT (deep+1) els <;> cases hx:ex32 e <;> by_cases hn:name=[] <;> by_cases h2:els.length=0 <;> simp [*]
  all_goals (first | omega | (split <;> rfl))
 case inr.inr.inr.inr.inr.inr=>
  unfold okS okB
  simp only [stT]
  cases hB:stsT (deep+1) body <;> cases hL:stsT (deep+1) els <;> cases hx:ex32 e <;> by_cases hn:name=[] <;> by_cases h2:els.length=0 <;> simp [*]
  all_goals (first | omega | (split <;> rfl))
 all_goals
  unfold okS
  simp only [stT]
  by_cases h1:body.length=0
  · have hb':=hbody h1
    by_cases h2:els.length=0
    · have he':=hels h2
      cases hn:nameB name <;> cases hx:ex32 e <;> by_cases hm:name=[] <;> cases hq:exNone e <;> simp [*]
    · simp [h2]
  · simp [h1]
theorem zeroB (ty bits:Int):vEq ty bits 0 0=decide (ty=0∧bits=0):=by
 unfold vEq
 rw [Sy.intEq_eq,Sy.intEq_eq]
 by_cases h1:ty=0 <;> by_cases h2:bits=0 <;> simp [h1,h2]
open Go.Sy in
set_option maxRecDepth 100000 in
theorem plain_any (uo ut uv:Int) (un:List UInt8) (uk:List Ex) (uf:Option Addr) (ug:Nat) (w:World):CB 249 #[xV uo ut uv un uf uk.length ug] w (.bool (exNone (Ex.mk uo ut uv un uk))):=by
 refine eN [xV uo ut uv un uf uk.length ug] Tryz.func249 (fun γ0 hγ0=>?_)
 refine rs [7] 60 0 ?_
 by_cases h1:uo=0
 rotate_left
 ·
  refine gF 5 uo 0 h1 ?_
  refine gF 6 uo 0 h1 ?_
  refine rs [] 60 3 ?_
  refine gR (.bool false) (fun W hk=>⟨?_,hk.below⟩)
  simp [exNone,h1]
 refine gT 5 uo 0 h1 ?_
 refine gT 6 uo 0 h1 ?_
 refine rk ?_
 have hv:=zeroB ut uv
 cases h2:vEq ut uv 0 0 with
 | false=>
   rw [h2] at hv
   refine gX [.agg #[n8 ut,n6 uv]] (.bool false) (fun W hk=>by rw [← h2];exact zero_any _ _ W) ?_
   refine rs [] 60 3 ?_
   refine gR (.bool false) (fun W hk=>⟨?_,hk.below⟩)
   have hx:exNone (Ex.mk uo ut uv un uk)=false:=by
    simp only [exNone,decide_eq_false_iff_not]
    rintro ⟨_,h3,h4,_⟩
    exact of_decide_eq_false hv.symm ⟨h3,h4⟩
   rw [hx]
 | true=>
   rw [h2] at hv
   obtain ⟨hv1,hv2⟩:=of_decide_eq_true hv.symm
   refine gX [.agg #[n8 ut,n6 uv]] (.bool true) (fun W hk=>by rw [← h2];exact zero_any _ _ W) ?_
   refine rs [17] 60 0 ?_
   by_cases h3:un=[]
   rotate_left
   ·
    refine gS 14 (x := .bool (bEqL un [])) (.bool false) (by rw [bEqL_eq];simp [h3]) ?_
    refine gS 15 (x := .bool (bEqL un [])) (.bool false) (by rw [bEqL_eq];simp [h3]) ?_
    refine gS 16 (x := .bool (bEqL un [])) (.bool false) (by rw [bEqL_eq];simp [h3]) ?_
    refine rs [] 60 3 ?_
    refine gR (.bool false) (fun W hk=>⟨?_,hk.below⟩)
    simp [exNone,h3]
   refine gS 14 (x := .bool (bEqL un [])) (.bool true) (by rw [bEqL_eq];simp [h3]) ?_
   refine gS 15 (x := .bool (bEqL un [])) (.bool true) (by rw [bEqL_eq];simp [h3]) ?_
   refine gS 16 (x := .bool (bEqL un [])) (.bool true) (by rw [bEqL_eq];simp [h3]) ?_
   refine rk ?_
   refine gR (.bool (intEq (uk.length:Int) 0)) (fun W hk=>⟨?_,hk.below⟩)
   rw [intEq_eq]
   simp [exNone,h1,hv1,hv2,h3]
end
section
set_option maxRecDepth 100000
theorem okS_other (deep:Nat) (k:Int) (name:List UInt8) (e:Ex) (body els:List St) (hk:¬ (1≤k∧k≤7)):okS deep (.mk k name e body els)=false:=by
 unfold okS
 simp only [stT]
 rw [if_neg (show ¬ k=1 by omega),if_neg (show ¬ k=2 by omega),if_neg (show ¬ k=3 by omega),if_neg (show ¬ k=4 by omega),if_neg (show ¬ k=7 by omega),if_neg (show ¬ (k=5∨k=6) by omega)]
 rfl
theorem nameB_nil {s:List UInt8} (h:nameB s=true):Sy.bEqL s []=false:=by
 rw [← Bool.not_eq_true,bEq_nil]
 intro h2
 subst h2
 exact absurd h (by decide)
def BlkC (N:Nat):Prop:=∀ (L:List St) (a:Option Addr) (n cap:Nat) (xs:List Value) (deep:Nat) (w:World),n=L.length→swts L<N→swts L≤1000000000000→deep≤1000000000000+32 - swts L→stBs L≤1000000000000→stRs L→Tab w→Sy.SlAt (·<w.heap.size) w a n 9 xs→LsAt (StAt (·<w.heap.size) w) L xs→
    CB 205 #[.slice a n cap,.int .i64 (deep:Int)] w (.bool (okB deep L))
open Go.Sy
theorem tstmt1_of (N:Nat) (ih:BlkC N)
  (us:List UInt8) (uo ut uv:Int) (un:List UInt8) (uk:List Ex) (uB uL:List St) (uj ui uf:Option Addr) (uh uw ug deep:Nat) (ubx ulx:List Value) (w:World)
  (hN:swt (St.mk 1 us (Ex.mk uo ut uv un uk) uB uL)≤N) (hbd:swt (St.mk 1 us (Ex.mk uo ut uv un uk) uB uL)≤1000000000000) (hdeep:deep≤1000000000000+32 - swt (St.mk 1 us (Ex.mk uo ut uv un uk) uB uL)) (hB:stB (St.mk 1 us (Ex.mk uo ut uv un uk) uB uL)≤1000000000000) (hR:stR (St.mk 1 us (Ex.mk uo ut uv un uk) uB uL)) (ht:Tab w) (uhe:ExAt (·<w.heap.size) w (Ex.mk uo ut uv un uk) (xL uo ut uv un uf uk.length ug))
  (uhbs:SlAt (·<w.heap.size) w uj uB.length 9 ubx) (uhbt:StsAt (·<w.heap.size) w uB ubx) (uhls:SlAt (·<w.heap.size) w ui uL.length 9 ulx) (uhlt:StsAt (·<w.heap.size) w uL ulx):
  CB 236 #[yV 1 us uo ut uv un uf uk.length ug uj uB.length uh ui uL.length uw,nI (deep:Int)] w (.bool (okS deep (St.mk 1 us (Ex.mk uo ut uv un uk) uB uL))):=by
 simp only [swt] at hN hbd hdeep
 simp only [stB] at hB
 simp only [stR] at hR
 obtain ⟨hRk,hRe,hRubody,hRuels⟩:=hR
 have hnm:us.length≤maxLen:=by unfold maxLen;omega
 refine eN [yV 1 us uo ut uv un uf uk.length ug uj uB.length uh ui uL.length uw,nI (deep:Int)] Tryz.func236 (fun γ0 hγ0=>?_)
 refine rk ?_
 cases hn:nameB us with
 | false=>
   refine gP [nT us] (.bool false) (fun W hk=>by rw [← hn];exact name_any us W hnm) ?_
   refine rs [] 60 6 ?_
   refine gR (.bool false) (fun W hk=>⟨?_,hk.below⟩)
   rw [okS_mk _ _ _ _ _ _ (by decide)]
   simp [hn]
 | true=>
   refine gP [nT us] (.bool true) (fun W hk=>by rw [← hn];exact name_any us W hnm) ?_
   refine rs [] 60 3 ?_
   refine gE [xV uo ut uv un uf uk.length ug,nI 32] (fun v=>∃ h,v = .tuple #[nI h,.bool (okE 32 (Ex.mk uo ut uv un uk))]) (fun W hk=>(texpr_any _ (Ex.mk uo ut uv un uk) (xL uo ut uv un uf uk.length ug) 32 W (Nat.le_refl _) (by omega) (by decide) (by omega) hRe (ht.below (Keep.below hk)) (uhe.keep hk (kU hk))).mono fun e w' ⟨h,h1,h2,h3⟩=>⟨_,h1,⟨h,rfl⟩,h3⟩) ?_
   rintro v w2 ⟨h,rfl⟩ hk2
   cases hx:okE 32 (Ex.mk uo ut uv un uk) with
   | false=>
     refine rs [] 60 6 ?_
     refine gR (.bool false) (fun W hk=>⟨?_,hk.below⟩)
     rw [okS_mk _ _ _ _ _ _ (by decide)]
     simp [hx]
   | true=>
     refine rs [87] 60 2 ?_
     by_cases h4:uL.length=0
     rotate_left
     ·
      refine zx 84 0 (uL.length:Int) (by omega) ?_
      refine zx 85 0 (uL.length:Int) (by omega) ?_
      refine zx 86 0 (uL.length:Int) (by omega) ?_
      refine rs [] 60 6 ?_
      refine gR (.bool false) (fun W hk=>⟨?_,hk.below⟩)
      rw [okS_mk _ _ _ _ _ _ (by decide)]
      simp [h4]
     refine zy 84 0 (uL.length:Int) (by omega) ?_
     refine zy 85 0 (uL.length:Int) (by omega) ?_
     refine zy 86 0 (uL.length:Int) (by omega) ?_
     refine rk ?_
     by_cases h5:uB.length=0
     rotate_left
     ·
      refine kx 0 (uB.length:Int) (by omega) ?_
      refine rs [] 60 6 ?_
      refine gR (.bool false) (fun W hk=>⟨?_,hk.below⟩)
      rw [okS_mk _ _ _ _ _ _ (by decide)]
      simp [h5]
     refine ky 0 (uB.length:Int) (by omega) ?_
     refine rk ?_
     refine gS 105 (x:=nI (wrapF .i64 ((deep:Int)+1))) (nI ((deep+1:Nat):Int)) (by rw [wr64 (by omega) (by omega)];congr 1) ?_
     cases hubody:okB (deep+1) uB with
     | false=>
       refine gX [.slice uj uB.length uh,nI ((deep+1:Nat):Int)] (.bool false) (fun W hk=>by rw [← hubody];exact ih uB _ _ _ _ (deep+1) W rfl (by omega) (by omega) (by omega) (by omega) hRubody (ht.below (Keep.below hk)) ((uhbs.keep hk).mono (kU hk)) (StsAt_ls.1 (uhbt.keep hk (kU hk)))) ?_
       refine rs [] 60 6 ?_
       refine gR (.bool false) (fun W hk=>⟨?_,hk.below⟩)
       rw [okS_mk _ _ _ _ _ _ (by decide)]
       simp [hubody]
     | true=>
       refine gX [.slice uj uB.length uh,nI ((deep+1:Nat):Int)] (.bool true) (fun W hk=>by rw [← hubody];exact ih uB _ _ _ _ (deep+1) W rfl (by omega) (by omega) (by omega) (by omega) hRubody (ht.below (Keep.below hk)) ((uhbs.keep hk).mono (kU hk)) (StsAt_ls.1 (uhbt.keep hk (kU hk)))) ?_
       refine rs [] 60 2 ?_
       refine gS 111 (x:=nI (wrapF .i64 ((deep:Int)+1))) (nI ((deep+1:Nat):Int)) (by rw [wr64 (by omega) (by omega)];congr 1) ?_
       obtain ⟨bl,huels⟩:∃ b,b=okB (deep+1) uL:=⟨_,rfl⟩
       refine gX [.slice ui uL.length uw,nI ((deep+1:Nat):Int)] (.bool bl) (fun W hk=>by rw [huels];exact ih uL _ _ _ _ (deep+1) W rfl (by omega) (by omega) (by omega) (by omega) hRuels (ht.below (Keep.below hk)) ((uhls.keep hk).mono (kU hk)) (StsAt_ls.1 (uhlt.keep hk (kU hk)))) ?_
       refine rs [] 60 2 ?_
       refine gR (.bool bl) (fun W hk=>⟨?_,hk.below⟩)
       rw [okS_mk _ _ _ _ _ _ (by decide)]
       simp [hn,hx,h4,h5,hubody,huels]
theorem tstmt23_of (N:Nat) (ih:BlkC N)
  (uK:Int) (us:List UInt8) (uo ut uv:Int) (un:List UInt8) (uk:List Ex) (uB uL:List St) (uj ui uf:Option Addr) (uh uw ug deep:Nat) (ubx ulx:List Value) (w:World)
  (hN:swt (St.mk uK us (Ex.mk uo ut uv un uk) uB uL)≤N) (hbd:swt (St.mk uK us (Ex.mk uo ut uv un uk) uB uL)≤1000000000000) (hdeep:deep≤1000000000000+32 - swt (St.mk uK us (Ex.mk uo ut uv un uk) uB uL)) (hB:stB (St.mk uK us (Ex.mk uo ut uv un uk) uB uL)≤1000000000000) (hR:stR (St.mk uK us (Ex.mk uo ut uv un uk) uB uL)) (ht:Tab w) (uhe:ExAt (·<w.heap.size) w (Ex.mk uo ut uv un uk) (xL uo ut uv un uf uk.length ug))
  (uhbs:SlAt (·<w.heap.size) w uj uB.length 9 ubx) (uhbt:StsAt (·<w.heap.size) w uB ubx) (uhls:SlAt (·<w.heap.size) w ui uL.length 9 ulx) (uhlt:StsAt (·<w.heap.size) w uL ulx) (hk:uK=2∨uK=3):
  CB 236 #[yV uK us uo ut uv un uf uk.length ug uj uB.length uh ui uL.length uw,nI (deep:Int)] w (.bool (okS deep (St.mk uK us (Ex.mk uo ut uv un uk) uB uL))):=by
 simp only [swt] at hN hbd hdeep
 simp only [stB] at hB
 simp only [stR] at hR
 obtain ⟨hRk,hRe,hRubody,hRuels⟩:=hR
 have hnm:us.length≤maxLen:=by unfold maxLen;omega
 rcases hk with rfl | rfl
 all_goals
  refine eN [yV _ us uo ut uv un uf uk.length ug uj uB.length uh ui uL.length uw,nI (deep:Int)] Tryz.func236 (fun γ0 hγ0=>?_)
  refine rk ?_
  cases hn:nameB us with
  | false=>
    refine gP [nT us] (.bool false) (fun W hk=>by rw [← hn];exact name_any us W hnm) ?_
    refine rs [] 60 6 ?_
    refine gR (.bool false) (fun W hk=>⟨?_,hk.below⟩)
    rw [okS_mk _ _ _ _ _ _ (by decide)]
    simp [hn]
  | true=>
    refine gP [nT us] (.bool true) (fun W hk=>by rw [← hn];exact name_any us W hnm) ?_
    refine rs [] 60 3 ?_
    cases hx:exNone (Ex.mk uo ut uv un uk) with
    | false=>
      refine gX [xV uo ut uv un uf uk.length ug] (.bool false) (fun W hk=>by rw [← hx];exact plain_any uo ut uv un uk uf ug W) ?_
      refine rs [] 60 6 ?_
      refine gR (.bool false) (fun W hk=>⟨?_,hk.below⟩)
      rw [okS_mk _ _ _ _ _ _ (by decide)]
      simp [hx]
    | true=>
      refine gX [xV uo ut uv un uf uk.length ug] (.bool true) (fun W hk=>by rw [← hx];exact plain_any uo ut uv un uk uf ug W) ?_
      refine rs [87] 60 2 ?_
      by_cases h4:uL.length=0
      rotate_left
      ·
       refine zx 84 0 (uL.length:Int) (by omega) ?_
       refine zx 85 0 (uL.length:Int) (by omega) ?_
       refine zx 86 0 (uL.length:Int) (by omega) ?_
       refine rs [] 60 6 ?_
       refine gR (.bool false) (fun W hk=>⟨?_,hk.below⟩)
       rw [okS_mk _ _ _ _ _ _ (by decide)]
       simp [h4]
      refine zy 84 0 (uL.length:Int) (by omega) ?_
      refine zy 85 0 (uL.length:Int) (by omega) ?_
      refine zy 86 0 (uL.length:Int) (by omega) ?_
      refine rk ?_
      by_cases h5:uB.length=0
      rotate_left
      ·
       refine kx 0 (uB.length:Int) (by omega) ?_
       refine rs [] 60 6 ?_
       refine gR (.bool false) (fun W hk=>⟨?_,hk.below⟩)
       rw [okS_mk _ _ _ _ _ _ (by decide)]
       simp [h5]
      refine ky 0 (uB.length:Int) (by omega) ?_
      refine rk ?_
      refine gS 105 (x:=nI (wrapF .i64 ((deep:Int)+1))) (nI ((deep+1:Nat):Int)) (by rw [wr64 (by omega) (by omega)];congr 1) ?_
      cases hubody:okB (deep+1) uB with
      | false=>
        refine gX [.slice uj uB.length uh,nI ((deep+1:Nat):Int)] (.bool false) (fun W hk=>by rw [← hubody];exact ih uB _ _ _ _ (deep+1) W rfl (by omega) (by omega) (by omega) (by omega) hRubody (ht.below (Keep.below hk)) ((uhbs.keep hk).mono (kU hk)) (StsAt_ls.1 (uhbt.keep hk (kU hk)))) ?_
        refine rs [] 60 6 ?_
        refine gR (.bool false) (fun W hk=>⟨?_,hk.below⟩)
        rw [okS_mk _ _ _ _ _ _ (by decide)]
        simp [hubody]
      | true=>
        refine gX [.slice uj uB.length uh,nI ((deep+1:Nat):Int)] (.bool true) (fun W hk=>by rw [← hubody];exact ih uB _ _ _ _ (deep+1) W rfl (by omega) (by omega) (by omega) (by omega) hRubody (ht.below (Keep.below hk)) ((uhbs.keep hk).mono (kU hk)) (StsAt_ls.1 (uhbt.keep hk (kU hk)))) ?_
        refine rs [] 60 2 ?_
        refine gS 111 (x:=nI (wrapF .i64 ((deep:Int)+1))) (nI ((deep+1:Nat):Int)) (by rw [wr64 (by omega) (by omega)];congr 1) ?_
        obtain ⟨bl,huels⟩:∃ b,b=okB (deep+1) uL:=⟨_,rfl⟩
        refine gX [.slice ui uL.length uw,nI ((deep+1:Nat):Int)] (.bool bl) (fun W hk=>by rw [huels];exact ih uL _ _ _ _ (deep+1) W rfl (by omega) (by omega) (by omega) (by omega) hRuels (ht.below (Keep.below hk)) ((uhls.keep hk).mono (kU hk)) (StsAt_ls.1 (uhlt.keep hk (kU hk)))) ?_
        refine rs [] 60 2 ?_
        refine gR (.bool bl) (fun W hk=>⟨?_,hk.below⟩)
        rw [okS_mk _ _ _ _ _ _ (by decide)]
        simp [hn,hx,h4,h5,hubody,huels]
theorem tstmt4_of (N:Nat) (ih:BlkC N)
  (us:List UInt8) (uo ut uv:Int) (un:List UInt8) (uk:List Ex) (uB uL:List St) (uj ui uf:Option Addr) (uh uw ug deep:Nat) (ubx ulx:List Value) (w:World)
  (hN:swt (St.mk 4 us (Ex.mk uo ut uv un uk) uB uL)≤N) (hbd:swt (St.mk 4 us (Ex.mk uo ut uv un uk) uB uL)≤1000000000000) (hdeep:deep≤1000000000000+32 - swt (St.mk 4 us (Ex.mk uo ut uv un uk) uB uL)) (hB:stB (St.mk 4 us (Ex.mk uo ut uv un uk) uB uL)≤1000000000000) (hR:stR (St.mk 4 us (Ex.mk uo ut uv un uk) uB uL)) (ht:Tab w) (uhe:ExAt (·<w.heap.size) w (Ex.mk uo ut uv un uk) (xL uo ut uv un uf uk.length ug))
  (uhbs:SlAt (·<w.heap.size) w uj uB.length 9 ubx) (uhbt:StsAt (·<w.heap.size) w uB ubx) (uhls:SlAt (·<w.heap.size) w ui uL.length 9 ulx) (uhlt:StsAt (·<w.heap.size) w uL ulx):
  CB 236 #[yV 4 us uo ut uv un uf uk.length ug uj uB.length uh ui uL.length uw,nI (deep:Int)] w (.bool (okS deep (St.mk 4 us (Ex.mk uo ut uv un uk) uB uL))):=by
 simp only [swt] at hN hbd hdeep
 simp only [stB] at hB
 simp only [stR] at hR
 obtain ⟨hRk,hRe,hRubody,hRuels⟩:=hR
 have hnm:us.length≤maxLen:=by unfold maxLen;omega
 refine eN [yV 4 us uo ut uv un uf uk.length ug uj uB.length uh ui uL.length uw,nI (deep:Int)] Tryz.func236 (fun γ0 hγ0=>?_)
 refine rk ?_
 cases hn:nameB us with
 | true=>
   refine gP [nT us] (.bool true) (fun W hk=>by rw [← hn];exact name_any us W hnm) ?_
   refine rs [] 60 6 ?_
   refine gR (.bool false) (fun W hk=>⟨?_,hk.below⟩)
   rw [okS_mk _ _ _ _ _ _ (by decide)]
   simp [nameB_nil hn]
 | false=>
   refine gP [nT us] (.bool false) (fun W hk=>by rw [← hn];exact name_any us W hnm) ?_
   refine rk ?_
   cases hm:bEqL us [] with
   | false=>
     refine gK true (b:=!(bEqL us [])) (by rw [hm];rfl) ?_
     refine rs [] 60 6 ?_
     refine gR (.bool false) (fun W hk=>⟨?_,hk.below⟩)
     rw [okS_mk _ _ _ _ _ _ (by decide)]
     simp [hm]
   | true=>
     refine gK false (b:=!(bEqL us [])) (by rw [hm];rfl) ?_
     refine rs [] 60 3 ?_
     refine gE [xV uo ut uv un uf uk.length ug,nI 32] (fun v=>∃ h,v = .tuple #[nI h,.bool (okE 32 (Ex.mk uo ut uv un uk))]) (fun W hk=>(texpr_any _ (Ex.mk uo ut uv un uk) (xL uo ut uv un uf uk.length ug) 32 W (Nat.le_refl _) (by omega) (by decide) (by omega) hRe (ht.below (Keep.below hk)) (uhe.keep hk (kU hk))).mono fun e w' ⟨h,h1,h2,h3⟩=>⟨_,h1,⟨h,rfl⟩,h3⟩) ?_
     rintro v w2 ⟨h,rfl⟩ hk2
     cases hx:okE 32 (Ex.mk uo ut uv un uk) with
     | false=>
       refine rs [] 60 6 ?_
       refine gR (.bool false) (fun W hk=>⟨?_,hk.below⟩)
       rw [okS_mk _ _ _ _ _ _ (by decide)]
       simp [hx]
     | true=>
       refine rs [87] 60 2 ?_
       by_cases h4:uL.length=0
       rotate_left
       ·
        refine zx 84 0 (uL.length:Int) (by omega) ?_
        refine zx 85 0 (uL.length:Int) (by omega) ?_
        refine zx 86 0 (uL.length:Int) (by omega) ?_
        refine rs [] 60 6 ?_
        refine gR (.bool false) (fun W hk=>⟨?_,hk.below⟩)
        rw [okS_mk _ _ _ _ _ _ (by decide)]
        simp [h4]
       refine zy 84 0 (uL.length:Int) (by omega) ?_
       refine zy 85 0 (uL.length:Int) (by omega) ?_
       refine zy 86 0 (uL.length:Int) (by omega) ?_
       refine rk ?_
       by_cases h5:uB.length=0
       rotate_left
       ·
        refine kx 0 (uB.length:Int) (by omega) ?_
        refine rs [] 60 6 ?_
        refine gR (.bool false) (fun W hk=>⟨?_,hk.below⟩)
        rw [okS_mk _ _ _ _ _ _ (by decide)]
        simp [h5]
       refine ky 0 (uB.length:Int) (by omega) ?_
       refine rk ?_
       refine gS 105 (x:=nI (wrapF .i64 ((deep:Int)+1))) (nI ((deep+1:Nat):Int)) (by rw [wr64 (by omega) (by omega)];congr 1) ?_
       cases hubody:okB (deep+1) uB with
       | false=>
         refine gX [.slice uj uB.length uh,nI ((deep+1:Nat):Int)] (.bool false) (fun W hk=>by rw [← hubody];exact ih uB _ _ _ _ (deep+1) W rfl (by omega) (by omega) (by omega) (by omega) hRubody (ht.below (Keep.below hk)) ((uhbs.keep hk).mono (kU hk)) (StsAt_ls.1 (uhbt.keep hk (kU hk)))) ?_
         refine rs [] 60 6 ?_
         refine gR (.bool false) (fun W hk=>⟨?_,hk.below⟩)
         rw [okS_mk _ _ _ _ _ _ (by decide)]
         simp [hubody]
       | true=>
         refine gX [.slice uj uB.length uh,nI ((deep+1:Nat):Int)] (.bool true) (fun W hk=>by rw [← hubody];exact ih uB _ _ _ _ (deep+1) W rfl (by omega) (by omega) (by omega) (by omega) hRubody (ht.below (Keep.below hk)) ((uhbs.keep hk).mono (kU hk)) (StsAt_ls.1 (uhbt.keep hk (kU hk)))) ?_
         refine rs [] 60 2 ?_
         refine gS 111 (x:=nI (wrapF .i64 ((deep:Int)+1))) (nI ((deep+1:Nat):Int)) (by rw [wr64 (by omega) (by omega)];congr 1) ?_
         obtain ⟨bl,huels⟩:∃ b,b=okB (deep+1) uL:=⟨_,rfl⟩
         refine gX [.slice ui uL.length uw,nI ((deep+1:Nat):Int)] (.bool bl) (fun W hk=>by rw [huels];exact ih uL _ _ _ _ (deep+1) W rfl (by omega) (by omega) (by omega) (by omega) hRuels (ht.below (Keep.below hk)) ((uhls.keep hk).mono (kU hk)) (StsAt_ls.1 (uhlt.keep hk (kU hk)))) ?_
         refine rs [] 60 2 ?_
         refine gR (.bool bl) (fun W hk=>⟨?_,hk.below⟩)
         rw [okS_mk _ _ _ _ _ _ (by decide)]
         simp [hm,hx,h4,h5,hubody,huels]
theorem tstmt5_of (N:Nat) (ih:BlkC N)
  (us:List UInt8) (uo ut uv:Int) (un:List UInt8) (uk:List Ex) (uB uL:List St) (uj ui uf:Option Addr) (uh uw ug deep:Nat) (ubx ulx:List Value) (w:World)
  (hN:swt (St.mk 5 us (Ex.mk uo ut uv un uk) uB uL)≤N) (hbd:swt (St.mk 5 us (Ex.mk uo ut uv un uk) uB uL)≤1000000000000) (hdeep:deep≤1000000000000+32 - swt (St.mk 5 us (Ex.mk uo ut uv un uk) uB uL)) (hB:stB (St.mk 5 us (Ex.mk uo ut uv un uk) uB uL)≤1000000000000) (hR:stR (St.mk 5 us (Ex.mk uo ut uv un uk) uB uL)) (ht:Tab w) (uhe:ExAt (·<w.heap.size) w (Ex.mk uo ut uv un uk) (xL uo ut uv un uf uk.length ug))
  (uhbs:SlAt (·<w.heap.size) w uj uB.length 9 ubx) (uhbt:StsAt (·<w.heap.size) w uB ubx) (uhls:SlAt (·<w.heap.size) w ui uL.length 9 ulx) (uhlt:StsAt (·<w.heap.size) w uL ulx):
  CB 236 #[yV 5 us uo ut uv un uf uk.length ug uj uB.length uh ui uL.length uw,nI (deep:Int)] w (.bool (okS deep (St.mk 5 us (Ex.mk uo ut uv un uk) uB uL))):=by
 simp only [swt] at hN hbd hdeep
 simp only [stB] at hB
 simp only [stR] at hR
 obtain ⟨hRk,hRe,hRubody,hRuels⟩:=hR
 have hnm:us.length≤maxLen:=by unfold maxLen;omega
 refine eN [yV 5 us uo ut uv un uf uk.length ug uj uB.length uh ui uL.length uw,nI (deep:Int)] Tryz.func236 (fun γ0 hγ0=>?_)
 refine rk ?_
 cases hn:nameB us with
 | true=>
   refine gP [nT us] (.bool true) (fun W hk=>by rw [← hn];exact name_any us W hnm) ?_
   refine rs [] 60 6 ?_
   refine gR (.bool false) (fun W hk=>⟨?_,hk.below⟩)
   rw [okS_mk _ _ _ _ _ _ (by decide)]
   simp [nameB_nil hn]
 | false=>
   refine gP [nT us] (.bool false) (fun W hk=>by rw [← hn];exact name_any us W hnm) ?_
   refine rk ?_
   cases hm:bEqL us [] with
   | false=>
     refine gK true (b:=!(bEqL us [])) (by rw [hm];rfl) ?_
     refine rs [] 60 6 ?_
     refine gR (.bool false) (fun W hk=>⟨?_,hk.below⟩)
     rw [okS_mk _ _ _ _ _ _ (by decide)]
     simp [hm]
   | true=>
     refine gK false (b:=!(bEqL us [])) (by rw [hm];rfl) ?_
     refine rs [] 60 3 ?_
     refine gE [xV uo ut uv un uf uk.length ug,nI 32] (fun v=>∃ h,v = .tuple #[nI h,.bool (okE 32 (Ex.mk uo ut uv un uk))]) (fun W hk=>(texpr_any _ (Ex.mk uo ut uv un uk) (xL uo ut uv un uf uk.length ug) 32 W (Nat.le_refl _) (by omega) (by decide) (by omega) hRe (ht.below (Keep.below hk)) (uhe.keep hk (kU hk))).mono fun e w' ⟨h,h1,h2,h3⟩=>⟨_,h1,⟨h,rfl⟩,h3⟩) ?_
     rintro v w2 ⟨h,rfl⟩ hk2
     cases hx:okE 32 (Ex.mk uo ut uv un uk) with
     | false=>
       refine rs [] 60 6 ?_
       refine gR (.bool false) (fun W hk=>⟨?_,hk.below⟩)
       rw [okS_mk _ _ _ _ _ _ (by decide)]
       simp [hx]
     | true=>
       refine rs [] 60 3 ?_
       refine gS 105 (x:=nI (wrapF .i64 ((deep:Int)+1))) (nI ((deep+1:Nat):Int)) (by rw [wr64 (by omega) (by omega)];congr 1) ?_
       cases hubody:okB (deep+1) uB with
       | false=>
         refine gX [.slice uj uB.length uh,nI ((deep+1:Nat):Int)] (.bool false) (fun W hk=>by rw [← hubody];exact ih uB _ _ _ _ (deep+1) W rfl (by omega) (by omega) (by omega) (by omega) hRubody (ht.below (Keep.below hk)) ((uhbs.keep hk).mono (kU hk)) (StsAt_ls.1 (uhbt.keep hk (kU hk)))) ?_
         refine rs [] 60 6 ?_
         refine gR (.bool false) (fun W hk=>⟨?_,hk.below⟩)
         rw [okS_mk _ _ _ _ _ _ (by decide)]
         simp [hubody]
       | true=>
         refine gX [.slice uj uB.length uh,nI ((deep+1:Nat):Int)] (.bool true) (fun W hk=>by rw [← hubody];exact ih uB _ _ _ _ (deep+1) W rfl (by omega) (by omega) (by omega) (by omega) hRubody (ht.below (Keep.below hk)) ((uhbs.keep hk).mono (kU hk)) (StsAt_ls.1 (uhbt.keep hk (kU hk)))) ?_
         refine rs [] 60 2 ?_
         refine gS 111 (x:=nI (wrapF .i64 ((deep:Int)+1))) (nI ((deep+1:Nat):Int)) (by rw [wr64 (by omega) (by omega)];congr 1) ?_
         obtain ⟨bl,huels⟩:∃ b,b=okB (deep+1) uL:=⟨_,rfl⟩
         refine gX [.slice ui uL.length uw,nI ((deep+1:Nat):Int)] (.bool bl) (fun W hk=>by rw [huels];exact ih uL _ _ _ _ (deep+1) W rfl (by omega) (by omega) (by omega) (by omega) hRuels (ht.below (Keep.below hk)) ((uhls.keep hk).mono (kU hk)) (StsAt_ls.1 (uhlt.keep hk (kU hk)))) ?_
         refine rs [] 60 2 ?_
         refine gR (.bool bl) (fun W hk=>⟨?_,hk.below⟩)
         rw [okS_mk _ _ _ _ _ _ (by decide)]
         simp [hm,hx,hubody,huels]
theorem tstmt6_of (N:Nat) (ih:BlkC N)
  (us:List UInt8) (uo ut uv:Int) (un:List UInt8) (uk:List Ex) (uB uL:List St) (uj ui uf:Option Addr) (uh uw ug deep:Nat) (ubx ulx:List Value) (w:World)
  (hN:swt (St.mk 6 us (Ex.mk uo ut uv un uk) uB uL)≤N) (hbd:swt (St.mk 6 us (Ex.mk uo ut uv un uk) uB uL)≤1000000000000) (hdeep:deep≤1000000000000+32 - swt (St.mk 6 us (Ex.mk uo ut uv un uk) uB uL)) (hB:stB (St.mk 6 us (Ex.mk uo ut uv un uk) uB uL)≤1000000000000) (hR:stR (St.mk 6 us (Ex.mk uo ut uv un uk) uB uL)) (ht:Tab w) (uhe:ExAt (·<w.heap.size) w (Ex.mk uo ut uv un uk) (xL uo ut uv un uf uk.length ug))
  (uhbs:SlAt (·<w.heap.size) w uj uB.length 9 ubx) (uhbt:StsAt (·<w.heap.size) w uB ubx) (uhls:SlAt (·<w.heap.size) w ui uL.length 9 ulx) (uhlt:StsAt (·<w.heap.size) w uL ulx):
  CB 236 #[yV 6 us uo ut uv un uf uk.length ug uj uB.length uh ui uL.length uw,nI (deep:Int)] w (.bool (okS deep (St.mk 6 us (Ex.mk uo ut uv un uk) uB uL))):=by
 simp only [swt] at hN hbd hdeep
 simp only [stB] at hB
 simp only [stR] at hR
 obtain ⟨hRk,hRe,hRubody,hRuels⟩:=hR
 have hnm:us.length≤maxLen:=by unfold maxLen;omega
 refine eN [yV 6 us uo ut uv un uf uk.length ug uj uB.length uh ui uL.length uw,nI (deep:Int)] Tryz.func236 (fun γ0 hγ0=>?_)
 refine rk ?_
 cases hn:nameB us with
 | true=>
   refine gP [nT us] (.bool true) (fun W hk=>by rw [← hn];exact name_any us W hnm) ?_
   refine rs [] 60 6 ?_
   refine gR (.bool false) (fun W hk=>⟨?_,hk.below⟩)
   rw [okS_mk _ _ _ _ _ _ (by decide)]
   simp [nameB_nil hn]
 | false=>
   refine gP [nT us] (.bool false) (fun W hk=>by rw [← hn];exact name_any us W hnm) ?_
   refine rk ?_
   cases hm:bEqL us [] with
   | false=>
     refine gK true (b:=!(bEqL us [])) (by rw [hm];rfl) ?_
     refine rs [] 60 6 ?_
     refine gR (.bool false) (fun W hk=>⟨?_,hk.below⟩)
     rw [okS_mk _ _ _ _ _ _ (by decide)]
     simp [hm]
   | true=>
     refine gK false (b:=!(bEqL us [])) (by rw [hm];rfl) ?_
     refine rs [] 60 3 ?_
     refine gE [xV uo ut uv un uf uk.length ug,nI 32] (fun v=>∃ h,v = .tuple #[nI h,.bool (okE 32 (Ex.mk uo ut uv un uk))]) (fun W hk=>(texpr_any _ (Ex.mk uo ut uv un uk) (xL uo ut uv un uf uk.length ug) 32 W (Nat.le_refl _) (by omega) (by decide) (by omega) hRe (ht.below (Keep.below hk)) (uhe.keep hk (kU hk))).mono fun e w' ⟨h,h1,h2,h3⟩=>⟨_,h1,⟨h,rfl⟩,h3⟩) ?_
     rintro v w2 ⟨h,rfl⟩ hk2
     cases hx:okE 32 (Ex.mk uo ut uv un uk) with
     | false=>
       refine rs [] 60 6 ?_
       refine gR (.bool false) (fun W hk=>⟨?_,hk.below⟩)
       rw [okS_mk _ _ _ _ _ _ (by decide)]
       simp [hx]
     | true=>
       refine rs [87] 60 2 ?_
       by_cases h4:uL.length=0
       rotate_left
       ·
        refine zx 84 0 (uL.length:Int) (by omega) ?_
        refine zx 85 0 (uL.length:Int) (by omega) ?_
        refine zx 86 0 (uL.length:Int) (by omega) ?_
        refine rs [] 60 6 ?_
        refine gR (.bool false) (fun W hk=>⟨?_,hk.below⟩)
        rw [okS_mk _ _ _ _ _ _ (by decide)]
        simp [h4]
       refine zy 84 0 (uL.length:Int) (by omega) ?_
       refine zy 85 0 (uL.length:Int) (by omega) ?_
       refine zy 86 0 (uL.length:Int) (by omega) ?_
       refine rs [] 60 2 ?_
       refine gS 105 (x:=nI (wrapF .i64 ((deep:Int)+1))) (nI ((deep+1:Nat):Int)) (by rw [wr64 (by omega) (by omega)];congr 1) ?_
       cases hubody:okB (deep+1) uB with
       | false=>
         refine gX [.slice uj uB.length uh,nI ((deep+1:Nat):Int)] (.bool false) (fun W hk=>by rw [← hubody];exact ih uB _ _ _ _ (deep+1) W rfl (by omega) (by omega) (by omega) (by omega) hRubody (ht.below (Keep.below hk)) ((uhbs.keep hk).mono (kU hk)) (StsAt_ls.1 (uhbt.keep hk (kU hk)))) ?_
         refine rs [] 60 6 ?_
         refine gR (.bool false) (fun W hk=>⟨?_,hk.below⟩)
         rw [okS_mk _ _ _ _ _ _ (by decide)]
         simp [hubody]
       | true=>
         refine gX [.slice uj uB.length uh,nI ((deep+1:Nat):Int)] (.bool true) (fun W hk=>by rw [← hubody];exact ih uB _ _ _ _ (deep+1) W rfl (by omega) (by omega) (by omega) (by omega) hRubody (ht.below (Keep.below hk)) ((uhbs.keep hk).mono (kU hk)) (StsAt_ls.1 (uhbt.keep hk (kU hk)))) ?_
         refine rs [] 60 2 ?_
         refine gS 111 (x:=nI (wrapF .i64 ((deep:Int)+1))) (nI ((deep+1:Nat):Int)) (by rw [wr64 (by omega) (by omega)];congr 1) ?_
         obtain ⟨bl,huels⟩:∃ b,b=okB (deep+1) uL:=⟨_,rfl⟩
         refine gX [.slice ui uL.length uw,nI ((deep+1:Nat):Int)] (.bool bl) (fun W hk=>by rw [huels];exact ih uL _ _ _ _ (deep+1) W rfl (by omega) (by omega) (by omega) (by omega) hRuels (ht.below (Keep.below hk)) ((uhls.keep hk).mono (kU hk)) (StsAt_ls.1 (uhlt.keep hk (kU hk)))) ?_
         refine rs [] 60 2 ?_
         refine gR (.bool bl) (fun W hk=>⟨?_,hk.below⟩)
         rw [okS_mk _ _ _ _ _ _ (by decide)]
         simp [hm,hx,h4,hubody,huels]
theorem tstmt7_of (N:Nat) (ih:BlkC N)
  (us:List UInt8) (uo ut uv:Int) (un:List UInt8) (uk:List Ex) (uB uL:List St) (uj ui uf:Option Addr) (uh uw ug deep:Nat) (ubx ulx:List Value) (w:World)
  (hN:swt (St.mk 7 us (Ex.mk uo ut uv un uk) uB uL)≤N) (hbd:swt (St.mk 7 us (Ex.mk uo ut uv un uk) uB uL)≤1000000000000) (hdeep:deep≤1000000000000+32 - swt (St.mk 7 us (Ex.mk uo ut uv un uk) uB uL)) (hB:stB (St.mk 7 us (Ex.mk uo ut uv un uk) uB uL)≤1000000000000) (hR:stR (St.mk 7 us (Ex.mk uo ut uv un uk) uB uL)) (ht:Tab w) (uhe:ExAt (·<w.heap.size) w (Ex.mk uo ut uv un uk) (xL uo ut uv un uf uk.length ug))
  (uhbs:SlAt (·<w.heap.size) w uj uB.length 9 ubx) (uhbt:StsAt (·<w.heap.size) w uB ubx) (uhls:SlAt (·<w.heap.size) w ui uL.length 9 ulx) (uhlt:StsAt (·<w.heap.size) w uL ulx):
  CB 236 #[yV 7 us uo ut uv un uf uk.length ug uj uB.length uh ui uL.length uw,nI (deep:Int)] w (.bool (okS deep (St.mk 7 us (Ex.mk uo ut uv un uk) uB uL))):=by
 simp only [swt] at hN hbd hdeep
 simp only [stB] at hB
 simp only [stR] at hR
 obtain ⟨hRk,hRe,hRubody,hRuels⟩:=hR
 have hnm:us.length≤maxLen:=by unfold maxLen;omega
 refine eN [yV 7 us uo ut uv un uf uk.length ug uj uB.length uh ui uL.length uw,nI (deep:Int)] Tryz.func236 (fun γ0 hγ0=>?_)
 refine rk ?_
 cases hn:nameB us with
 | true=>
   refine gP [nT us] (.bool true) (fun W hk=>by rw [← hn];exact name_any us W hnm) ?_
   refine rs [] 60 6 ?_
   refine gR (.bool false) (fun W hk=>⟨?_,hk.below⟩)
   rw [okS_mk _ _ _ _ _ _ (by decide)]
   simp [nameB_nil hn]
 | false=>
   refine gP [nT us] (.bool false) (fun W hk=>by rw [← hn];exact name_any us W hnm) ?_
   refine rk ?_
   cases hm:bEqL us [] with
   | false=>
     refine gK true (b:=!(bEqL us [])) (by rw [hm];rfl) ?_
     refine rs [] 60 6 ?_
     refine gR (.bool false) (fun W hk=>⟨?_,hk.below⟩)
     rw [okS_mk _ _ _ _ _ _ (by decide)]
     simp [hm]
   | true=>
     refine gK false (b:=!(bEqL us [])) (by rw [hm];rfl) ?_
     refine rs [] 60 3 ?_
     cases hx:exNone (Ex.mk uo ut uv un uk) with
     | false=>
       refine gX [xV uo ut uv un uf uk.length ug] (.bool false) (fun W hk=>by rw [← hx];exact plain_any uo ut uv un uk uf ug W) ?_
       refine rs [] 60 6 ?_
       refine gR (.bool false) (fun W hk=>⟨?_,hk.below⟩)
       rw [okS_mk _ _ _ _ _ _ (by decide)]
       simp [hx]
     | true=>
       refine gX [xV uo ut uv un uf uk.length ug] (.bool true) (fun W hk=>by rw [← hx];exact plain_any uo ut uv un uk uf ug W) ?_
       refine rs [87] 60 2 ?_
       by_cases h4:uL.length=0
       rotate_left
       ·
        refine zx 84 0 (uL.length:Int) (by omega) ?_
        refine zx 85 0 (uL.length:Int) (by omega) ?_
        refine zx 86 0 (uL.length:Int) (by omega) ?_
        refine rs [] 60 6 ?_
        refine gR (.bool false) (fun W hk=>⟨?_,hk.below⟩)
        rw [okS_mk _ _ _ _ _ _ (by decide)]
        simp [h4]
       refine zy 84 0 (uL.length:Int) (by omega) ?_
       refine zy 85 0 (uL.length:Int) (by omega) ?_
       refine zy 86 0 (uL.length:Int) (by omega) ?_
       refine rk ?_
       by_cases h5:uB.length=0
       rotate_left
       ·
        refine kx 0 (uB.length:Int) (by omega) ?_
        refine rs [] 60 6 ?_
        refine gR (.bool false) (fun W hk=>⟨?_,hk.below⟩)
        rw [okS_mk _ _ _ _ _ _ (by decide)]
        simp [h5]
       refine ky 0 (uB.length:Int) (by omega) ?_
       refine rk ?_
       refine gS 105 (x:=nI (wrapF .i64 ((deep:Int)+1))) (nI ((deep+1:Nat):Int)) (by rw [wr64 (by omega) (by omega)];congr 1) ?_
       cases hubody:okB (deep+1) uB with
       | false=>
         refine gX [.slice uj uB.length uh,nI ((deep+1:Nat):Int)] (.bool false) (fun W hk=>by rw [← hubody];exact ih uB _ _ _ _ (deep+1) W rfl (by omega) (by omega) (by omega) (by omega) hRubody (ht.below (Keep.below hk)) ((uhbs.keep hk).mono (kU hk)) (StsAt_ls.1 (uhbt.keep hk (kU hk)))) ?_
         refine rs [] 60 6 ?_
         refine gR (.bool false) (fun W hk=>⟨?_,hk.below⟩)
         rw [okS_mk _ _ _ _ _ _ (by decide)]
         simp [hubody]
       | true=>
         refine gX [.slice uj uB.length uh,nI ((deep+1:Nat):Int)] (.bool true) (fun W hk=>by rw [← hubody];exact ih uB _ _ _ _ (deep+1) W rfl (by omega) (by omega) (by omega) (by omega) hRubody (ht.below (Keep.below hk)) ((uhbs.keep hk).mono (kU hk)) (StsAt_ls.1 (uhbt.keep hk (kU hk)))) ?_
         refine rs [] 60 2 ?_
         refine gS 111 (x:=nI (wrapF .i64 ((deep:Int)+1))) (nI ((deep+1:Nat):Int)) (by rw [wr64 (by omega) (by omega)];congr 1) ?_
         obtain ⟨bl,huels⟩:∃ b,b=okB (deep+1) uL:=⟨_,rfl⟩
         refine gX [.slice ui uL.length uw,nI ((deep+1:Nat):Int)] (.bool bl) (fun W hk=>by rw [huels];exact ih uL _ _ _ _ (deep+1) W rfl (by omega) (by omega) (by omega) (by omega) hRuels (ht.below (Keep.below hk)) ((uhls.keep hk).mono (kU hk)) (StsAt_ls.1 (uhlt.keep hk (kU hk)))) ?_
         refine rs [] 60 2 ?_
         refine gR (.bool bl) (fun W hk=>⟨?_,hk.below⟩)
         rw [okS_mk _ _ _ _ _ _ (by decide)]
         simp [hm,hx,h4,h5,hubody,huels]
theorem tstmtother_of (N:Nat) (ih:BlkC N)
  (uK:Int) (us:List UInt8) (uo ut uv:Int) (un:List UInt8) (uk:List Ex) (uB uL:List St) (uj ui uf:Option Addr) (uh uw ug deep:Nat) (ubx ulx:List Value) (w:World)
  (hN:swt (St.mk uK us (Ex.mk uo ut uv un uk) uB uL)≤N) (hbd:swt (St.mk uK us (Ex.mk uo ut uv un uk) uB uL)≤1000000000000) (hdeep:deep≤1000000000000+32 - swt (St.mk uK us (Ex.mk uo ut uv un uk) uB uL)) (hB:stB (St.mk uK us (Ex.mk uo ut uv un uk) uB uL)≤1000000000000) (hR:stR (St.mk uK us (Ex.mk uo ut uv un uk) uB uL)) (ht:Tab w) (uhe:ExAt (·<w.heap.size) w (Ex.mk uo ut uv un uk) (xL uo ut uv un uf uk.length ug))
  (uhbs:SlAt (·<w.heap.size) w uj uB.length 9 ubx) (uhbt:StsAt (·<w.heap.size) w uB ubx) (uhls:SlAt (·<w.heap.size) w ui uL.length 9 ulx) (uhlt:StsAt (·<w.heap.size) w uL ulx) (h1:¬ uK=1) (h2:¬ uK=2) (h3:¬ uK=3) (h4:¬ uK=4) (h5:¬ uK=5) (h6:¬ uK=6) (h7:¬ uK=7):
  CB 236 #[yV uK us uo ut uv un uf uk.length ug uj uB.length uh ui uL.length uw,nI (deep:Int)] w (.bool (okS deep (St.mk uK us (Ex.mk uo ut uv un uk) uB uL))):=by
 simp only [swt] at hN hbd hdeep
 simp only [stB] at hB
 simp only [stR] at hR
 obtain ⟨hRk,hRe,hRubody,hRuels⟩:=hR
 have hnm:us.length≤maxLen:=by unfold maxLen;omega
 refine eN [yV uK us uo ut uv un uf uk.length ug uj uB.length uh ui uL.length uw,nI (deep:Int)] Tryz.func236 (fun γ0 hγ0=>?_)
 refine rs [13] 60 0 ?_
 refine gF 11 uK 1 h1 ?_
 refine gF 12 uK 1 h1 ?_
 refine rs [18] 60 0 ?_
 refine gF 15 uK 2 h2 ?_
 refine gF 16 uK 2 h2 ?_
 refine gF 17 uK 2 h2 ?_
 refine rs [26] 60 0 ?_
 refine gF 20 uK 3 h3 ?_
 refine gF 21 uK 3 h3 ?_
 refine gF 5 uK 3 h3 ?_
 refine gF 24 uK 1 h1 ?_
 refine gF 25 uK 1 h1 ?_
 refine rs [31] 60 0 ?_
 refine gF 28 uK 4 h4 ?_
 refine gF 29 uK 4 h4 ?_
 refine gF 30 uK 4 h4 ?_
 refine rs [36] 60 0 ?_
 refine gF 33 uK 5 h5 ?_
 refine gF 34 uK 5 h5 ?_
 refine gF 35 uK 5 h5 ?_
 refine rs [44] 60 0 ?_
 refine gF 38 uK 6 h6 ?_
 refine gF 39 uK 6 h6 ?_
 refine gF 6 uK 6 h6 ?_
 by_cases hl:uK<1
 ·
  refine zx 42 uK 1 hl ?_
  refine zx 43 uK 1 hl ?_
  refine rs [] 60 6 ?_
  refine gR (.bool false) (fun W hk=>⟨?_,hk.below⟩)
  rw [okS_other _ _ _ _ _ _ (by omega)]
 refine zy 42 uK 1 hl ?_
 refine zy 43 uK 1 hl ?_
 refine rs [49] 60 0 ?_
 refine zx 46 7 uK (by omega) ?_
 refine zx 47 7 uK (by omega) ?_
 refine zx 48 7 uK (by omega) ?_
 refine rs [] 60 6 ?_
 refine gR (.bool false) (fun W hk=>⟨?_,hk.below⟩)
 rw [okS_other _ _ _ _ _ _ (by omega)]
end
section
set_option maxRecDepth 100000
theorem tstmt_any (N:Nat) (ih:BlkC N) (x:St) (cs:List Value) (deep:Nat) (w:World) (hN:swt x≤N) (hbd:swt x≤1000000000000) (hdeep:deep≤1000000000000+32 - swt x) (hB:stB x≤1000000000000) (hR:stR x) (ht:Tab w) (hat:StAt (·<w.heap.size) w x cs):
  CB 236 #[.agg cs.toArray,.int .i64 (deep:Int)] w (.bool (okS deep x)):=by
 obtain ⟨uK,us,⟨uo,ut,uv,un,uk⟩,uB,uL⟩:=x
 simp only [StAt] at hat
 obtain ⟨ucs,uj,uh,ubx,ui,uw,ulx,rfl,uhe,uhbs,uhbt,uhls,uhlt⟩:=hat
 have uhe0:=uhe
 simp only [ExAt] at uhe0
 obtain ⟨uf,ug,uex,rfl,_⟩:=uhe0
 by_cases h1:uK=1
 · subst h1
   exact tstmt1_of N ih  us uo ut uv un uk uB uL uj ui uf uh uw ug deep ubx ulx w hN hbd hdeep hB hR ht uhe uhbs uhbt uhls uhlt
 by_cases h2:uK=2
 · subst h2
   exact tstmt23_of N ih 2 us uo ut uv un uk uB uL uj ui uf uh uw ug deep ubx ulx w hN hbd hdeep hB hR ht uhe uhbs uhbt uhls uhlt (.inl rfl)
 by_cases h3:uK=3
 · subst h3
   exact tstmt23_of N ih 3 us uo ut uv un uk uB uL uj ui uf uh uw ug deep ubx ulx w hN hbd hdeep hB hR ht uhe uhbs uhbt uhls uhlt (.inr rfl)
 by_cases h4:uK=4
 · subst h4
   exact tstmt4_of N ih  us uo ut uv un uk uB uL uj ui uf uh uw ug deep ubx ulx w hN hbd hdeep hB hR ht uhe uhbs uhbt uhls uhlt
 by_cases h5:uK=5
 · subst h5
   exact tstmt5_of N ih  us uo ut uv un uk uB uL uj ui uf uh uw ug deep ubx ulx w hN hbd hdeep hB hR ht uhe uhbs uhbt uhls uhlt
 by_cases h6:uK=6
 · subst h6
   exact tstmt6_of N ih  us uo ut uv un uk uB uL uj ui uf uh uw ug deep ubx ulx w hN hbd hdeep hB hR ht uhe uhbs uhbt uhls uhlt
 by_cases h7:uK=7
 · subst h7
   exact tstmt7_of N ih  us uo ut uv un uk uB uL uj ui uf uh uw ug deep ubx ulx w hN hbd hdeep hB hR ht uhe uhbs uhbt uhls uhlt
 exact tstmtother_of N ih uK us uo ut uv un uk uB uL uj ui uf uh uw ug deep ubx ulx w hN hbd hdeep hB hR ht uhe uhbs uhbt uhls uhlt h1 h2 h3 h4 h5 h6 h7
open Go.Sy
theorem tblock1_any (N:Nat) (ih:BlkC N) (x:St) (cs:List Value) (q deep:Nat) (w:World) (hN:swt x≤N) (hbd:swt x≤1000000000000) (hdeep:deep≤1000000000000+32 - swt x) (hB:stB x≤1000000000000) (hR:stR x) (ht:Tab w) (hq:SlAt (·<w.heap.size) w (some ⟨q,0,none⟩) 1 1 [nI (deep:Int)]) (hat:StAt (·<w.heap.size) w x cs):
  CB 235 #[.agg cs.toArray,nP q] w (.bool (!(okS deep x))):=by
 have hat0:=hat
 obtain ⟨uK,us,⟨uo,ut,uv,un,uk⟩,uB,uL⟩:=x
 simp only [StAt] at hat0
 obtain ⟨ucs,uj,uh,ubx,ui,uw,ulx,rfl,uhe,_⟩:=hat0
 simp only [ExAt] at uhe
 obtain ⟨uf,ug,uex,rfl,_⟩:=uhe
 refine eN [yV uK us uo ut uv un uf uk.length ug uj uB.length uh ui uL.length uw,nP q] Tryz.func235 (fun γ0 hγ0=>?_)
 refine rk ?_
 refine gV (nI (deep:Int)) (S:=Instr.loadAt 3 (.pointer (some ⟨q,0+0,none⟩))) (fun W hk=>ld_pt hq (by kernel_rfl) 0 rfl hk) ?_
 refine rk ?_
 refine gX [yV uK us uo ut uv un uf uk.length ug uj uB.length uh ui uL.length uw,nI (deep:Int)] (.bool (okS deep (St.mk uK us (Ex.mk uo ut uv un uk) uB uL))) (fun W hk=>tstmt_any N ih (St.mk uK us (Ex.mk uo ut uv un uk) uB uL) (yL uK us uo ut uv un uf uk.length ug uj uB.length uh ui uL.length uw) deep W hN hbd hdeep hB hR (ht.below (Keep.below hk)) (hat.keep hk (kU hk))) ?_
 refine rk ?_
 exact gR (.bool (!(okS deep (St.mk uK us (Ex.mk uo ut uv un uk) uB uL)))) (fun W hk=>⟨rfl,hk.below⟩)
theorem swts_mem {x:St}:∀ {l:List St},x∈l→swt x≤swts l
 | y::l,h=>by
   simp only [swts]
   rcases List.mem_cons.1 h with rfl | h
   · omega
   · have:=swts_mem h;omega
theorem stBs_mem {x:St}:∀ {l:List St},x∈l→stB x≤stBs l
 | y::l,h=>by
   simp only [stBs]
   rcases List.mem_cons.1 h with rfl | h
   · omega
   · have:=stBs_mem h;omega
theorem blkC:∀ N,BlkC N:=by
 intro N
 induction N with
 | zero=>intro L a n cap xs deep w _ h;omega
 | succ N ih=>
   intro L a n cap xs deep w hn hN hbd hdeep hB hR ht hsl hks
   have hnl:=swts_len L
   refine eN [.slice a n cap,nI (deep:Int)] Tryz.func205 (fun γ0 hγ0=>?_)
   refine rs [9] 60 0 ?_
   by_cases h0:n=0
   ·
    refine zy 7 0 (n:Int) (by omega) ?_
    refine zy 8 0 (n:Int) (by omega) ?_
    refine rs [12] 60 1 ?_
    refine gG 3 gz 3 [nI (deep:Int)] (fun q w1 B1 hk1 hB01 hBq hnq hB1 hq=>?_)
    have hq1:=box_sl hq hBq (n:=1) rfl
    refine rk ?_
    refine gN [.slice a n cap,.func (.func 235) #[] #[nP q]] (fun v=>v = .bool (L.any fun s=>!(okS deep s))) (fun W hk=>by
     have hkw:Keep (·<w.heap.size) w W:=hk1.trans (hk.mono hB01)
     refine (conSt_any (fun s=>!(okS deep s)) q L a n cap xs W hn (by omega) ((hsl.keep hkw).mono (kU hkw)) (hks.imp fun x c hc=>hc.keep hkw (kU hkw)) (fun x hx cs W2 hk2 hat2=>?_)).mono fun e w' ⟨h1,h2⟩=>⟨_,h1,rfl,h2⟩
     have hm:=swts_mem hx
     have hm2:=stBs_mem hx
     exact tblock1_any N ih x cs q deep W2 (by omega) (by omega) (by omega) (by omega) (stRs_mem.1 hR x hx) (ht.below ((Keep.trans hkw (hk2.mono (kU hkw))).below)) (((hq1.keep hk).mono fun k h=>Nat.lt_of_lt_of_le (hB1 k h) hk.size).keep hk2 |>.mono (kU hk2)) hat2) ?_
    rintro v w2 rfl hk2
    refine rk ?_
    refine gR (.bool (!(L.any fun s=>!(okS deep s)))) (fun W hk=>⟨?_,((hk1.trans (hk.mono hB01))).below⟩)
    have hL:L=[]:=List.eq_nil_of_length_eq_zero (by omega)
    subst hL
    rfl
   refine zx 7 0 (n:Int) (by omega) ?_
   refine zx 8 0 (n:Int) (by omega) ?_
   refine rk ?_
   by_cases h1:32<deep
   ·
    refine kx 32 (deep:Int) (by omega) ?_
    refine rs [] 60 1 ?_
    refine gR (.bool false) (fun W hk=>⟨?_,hk.below⟩)
    rw [okB_deep deep h1,decide_eq_false (by omega)]
   refine ky 32 (deep:Int) (by omega) ?_
   refine rs [12] 60 1 ?_
   refine gG 3 gz 3 [nI (deep:Int)] (fun q w1 B1 hk1 hB01 hBq hnq hB1 hq=>?_)
   have hq1:=box_sl hq hBq (n:=1) rfl
   refine rk ?_
   refine gN [.slice a n cap,.func (.func 235) #[] #[nP q]] (fun v=>v = .bool (L.any fun s=>!(okS deep s))) (fun W hk=>by
    have hkw:Keep (·<w.heap.size) w W:=hk1.trans (hk.mono hB01)
    refine (conSt_any (fun s=>!(okS deep s)) q L a n cap xs W hn (by omega) ((hsl.keep hkw).mono (kU hkw)) (hks.imp fun x c hc=>hc.keep hkw (kU hkw)) (fun x hx cs W2 hk2 hat2=>?_)).mono fun e w' ⟨h1,h2⟩=>⟨_,h1,rfl,h2⟩
    have hm:=swts_mem hx
    have hm2:=stBs_mem hx
    exact tblock1_any N ih x cs q deep W2 (by omega) (by omega) (by omega) (by omega) (stRs_mem.1 hR x hx) (ht.below ((Keep.trans hkw (hk2.mono (kU hkw))).below)) (((hq1.keep hk).mono fun k h=>Nat.lt_of_lt_of_le (hB1 k h) hk.size).keep hk2 |>.mono (kU hk2)) hat2) ?_
   rintro v w2 rfl hk2
   refine rk ?_
   refine gR (.bool (!(L.any fun s=>!(okS deep s)))) (fun W hk=>⟨?_,((hk1.trans (hk.mono hB01))).below⟩)
   rw [okB_any deep (by omega)]
theorem tblock_any (L:List St) (a:Option Addr) (n cap:Nat) (xs:List Value) (deep:Nat) (w:World) (hn:n=L.length) (hbd:swts L≤1000000000000) (hdeep:deep≤1000) (hB:stBs L≤1000000000000) (hR:stRs L) (ht:Tab w) (hsl:Sy.SlAt (·<w.heap.size) w a n 9 xs) (hks:LsAt (StAt (·<w.heap.size) w) L xs) (hbd2:swts L≤500000000000):
  CB 205 #[.slice a n cap,.int .i64 (deep:Int)] w (.bool (okB deep L)):=
 blkC _ L a n cap xs deep w hn (Nat.lt_succ_self _) hbd (by omega) hB hR ht hsl hks
end
section
set_option maxRecDepth 100000
noncomputable def okV (v:Vr):Bool:=nameB v.name&&firB v.ty v.bits.toNat
theorem okV_vrT (word:List UInt8) (v:Vr) (hR:vrR v):(vrT word v).isSome=okV v:=by
 obtain ⟨_,h1,h2⟩:=hR
 unfold vrT okV
 cases hx:nameB v.name with
 | false=>rfl
 | true=>
   have:=(fir_plain v.ty v.bits.toNat (by omega)).1
   rw [this,show ((v.bits.toNat:Nat):Int)=v.bits by omega,if_pos rfl,Option.isSome_map,Bool.true_and]
open Go.Sy
theorem tvariable_any (v:Vr) (w:World) (hB:vrB v≤1000000000000) (hR:vrR v) (ht:Tab w):CB 199 #[.agg #[nT v.name,n8 v.ty,n6 v.bits]] w (.bool (okV v)):=by
 unfold vrB at hB
 have hnm:v.name.length≤maxLen:=by unfold maxLen;omega
 obtain ⟨_,hb1,hb2⟩:=hR
 refine eN [.agg #[nT v.name,n8 v.ty,n6 v.bits]] Tryz.func199 (fun γ0 hγ0=>?_)
 refine rk ?_
 cases hx:nameB v.name with
 | false=>
   refine gP [nT v.name] (.bool false) (fun W hk=>by rw [← hx];exact name_any v.name W hnm) ?_
   refine rs [] 60 2 ?_
   exact gR (.bool false) (fun W hk=>⟨by unfold okV;rw [hx];rfl,hk.below⟩)
 | true=>
   refine gP [nT v.name] (.bool true) (fun W hk=>by rw [← hx];exact name_any v.name W hnm) ?_
   refine rs [] 60 2 ?_
   refine gX [.agg #[n8 v.ty,n6 v.bits]] (.bool (firB v.ty v.bits.toNat)) (fun W hk=>by have:=tfirst_any v.ty v.bits.toNat (by omega) W (ht.below (Keep.below hk));rw [show ((v.bits.toNat:Nat):Int)=v.bits by omega] at this;exact this) ?_
   refine rs [] 60 2 ?_
   exact gR (.bool (firB v.ty v.bits.toNat)) (fun W hk=>⟨by unfold okV;rw [hx];rfl,hk.below⟩)
theorem tprogram1_any (v:Vr) (cs:List Value) (w:World) (hB:vrB v≤1000000000000) (hR:vrR v) (ht:Tab w) (hc:VrAt v cs):CB 198 #[.agg cs.toArray] w (.bool (!(okV v))):=by
 obtain rfl:cs=[nT v.name,n8 v.ty,n6 v.bits]:=hc
 refine eN [.agg #[nT v.name,n8 v.ty,n6 v.bits]] Tryz.func198 (fun γ0 hγ0=>?_)
 refine rk ?_
 refine gX [.agg #[nT v.name,n8 v.ty,n6 v.bits]] (.bool (okV v)) (fun W hk=>tvariable_any v W hB hR (ht.below (Keep.below hk))) ?_
 refine rk ?_
 exact gR (.bool (!(okV v))) (fun W hk=>⟨rfl,hk.below⟩)
theorem tprogram2_any (s:List UInt8) (cs:List Value) (w:World) (hB:txB s≤1000000000000) (hc:TxAt s cs):Calls Tryz.prog 202 cs.toArray w fun e w'=>e = .returned (.bool (!(nameB s)))∧Below w.heap.size w w':=by
 obtain rfl:cs=[nT s]:=hc
 refine eN [nT s] Tryz.func202 (fun γ0 hγ0=>?_)
 refine rk ?_
 refine gP [nT s] (.bool (nameB s)) (fun W hk=>name_any s W (by unfold maxLen;unfold txB at hB;omega)) ?_
 refine rk ?_
 exact gR (.bool (!(nameB s))) (fun W hk=>⟨rfl,hk.below⟩)
noncomputable def okT (x:Th):Bool:=nameB x.name&&(!(x.locals.any fun v=>!(okV v))&&okB 0 x.body)
theorem tprogram3_any (x:Th) (cs:List Value) (q:Nat) (w:World) (hB:thB x≤400000000000) (hR:thR x) (ht:Tab w) (hq:SlAt (·<w.heap.size) w (some ⟨q,0,none⟩) 1 1 [.func (.func 198) #[] #[]]) (hc:ThAt (·<w.heap.size) w x cs):
  CB 204 #[.agg cs.toArray,nP q] w (.bool (!(okT x))):=by
 obtain ⟨ua,ucap,uxs,ub,ucap2,uys,rfl,h1,h2,h3,h4⟩:=hc
 unfold thB at hB
 obtain ⟨hRl,hRb⟩:=hR
 have hnm:x.name.length≤maxLen:=by unfold maxLen;omega
 have hl1:=len_sumN (μ:=vrB) (fun v=>by unfold vrB;omega) x.locals
 have hl2:=swts_stBs x.body
 refine eN [.agg #[nT x.name,.slice ua x.locals.length ucap,.slice ub x.body.length ucap2],nP q] Tryz.func204 (fun γ0 hγ0=>?_)
 refine rk ?_
 cases hx:nameB x.name with
 | false=>
   refine gP [nT x.name] (.bool false) (fun W hk=>by rw [← hx];exact name_any x.name W hnm) ?_
   refine rs [] 60 2 ?_
   exact gR (.bool true) (fun W hk=>⟨by unfold okT;rw [hx];rfl,hk.below⟩)
 | true=>
   refine gP [nT x.name] (.bool true) (fun W hk=>by rw [← hx];exact name_any x.name W hnm) ?_
   refine rs [] 60 2 ?_
   refine gV (.func (.func 198) #[] #[]) (S:=Instr.loadAt 243 (.pointer (some ⟨q,0+0,none⟩))) (fun W hk=>ld_pt hq (by kernel_rfl) 0 rfl hk) ?_
   refine rs [] 60 2 ?_
   cases hy:x.locals.any (fun v=>!(okV v)) with
   | true=>
     refine gN [.slice ua x.locals.length ucap,.func (.func 198) #[] #[]] (fun v=>v = .bool true) (fun W hk=>(conVr_any (fun v=>!(okV v)) x.locals ua x.locals.length ucap uxs W rfl (by omega) ((h1.keep hk).mono (kU hk)) h2 (fun v hv cs W2 hk2 hc=>tprogram1_any v cs W2 (by have:=sumN_mem (μ:=vrB) hv;omega) (hRl v hv) (ht.below ((hk.trans (hk2.mono (kU hk))).below)) hc)).mono fun e w' ⟨h1,h2⟩=>⟨_,h1,(by rw [hy]),h2⟩) ?_
     rintro v w2 rfl hk2
     refine rs [] 60 2 ?_
     exact gR (.bool true) (fun W hk=>⟨by unfold okT;rw [hx,hy];rfl,hk.below⟩)
   | false=>
     refine gN [.slice ua x.locals.length ucap,.func (.func 198) #[] #[]] (fun v=>v = .bool false) (fun W hk=>(conVr_any (fun v=>!(okV v)) x.locals ua x.locals.length ucap uxs W rfl (by omega) ((h1.keep hk).mono (kU hk)) h2 (fun v hv cs W2 hk2 hc=>tprogram1_any v cs W2 (by have:=sumN_mem (μ:=vrB) hv;omega) (hRl v hv) (ht.below ((hk.trans (hk2.mono (kU hk))).below)) hc)).mono fun e w' ⟨h1,h2⟩=>⟨_,h1,(by rw [hy]),h2⟩) ?_
     rintro v w2 rfl hk2
     refine rs [] 60 2 ?_
     refine gX [.slice ub x.body.length ucap2,nI 0] (.bool (okB 0 x.body)) (fun W hk=>by have:=tblock_any x.body ub x.body.length ucap2 uys 0 W rfl (by omega) (by decide) (by omega) hRb (ht.below (Keep.below hk)) ((h3.keep hk).mono (kU hk)) (StsAt_ls.1 (h4.keep hk (kU hk))) (by omega);exact this) ?_
     refine rs [] 60 2 ?_
     exact gR (.bool (!(okB 0 x.body))) (fun W hk=>⟨by unfold okT;rw [hx,hy];rfl,hk.below⟩)
noncomputable def okP (p:Pg):Bool:=!(p.shared.any fun v=>!(okV v))&&(!(p.mutexes.any fun s=>!(nameB s))&&!(p.threads.any fun x=>!(okT x)))
theorem tprogram_any (p:Pg) (cs:List Value) (w:World) (hB:pgB p≤400000000000) (hR:pgR p) (ht:Tab w) (hp:PgAt (·<w.heap.size) w p cs):
  CB 166 #[.agg cs.toArray] w (.bool (okP p)):=by
 obtain ⟨a,cap,xs,b,cap2,ys,d,cap3,zs,rfl,hxs,hxt,hys,hyt,hzs,hzt⟩:=hp
 unfold pgB at hB
 obtain ⟨hRs,hRt⟩:=hR
 have hl1:=len_sumN (μ:=vrB) (fun v=>by unfold vrB;omega) p.shared
 have hl2:=len_sumN (μ:=txB) (fun v=>by unfold txB;omega) p.mutexes
 have hl3:=len_sumN (μ:=thB) (fun v=>by unfold thB;omega) p.threads
 refine eN [.agg #[.slice a p.shared.length cap,.slice b p.mutexes.length cap2,.slice d p.threads.length cap3]] Tryz.func166 (fun γ0 hγ0=>?_)
 refine rs [4] 60 0 ?_
 refine gG 3 (gz+1) 243 [.func (.func 198) #[] #[]] (fun q w1 B1 hk1 hB01 hBq hnq hB1 hq=>?_)
 have hq1:=box_sl hq hBq (n:=1) rfl
 have KW:∀ W,Keep B1 w1 W→Keep (·<w.heap.size) w W:=fun W hk=>hk1.trans (hk.mono hB01)
 refine rk ?_
 refine gV (.func (.func 198) #[] #[]) (S:=Instr.loadAt 243 (.pointer (some ⟨q,0+0,none⟩))) (fun W hk=>ld_pt hq1 (by kernel_rfl) 0 rfl hk) ?_
 refine rk ?_
 cases hv1:p.shared.any (fun v=>!(okV v)) with
 | true=>
   refine gN [.slice a p.shared.length cap,.func (.func 198) #[] #[]] (fun v=>v = .bool true) (fun W hk=>by
    have hk:=KW W hk
    exact (conVr_any (fun v=>!(okV v)) p.shared a p.shared.length cap xs W rfl (by omega) ((hxs.keep hk).mono (kU hk)) hxt (fun v hv cs W2 hk2 hc=>tprogram1_any v cs W2 (by have:=sumN_mem (μ:=vrB) hv;omega) (hRs v hv) (ht.below ((hk.trans (hk2.mono (kU hk))).below)) hc)).mono fun e w' ⟨h1,h2⟩=>⟨_,h1,(by rw [hv1]),h2⟩) ?_
   rintro v w2 rfl hk2
   refine rs [] 60 4 ?_
   exact gR (.bool false) (fun W hk=>⟨by unfold okP;rw [hv1];rfl,(KW W hk).below⟩)
 | false=>
   refine gN [.slice a p.shared.length cap,.func (.func 198) #[] #[]] (fun v=>v = .bool false) (fun W hk=>by
    have hk:=KW W hk
    exact (conVr_any (fun v=>!(okV v)) p.shared a p.shared.length cap xs W rfl (by omega) ((hxs.keep hk).mono (kU hk)) hxt (fun v hv cs W2 hk2 hc=>tprogram1_any v cs W2 (by have:=sumN_mem (μ:=vrB) hv;omega) (hRs v hv) (ht.below ((hk.trans (hk2.mono (kU hk))).below)) hc)).mono fun e w' ⟨h1,h2⟩=>⟨_,h1,(by rw [hv1]),h2⟩) ?_
   rintro v w2 rfl hk2
   refine rs [] 60 2 ?_
   cases hv2:p.mutexes.any (fun s=>!(nameB s)) with
   | true=>
     refine gN [.slice b p.mutexes.length cap2,.func (.func 202) #[] #[]] (fun v=>v = .bool true) (fun W hk=>by
      have hk:=KW W hk
      exact (conTx_any (fun s=>!(nameB s)) p.mutexes b p.mutexes.length cap2 ys W rfl (by omega) ((hys.keep hk).mono (kU hk)) hyt (fun s hs cs W2 hk2 hc=>tprogram2_any s cs W2 (by have:=sumN_mem (μ:=txB) hs;omega) hc)).mono fun e w' ⟨h1,h2⟩=>⟨_,h1,(by rw [hv2]),h2⟩) ?_
     rintro v w3 rfl hk3
     refine rs [] 60 4 ?_
     exact gR (.bool false) (fun W hk=>⟨by unfold okP;rw [hv1,hv2];rfl,(KW W hk).below⟩)
   | false=>
     refine gN [.slice b p.mutexes.length cap2,.func (.func 202) #[] #[]] (fun v=>v = .bool false) (fun W hk=>by
      have hk:=KW W hk
      exact (conTx_any (fun s=>!(nameB s)) p.mutexes b p.mutexes.length cap2 ys W rfl (by omega) ((hys.keep hk).mono (kU hk)) hyt (fun s hs cs W2 hk2 hc=>tprogram2_any s cs W2 (by have:=sumN_mem (μ:=txB) hs;omega) hc)).mono fun e w' ⟨h1,h2⟩=>⟨_,h1,(by rw [hv2]),h2⟩) ?_
     rintro v w3 rfl hk3
     refine rs [] 60 4 ?_
     refine gN [.slice d p.threads.length cap3,.func (.func 204) #[] #[nP q]] (fun v=>v = .bool (p.threads.any fun x=>!(okT x))) (fun W hk0=>by
      have hk:=KW W hk0
      exact (conTh_any (fun x=>!(okT x)) q p.threads d p.threads.length cap3 zs W rfl (by omega) ((hzs.keep hk).mono (kU hk)) (hzt.imp fun x c hc=>hc.keep hk (kU hk)) (fun x hx cs W2 hk2 hc=>tprogram3_any x cs q W2 (by have:=sumN_mem (μ:=thB) hx;omega) (hRt x hx) (ht.below ((hk.trans (hk2.mono (kU hk))).below)) ((((hq1.keep hk0).mono fun k h=>Nat.lt_of_lt_of_le (hB1 k h) hk0.size).keep hk2).mono (kU hk2)) hc)).mono fun e w' ⟨h1,h2⟩=>⟨_,h1,rfl,h2⟩) ?_
     rintro v w4 rfl hk4
     refine rk ?_
     exact gR (.bool (!(p.threads.any fun x=>!(okT x)))) (fun W hk=>⟨by unfold okP;rw [hv1,hv2];rfl,(KW W hk).below⟩)
end
end Go.Proofs.YtinjiigdijbjeaaGreatDoor
section
namespace Go.Proofs
open Go.Shelf Go.RowKit
section
variable {P:Program} {ρ:Ren}
set_option maxHeartbeats 1000000 in
set_option maxRecDepth 100000 in
theorem fresh_in (L:Lays.n240 P ρ) (X:Builder.X72 P ρ) (T:TypeId) (hT:liesAt P P.depth T (2 / P.cellsOf T) 0 (ρ.t 72) 1=true) (b:Nat) (w:World) (h0:w.cell? ⟨b,0,none⟩=some (.pointer none)) (hsh:w.shape? b=some (T,2)) (hfz:w.frozen? ⟨b,0,none⟩=false):
  Calls P (ρ.f 240) #[.pointer (some ⟨b,0,none⟩)] w fun e w'=>e = .returned (.tuple #[])∧w'=w.setCell ⟨b,0,none⟩ (.pointer (some ⟨b,0,none⟩)):=by
 obtain ⟨j,hj,hjs⟩:=Option.map_eq_some_iff.1 X.sizeBuilder
 have mixed:=L.mixed
 have t72:=L.t72;have a72:=L.a72;have z72:=L.z72;have v72:=L.v72;have u72:=run_underlying L.t72
 have t70:=L.t70;have a70:=L.a70;have z70:=L.z70;have v70:=L.v70;have u70:=run_underlying L.t70
 have t9:=L.t9;have a9:=L.a9;have z9:=L.z9;have v9:=L.v9;have u9:=run_underlying L.t9
 have t4:=L.t4;have a4:=L.a4;have z4:=L.z4;have v4:=L.v4;have u4:=run_underlying L.t4
 have t164:=L.t164;have a164:=L.a164;have z164:=L.z164;have v164:=L.v164;have u164:=run_underlying L.t164
 go_enter L.f240,Body.n240_ntmps ρ
 go_wp2
 rw [Lib.run_to_unsafe w ⟨b,0,none⟩ L.t70 L.t164 hj (by rw [hjs];decide) hsh (Nat.zero_lt_succ 1)]
 simp only [Result.andThen]
 rw [Oper.upon_value]
 go_wp2
 rw [run_callFunc_extern L.f276 (by kernel_rfl) (by kernel_rfl) (by kernel_rfl) (e:=Extern.AbiNoEscape.same) (by kernel_rfl)]
 rw [Lib.run_noEscape]
 simp only [Result.andThen]
 rw [Oper.upon_value]
 go_wp2
 rw [Lib.run_from_unsafe w ⟨b,0,none⟩ L.t164 L.t70 hj hsh hT]
 simp only [Result.andThen]
 rw [Oper.upon_value]
 go_wp2
 go_end0
 exact ⟨rfl,rfl⟩
set_option maxHeartbeats 2000000 in
set_option maxRecDepth 100000 in
theorem string_in (L:Lays.n169 P ρ) (X:Builder.Extra P ρ) (T:TypeId) (b n cap:Nat) (ao q:Option Addr) (p:Value) (r:ByteArray) (w w2:World) (hbk:w.heap[b]?=some (.cells #[p,.slice ao n cap] T (0,0)))
  (hSD:(Builtin.unsafeSliceData_ #[(ρ.t 37)] (ρ.t 127) #[.slice ao n cap]).run P w.drew = .ok (.pointer q) w.drew)
  (hUS:(Builtin.unsafeString_ #[(ρ.t 127),(ρ.t 3)] (ρ.t 9) #[.pointer q,.int .i64 n]).run P w.drew = .ok (.string r) w2):
  Calls P (ρ.f 169) #[.pointer (some ⟨b,0,none⟩)] w fun e w'=>e = .returned (.string r)∧w'=w2:=by
 have c1:w.drew.cell? ⟨b,1,none⟩=some (.slice ao n cap):=by
  have:w.drew.heap[b]?=some (.cells #[p,.slice ao n cap] T (0,0)):=hbk
  rw [Lib.cell_of_heap this];rfl
 have mixed:=L.mixed
 have t72:=L.t72;have a72:=L.a72;have z72:=L.z72;have v72:=L.v72;have u72:=run_underlying L.t72
 have t70:=L.t70;have a70:=L.a70;have z70:=L.z70;have v70:=L.v70;have u70:=run_underlying L.t70
 have t37:=L.t37;have a37:=L.a37;have z37:=L.z37;have v37:=L.v37;have u37:=run_underlying L.t37
 have t127:=L.t127;have a127:=L.a127;have z127:=L.z127;have v127:=L.v127;have u127:=run_underlying L.t127
 have t3:=L.t3;have a3:=L.a3;have z3:=L.z3;have v3:=L.v3;have u3:=run_underlying L.t3
 have t9:=L.t9;have a9:=L.a9;have z9:=L.z9;have v9:=L.v9;have u9:=run_underlying L.t9
 have t5:=X.t5;have a5:=X.a5;have z5:=X.z5;have v5:=X.v5;have u5:=run_underlying X.t5
 go_enter L.f169,Body.n169_ntmps ρ
 go_wp2
 go_region_o
 all_goals (go_wp2;go_ret;exact ⟨rfl,rfl⟩)
end
end Go.Proofs
namespace Go.Proofs.YtinjiigdijbjeaaGreatDoor
open Go.RowKit Go.As
def Bu (b:Nat) (l:List UInt8) (w:World):Prop:=∃ p ao n cap,(p = .pointer none∨p = .pointer (some ⟨b,0,none⟩))∧w.heap[b]?=some (.cells #[p,.slice ao n cap] 86 (0,0))∧
 w.ownsRow 0 5 1 (.slice ao n cap) l.length (Lib.byteCells l)∧(Value.slice ao n cap).ownBlock≠some b∧(l=[]→ao=none)
def BuF (b:Nat) (w:World) (k:Nat):Prop:=k=b∨∃ p v t fz,w.heap[b]?=some (.cells #[p,v] t fz)∧v.ownBlock=some k
theorem BuF.at_ {b:Nat} {p v:Value} {t:TypeId} {fz:Nat×Nat} {w:World} (h:w.heap[b]?=some (.cells #[p,v] t fz)) {k:Nat}:BuF b w k↔k=b∨v.ownBlock=some k:=by
 constructor
 · rintro (rfl | ⟨p',v',t',fz',h1,h2⟩)
   · exact .inl rfl
   · rw [h] at h1
     simp only [Option.some.injEq,Obj.cells.injEq,Array.mk.injEq,List.cons.injEq] at h1
     rw [← h1.1.2.1] at h2
     exact .inr h2
 · rintro (rfl | h1)
   · exact .inl rfl
   · exact .inr ⟨_,_,_,_,h,h1⟩
structure WrR (b:Nat) (l:List UInt8) (w w':World):Prop where
 bu:Bu b l w'
 kp:Sy.Keep (fun k=>k<w.heap.size∧¬ BuF b w k) w w'
 old:∀ k,BuF b w' k→BuF b w k∨w.heap.size≤k
theorem bu_lies:liesAt Tryz.prog Tryz.prog.depth 86 (2 / Tryz.prog.cellsOf 86) 0 84 1=true:=by kernel_rfl
theorem set0_heap {w:World} {b:Nat} {p q v:Value} {t:TypeId} (h:w.heap[b]?=some (.cells #[p,v] t (0,0))):(w.setCell ⟨b,0,none⟩ q).heap[b]?=some (.cells #[q,v] t (0,0)):=by
 have hlt:=(Array.getElem?_eq_some_iff.1 h).1
 simp [World.setCell,Array.getElem?_modify,h]
theorem setc_keep (w:World) (b o:Nat) (q:Value):Sy.Keep (fun k=>k<w.heap.size∧k≠b) w (w.setCell ⟨b,o,none⟩ q):=
 ⟨rfl,rfl,rfl,by simp [World.setCell],fun k hk=>Below.heap_setCell _ _ _ _ (fun e=>hk.2 (by simp [e]))⟩
theorem copyCheck_any (b:Nat) (p v:Value) (w:World) (hp:p = .pointer none∨p = .pointer (some ⟨b,0,none⟩)) (h:w.heap[b]?=some (.cells #[p,v] 86 (0,0))):
  Calls Tryz.prog 112 #[.pointer (some ⟨b,0,none⟩)] w fun e w'=>e = .returned (.tuple #[])∧w'.heap[b]?=some (.cells #[.pointer (some ⟨b,0,none⟩),v] 86 (0,0))∧Sy.Keep (fun k=>k<w.heap.size∧k≠b) w w':=by
 have c0:w.cell? ⟨b,0,none⟩=some p:=by rw [Lib.cell_of_heap h];rfl
 rcases hp with rfl | rfl
 · refine (fresh_in (L:={ Tryz.lays105 with }) Tryz.Builder_Extra_105.toX72 86 bu_lies b w c0 (by simp [World.shape?,h]) (Lib.frozen_of_heap h 0)).mono ?_
   rintro e w' ⟨rfl,rfl⟩
   exact ⟨rfl,set0_heap h,setc_keep _ _ _ _⟩
 · refine (Any.Builder_copyCheck_used (L:={ Tryz.lays105 with }) Tryz.Builder_Extra_105.toX72 b w c0).mono ?_
   rintro e w' ⟨rfl,rfl⟩
   exact ⟨rfl,h,Sy.Keep.refl _ _⟩
end Go.Proofs.YtinjiigdijbjeaaGreatDoor
end
namespace Go.Proofs.YtinjiigdijbjeaaGreatDoor
open Go.RowKit Go.As
section
theorem own_kept0 {w W:World} {e:TypeId} {v:Value} {n:Nat} {xs:List Value} (h:w.ownsRow 0 e 1 v n xs) (hk:∀ k,v.ownBlock=some k→W.heap[k]?=w.heap[k]?):W.ownsRow 0 e 1 v n xs:=by
 refine ⟨h.1,?_⟩
 rcases h.2 with hn | ⟨g,cap,cur,rfl,hb,hgg,rest⟩
 · exact .inl hn
 · exact .inr ⟨g,cap,cur,rfl,hb,(hk g rfl).trans hgg,rest⟩
theorem own_form0 {w:World} {e:TypeId} {v:Value} {n:Nat} {xs:List Value} (h:w.ownsRow 0 e 1 v n xs):∃ ao cap,v = .slice ao n cap:=by
 rcases h.2 with ⟨rfl,rfl⟩ | ⟨g,cap,cur,rfl,_⟩
 · exact ⟨_,_,rfl⟩
 · exact ⟨_,_,rfl⟩
theorem app_strB (ty:TypeId) (ao:Option Addr) (n cap:Nat) (l s:List UInt8) (w:World) (hown:w.ownsRow 0 5 1 (.slice ao n cap) l.length (Lib.byteCells l)) (hlen:l.length+s.length≤140737488355328) (hnil:l=[]→ao=none):
  ∃ ao' n' cap' w',(Builtin.append_ #[82,9] ty #[.slice ao n cap,.string (str s)]).run Tryz.prog w = .ok (.slice ao' n' cap') w'∧w'.ownsRow 0 5 1 (.slice ao' n' cap') (l.length+s.length) (Lib.byteCells (l++s))∧
    w.grownBy w' (Value.slice ao n cap).ownBlock∧SameOrNew w (.slice ao n cap) (.slice ao' n' cap')∧(l++s=[]→ao'=none):=by
 obtain ⟨v',w',h1,h2,h3,h4⟩:=run_app_str (P:=Tryz.prog) 0 82 9 ty 5 (by kernel_rfl) (by kernel_rfl) (by kernel_rfl) _ _ _ hown s hlen (Nat.zero_le _)
 obtain ⟨i,hi,hz,hs,hb⟩:=info_parts (P:=Tryz.prog) (e:=5) (z := .int .u8 0) (size:=1) (bytes:=1) (by kernel_rfl)
 obtain ⟨v2,w2,g1,-,-,g4⟩:=Lib.run_append_own_string (P:=Tryz.prog) w 0 82 9 ty 5 i (by kernel_rfl) (by kernel_rfl) hi hz hs hb _ _ _ hown (str s) (by rw [str_size];unfold maxLen;omega) (by rw [str_size];omega) (Nat.zero_le _)
 rw [h1] at g1
 injection g1 with e1 e2
 subst e1 e2
 obtain ⟨ao',cap',rfl⟩:=own_form0 h2
 have e:Lib.byteCells l++byt s=Lib.byteCells (l++s):=by simp [Lib.byteCells,byt]
 rw [e] at h2
 refine ⟨ao',_,cap',w',h1,h2,h3,h4,fun hls=>?_⟩
 obtain ⟨rfl,rfl⟩:=List.append_eq_nil_iff.1 hls
 have hao:=hnil rfl
 subst hao
 have h5:n=0∧cap=0:=by
  rcases hown.2 with ⟨h6,_⟩ | ⟨g,c,cur,h6,_⟩
  · injection h6 with _ a b
    exact ⟨a,b⟩
  · cases h6
 obtain ⟨rfl,rfl⟩:=h5
 have:=g4.2 ⟨rfl,rfl⟩
 injection this
theorem own_lt0 {w:World} {e:TypeId} {v:Value} {n:Nat} {xs:List Value} (h:w.ownsRow 0 e 1 v n xs) {k:Nat} (hk:v.ownBlock=some k):k<w.heap.size:=(h.lt k hk).2
open Go.Sy in
set_option maxRecDepth 100000 in
theorem writeString_any (b:Nat) (l s:List UInt8) (w:World) (hb:Bu b l w) (hlen:l.length+s.length≤140737488355328):
  Calls Tryz.prog 61 #[.pointer (some ⟨b,0,none⟩),.string (str s)] w fun e w'=>e = .returned (.tuple #[.int .i64 s.length,.nilIface])∧WrR b (l++s) w w':=by
 obtain ⟨p,ao,n,cap,hp,hbk,hown,hne,hnil⟩:=hb
 have hblt:b<w.heap.size:=(Array.getElem?_eq_some_iff.1 hbk).1
 refine Sy.enter (vs:=[.pointer (some ⟨b,0,none⟩),.string (str s)]) sy_fine Tryz.func61 rfl (fun γ=>norms_LR _) rfl (fun γ0 hγ0=>?_)
 refine rk ?_
 refine good_callW (sy_cx _ _) [.pointer (some ⟨b,0,none⟩)] (fun k=>k=b) (Pr:=fun w1 r w2=>r = .tuple #[]∧w2.heap[b]?=some (.cells #[.pointer (some ⟨b,0,none⟩),.slice ao n cap] 86 (0,0))) (by kernel_rfl) (by kernel_rfl) (by kernel_rfl) (by kernel_rfl) (fun k e=>by subst e;exact hblt)
  (fun W hk=>(copyCheck_any b p (.slice ao n cap) W hp ((hk.block b hblt).trans hbk)).mono fun e w' ⟨h1,h2,h3⟩=>⟨_,h1,⟨rfl,h2⟩,h3⟩) ?_
 rintro w1 r w2 B2 hk1 ⟨rfl,hb2⟩ hk2 hk02 hB2 hB2n hB2s
 refine rk ?_
 have hog:∀ k,(Value.slice ao n cap).ownBlock=some k→k<w.heap.size:=fun k hk=>own_lt0 hown hk
 have hw2:∀ W,Keep B2 w2 W→∀ k,k<w.heap.size→k≠b→W.heap[k]?=w.heap[k]?:=fun W hk k h1 h2=>
  (hk.block k (hB2 k h1)).trans (hk02.block k ⟨h1,h2⟩)
 have hbW:∀ W,Keep B2 w2 W→W.heap[b]?=some (.cells #[.pointer (some ⟨b,0,none⟩),.slice ao n cap] 86 (0,0)):=fun W hk=>(hk.block b (hB2 b hblt)).trans hb2
 have hs2:=hk02.size
 refine gV (.slice ao n cap) (S:=Instr.loadAt 82 (.pointer (some ⟨b,1,none⟩))) (fun W hk=>load_cell (o:=0) (j:=1) (by kernel_rfl) (by rw [Lib.cell_of_heap (hbW W hk)];rfl)) ?_
 refine rs [14] 60 0 ?_
 refine good_biW .append [82,9] [.slice ao n cap,.string (str s)] (fun k=>(Value.slice ao n cap).ownBlock=some k)
  (Pr:=fun W r W'=>∃ ao' n' cap',r = .slice ao' n' cap'∧W'.ownsRow 0 5 1 r (l.length+s.length) (Lib.byteCells (l++s))∧W.grownBy W' (Value.slice ao n cap).ownBlock∧SameOrNew W (.slice ao n cap) r∧(l++s=[]→ao'=none))
  (by kernel_rfl) (by kernel_rfl) (fun k hk=>hB2 k (hog k hk)) (fun W hk hs ty cs=>?g2) ?g3
 case g2=>
  obtain ⟨ao',n',cap',W',h1,h2,h3,h4,h5⟩:=app_strB ty ao n cap l s W (own_kept0 hown fun k hk2=>hw2 W hk k (hog k hk2) (fun e=>hne (e ▸ hk2))) hlen hnil
  refine ⟨_,W',?_,⟨ao',n',cap',rfl,h2,h3,h4,h5⟩,⟨h3.os,h3.tape,h3.output,h3.size,fun k hk2=>h3.block k hk2.1 (fun e=>hk2.2 e.symm)⟩⟩
  simp only [builtin,Sem.run_bind,h1,Result.andThen_ok,Sem.run_pure]
 rintro w3 r w4 B4 hk3 ⟨ao',n',cap',rfl,hown',hgrow,hsn,hnil'⟩ hk4 hk24 hB4 hB4n hB4s
 have hb4:w4.heap[b]?=some (.cells #[.pointer (some ⟨b,0,none⟩),.slice ao n cap] 86 (0,0)):=(hk24.block b ⟨hB2 b hblt,hne⟩).trans hb2
 have hbnew:(Value.slice ao' n' cap').ownBlock≠some b:=Lib.ownBlock_ne hown' hb4 (by decide)
 refine rk ?_
 have hb4k:∀ k,(Value.slice ao' n' cap').ownBlock=some k→B4 k:=fun k hk=>(hsn k hk).elim (fun h=>hB4 _ (hB2 _ (hog k h))) (fun h=>hB4n k h (own_lt0 hown' hk))
 refine good_storeW 82 (.pointer (some ⟨b,1,none⟩)) (.slice ao' n' cap') (fun k=>k=b) (Pr:=fun W W'=>W'.heap[b]?=some (.cells #[.pointer (some ⟨b,0,none⟩),.slice ao' n' cap'] 86 (0,0))) (by kernel_rfl) (by kernel_rfl) (fun k e=>by subst e;exact hB4 _ (hB2 _ hblt)) (fun W hk=>?g4) ?g5
 case g4=>
  have hW:=(hk.block b (hB4 _ (hB2 _ hblt))).trans hb4
  refine ⟨_,store_soft (o:=1) (by kernel_rfl) hW (by simp) rfl rfl,setRow_heap _ _ _ _ _ _ hW,⟨rfl,rfl,rfl,by simp,fun k hk=>setRow_other _ _ _ _ hk.2⟩⟩
 rintro w5 w6 B6 hk5 hb6 hk6 hk46 hB6 hB6s
 refine rk ?_
 have hs4:=hk24.size
 have hs6:=hk46.size
 have hs3:=hk3.size
 refine gR (.tuple #[.int .i64 (str s).size,.nilIface]) (fun W hk=>⟨by rw [str_size],⟨?_,?_,?_⟩⟩)
 · refine ⟨_,ao',n',cap',.inr rfl,(hk.block b (hB6 _ (hB4 _ (hB2 _ hblt)))).trans hb6,?_,hbnew,hnil'⟩
   have:=own_kept0 hown' (W:=W) fun k hk2=>(hk.block k (hB6 k (hb4k k hk2))).trans (hk46.block k ⟨hb4k k hk2,fun e=>hbnew (e ▸ hk2)⟩)
   rw [List.length_append]
   exact this
 · refine ⟨hk.os.trans (hk46.os.trans (hk24.os.trans hk02.os)),hk.tape.trans (hk46.tape.trans (hk24.tape.trans hk02.tape)),hk.output.trans (hk46.output.trans (hk24.output.trans hk02.output)),by have:=hk.size;omega,fun k hk2=>?_⟩
   have hnb:k≠b:=fun e=>hk2.2 (.inl e)
   have hno:¬ (Value.slice ao n cap).ownBlock=some k:=fun e=>hk2.2 ((BuF.at_ hbk).2 (.inr e))
   exact (hk.block k (hB6 _ (hB4 _ (hB2 _ hk2.1)))).trans ((hk46.block k ⟨hB4 _ (hB2 _ hk2.1),hnb⟩).trans ((hk24.block k ⟨hB2 _ hk2.1,hno⟩).trans (hk02.block k ⟨hk2.1,hnb⟩)))
 · intro k hk2
   rcases (BuF.at_ ((hk.block b (hB6 _ (hB4 _ (hB2 _ hblt)))).trans hb6)).1 hk2 with h | h
   · exact .inl (.inl h)
   · rcases hsn k h with h | h
     · exact .inl ((BuF.at_ hbk).2 (.inr h))
     · exact .inr (by omega)
theorem Bu.slice {b:Nat} {l:List UInt8} {w:World} (h:Bu b l w):∃ p ao cap,(p = .pointer none∨p = .pointer (some ⟨b,0,none⟩))∧w.heap[b]?=some (.cells #[p,.slice ao l.length cap] 86 (0,0))∧
  w.ownsRow 0 5 1 (.slice ao l.length cap) l.length (Lib.byteCells l)∧(Value.slice ao l.length cap).ownBlock≠some b∧(l=[]→ao=none):=by
 obtain ⟨p,ao,n,cap,h1,h2,h3,h4,h5⟩:=h
 have:n=l.length:=by
  obtain ⟨_,_,h6⟩:=own_form0 h3
  injection h6
 subst this
 exact ⟨p,ao,cap,h1,h2,h3,h4,h5⟩
open Go.Sy in
set_option maxRecDepth 100000 in
theorem bLen_any (b:Nat) (l:List UInt8) (w:World) (hb:Bu b l w):
  Calls Tryz.prog 169 #[.pointer (some ⟨b,0,none⟩)] w fun e w'=>e = .returned (.int .i64 l.length)∧Below w.heap.size w w':=by
 obtain ⟨p,ao,cap,hp,hbk,hown,hne,hnil⟩:=hb.slice
 have hblt:b<w.heap.size:=(Array.getElem?_eq_some_iff.1 hbk).1
 refine Sy.enter (vs:=[.pointer (some ⟨b,0,none⟩)]) sy_fine Tryz.func169 rfl (fun γ=>norms_LR _) rfl (fun γ0 hγ0=>?_)
 refine rk ?_
 refine gV (.slice ao l.length cap) (S:=Instr.loadAt 82 (.pointer (some ⟨b,1,none⟩))) (fun W hk=>load_cell (o:=0) (j:=1) (by kernel_rfl) (by rw [Lib.cell_of_heap ((hk.block b hblt).trans hbk)];rfl)) ?_
 refine rk ?_
 exact gR (.int .i64 l.length) (fun W hk=>⟨rfl,hk.below⟩)
theorem bString_any (b:Nat) (l:List UInt8) (w:World) (hb:Bu b l w):
  Calls Tryz.prog 33 #[.pointer (some ⟨b,0,none⟩)] w fun e w'=>e = .returned (.string (str l))∧Sy.Keep (fun k=>k<w.heap.size∧¬ BuF b w k) w w':=by
 obtain ⟨p,ao,cap,hp,hbk,hown,hne,hnil⟩:=hb.slice
 have k0:Sy.Keep (fun k=>k<w.heap.size∧¬ BuF b w k) w w.drew:=(Sy.Keep.refl _ w).drew
 by_cases h0:l=[]
 · subst h0
   obtain rfl:=hnil rfl
   refine (string_in (L:={ Tryz.lays105 with }) Tryz.Builder_Extra_105 86 b 0 cap none none p (str []) w w.drew hbk rfl (Lib.run_unsafeString_none w.drew _ _ _ none)).mono ?_
   rintro e w' ⟨rfl,rfl⟩
   exact ⟨rfl,k0⟩
 · have hl0:l.length≠0:=by simpa using h0
   obtain ⟨g,cap',cur,hv,-,hg,hnc,hcm,hcs,htake⟩:∃ g cap' cur,Value.slice ao l.length cap = .slice (some ⟨g,0,none⟩) l.length cap'∧0≤g∧w.heap[g]?=some (.cells cur 5 (0,0))∧l.length≤cap'∧cap'≤maxLen∧cur.size=cap'*1∧cur.toList.take (l.length*1)=Lib.byteCells l:=by
    rcases hown.2 with ⟨_,hz⟩ | ⟨g,cap',cur,hv,r⟩
    · exact absurd hz hl0
    · exact ⟨g,cap',cur,hv,r⟩
   injection hv with e1 _ e3
   subst e1 e3
   refine (string_in (L:={ Tryz.lays105 with }) Tryz.Builder_Extra_105 86 b l.length cap (some ⟨g,0,none⟩) (some ⟨g,0,none⟩) p (str l) w (w.drew.freeze ⟨g,0,none⟩ l.length) hbk (Lib.run_unsafeSliceData_row _ _ _ _ _ _ (by omega)) ?_).mono ?_
   · refine Lib.run_unsafeString_row w.drew _ _ _ 5 (by kernel_rfl) (by kernel_rfl) g cur.size (by have hg':w.drew.heap[g]?=some (.cells cur 5 (0,0)):=hg;simp [World.shape?,hg']) l h0 (by omega) (by unfold maxLen at hcm;omega) ?_
     intro j x hx
     exact hown.cells (g:=g) rfl j (.int .u8 x.toNat) (by simp [Lib.byteCells,hx])
   · rintro e w' ⟨rfl,rfl⟩
     exact ⟨rfl,k0.freeze (p:=⟨g,0,none⟩) (fun h=>h.2 ((BuF.at_ hbk).2 (.inr rfl))) _⟩
structure Ch (b:Nat) (l:List UInt8) (A:Nat→Prop) (win w:World) (B:Nat→Prop):Prop where
 bu:Bu b l w
 bB:∀ k,BuF b w k→B k
 AB:∀ k,A k→B k
 kp:Sy.Keep A win w
 old:∀ k,BuF b w k→BuF b win k∨win.heap.size≤k
 A0:∀ k,A k→k<win.heap.size∧¬ BuF b win k
theorem Ch.disj {b:Nat} {l:List UInt8} {A B:Nat→Prop} {win w:World} (h:Ch b l A win w B) {k:Nat} (hA:A k):¬ BuF b w k:=fun hF=>by
 have:=h.A0 k hA
 rcases h.old k hF with h1 | h1
 · exact this.2 h1
 · omega
def Out (b:Nat) (w:World) (k:Nat):Prop:=k<w.heap.size∧¬ BuF b w k
theorem Bu.at_ {b:Nat} {l:List UInt8} {w W:World} (h:Bu b l w) (hk:∀ k,BuF b w k→W.heap[k]?=w.heap[k]?):Bu b l W∧(∀ k,BuF b W k↔BuF b w k):=by
 obtain ⟨p,ao,cap,h1,h2,h3,h4,h5⟩:=h.slice
 have h6:=(hk b (.inl rfl)).trans h2
 exact ⟨⟨p,ao,_,cap,h1,h6,own_kept0 h3 fun k hk2=>hk k ((BuF.at_ h2).2 (.inr hk2)),h4,h5⟩,fun k=>(BuF.at_ h6).trans (BuF.at_ h2).symm⟩
theorem Bu.lt {b:Nat} {l:List UInt8} {w:World} (h:Bu b l w) {k:Nat} (hk:BuF b w k):k<w.heap.size:=by
 obtain ⟨p,ao,cap,h1,h2,h3,h4,h5⟩:=h.slice
 rcases (BuF.at_ h2).1 hk with rfl | h6
 · exact (Array.getElem?_eq_some_iff.1 h2).1
 · exact own_lt0 h3 h6
theorem Ch.start {b:Nat} {l:List UInt8} {w:World} (h:Bu b l w):Ch b l (Out b w) w w (·<w.heap.size):=
 ⟨h,fun k hk=>h.lt hk,fun k hk=>hk.1,Sy.Keep.refl _ _,fun k hk => .inl hk,fun k hk=>hk⟩
theorem Ch.seen {b:Nat} {l:List UInt8} {A B:Nat→Prop} {win w W:World} (h:Ch b l A win w B) (hk:Sy.Keep B w W):Bu b l W∧(∀ k,BuF b W k↔BuF b w k):=
 h.bu.at_ fun k hF=>hk.block k (h.bB k hF)
theorem Ch.keep {b:Nat} {l:List UInt8} {A B:Nat→Prop} {win w W:World} (h:Ch b l A win w B) (hk:Sy.Keep B w W):Sy.Keep A win W:=h.kp.trans (hk.mono h.AB)
theorem Ch.fin {b:Nat} {l:List UInt8} {B:Nat→Prop} {win w W:World} (h:Ch b l (Out b win) win w B) (hk:Sy.Keep B w W):WrR b l win W:=
 ⟨(h.seen hk).1,h.keep hk,fun k hF=>h.old k (((h.seen hk).2 k).1 hF)⟩
section
open Go.Sy
variable {P:Program} {I:Aux} {B:Nat→Prop} {w0:World} {γ0:Gm} {nt:Nat} {Q:Exit→Act→World→Prop} {g:Cfg}
theorem good_wr (cx:Cx P I B w0) {f:FuncId} (xs:List Value) (b:Nat) (t:List UInt8) (r0:Value) {l:List UInt8} {A:Nat→Prop} {win:World} (hch:Ch b l A win w0 B) (h:hdCall P nt g=some (f,xs.map norm)) (hbod:bodied P f=some true) (hx:closeLL (xs.map norm)=some xs)
  (hown:trAll blkOwned g.s.h=true)
  (hc:∀ w,Keep B w0 w→Bu b l w→(∀ k,A k→Out b w k)→Calls P f xs.toArray w fun e w'=>e = .returned r0∧WrR b (l++t) w w')
  (hg:∀ w' B',Ch b (l++t) A win w' B'→(∀ k,B k→B' k)→Keep (fun k=>B k∧¬ BuF b w0 k) w0 w'→Sy.Good P B' w' γ0 nt Q (nx0 g (norm r0))):Sy.Good P B w0 γ0 nt Q g:=by
 refine good_callW cx xs (BuF b w0) (Pr:=fun w r w'=>r=r0∧WrR b (l++t) w w') h hbod hx hown hch.bB (fun w hk=>?_) ?_
 · obtain ⟨h1,h2⟩:=hch.seen hk
   refine (hc w hk h1 (fun k hA=>?_)).mono fun e w' ⟨e1,e2⟩=>⟨r0,e1,⟨rfl,e2⟩,e2.kp.mono fun k hk2=>⟨hk2.1,fun hF=>hk2.2 ((h2 k).1 hF)⟩⟩
   exact ⟨Nat.lt_of_lt_of_le (hch.A0 k hA).1 (hch.keep hk).size,fun hF=>hch.disj hA ((h2 k).1 hF)⟩
 · rintro w r w' B' hk ⟨rfl,hR⟩ h1 h2 h3 h4 h5
   refine hg w' B' ⟨hR.bu,fun k hF=>?_,fun k hA=>h3 k (hch.AB k hA),?_,fun k hF=>?_,hch.A0⟩ h3 h2
   · rcases hR.old k hF with h | h
     · exact h3 k (hch.bB k (((hch.seen hk).2 k).1 h))
     · exact h4 k h (hR.bu.lt hF)
   · exact hch.kp.trans (h2.mono fun k hA=>⟨hch.AB k hA,hch.disj hA⟩)
   · rcases hR.old k hF with h | h
     · exact hch.old k (((hch.seen hk).2 k).1 h)
     · exact .inr (Nat.le_trans (Nat.le_trans hch.kp.size hk.size) h)
end
end
end Go.Proofs.YtinjiigdijbjeaaGreatDoor
section
namespace Go.Proofs.YtinjiigdijbjeaaGreatDoor
open Go.RowKit Go.As Go.Sy
section
variable {B:Nat→Prop} {w0:World} {γ0:Gm} {nt:Nat} {Q:Exit→Act→World→Prop} {g:Cfg}
theorem gH {f:FuncId} (xs:List Value) (b:Nat) (t:List UInt8) (r0:Value) {l:List UInt8} {A:Nat→Prop} {win:World} (hch:Ch b l A win w0 B)
  (hc:∀ w,Keep B w0 w→Bu b l w→(∀ k,A k→Out b w k)→Calls Tryz.prog f xs.toArray w fun e w'=>e = .returned r0∧WrR b (l++t) w w')
  (hg:∀ w' B',Ch b (l++t) A win w' B'→(∀ k,B k→B' k)→Keep (fun k=>B k∧¬ BuF b w0 k) w0 w'→Sy.Good Tryz.prog B' w' γ0 nt Q (nx0 g (norm r0)))
  (h:hdCall Tryz.prog nt g=some (f,xs.map norm):=by kernel_rfl) (hbod:bodied Tryz.prog f=some true:=by kernel_rfl) (hx:closeLL (xs.map norm)=some xs:=by kernel_rfl) (hown:trAll blkOwned g.s.h=true:=by kernel_rfl):Sy.Good Tryz.prog B w0 γ0 nt Q g:=
 good_wr (sy_cx _ _) xs b t r0 hch h hbod hx hown hc hg
theorem gw (b:Nat) (t:List UInt8) {l:List UInt8} {A:Nat→Prop} {win:World} (hch:Ch b l A win w0 B) (hl:l.length+t.length≤140737488355328)
  (hg:∀ w' B',Ch b (l++t) A win w' B'→(∀ k,B k→B' k)→Keep (fun k=>B k∧¬ BuF b w0 k) w0 w'→Sy.Good Tryz.prog B' w' γ0 nt Q (nx0 g (norm (.tuple #[.int .i64 (t.length:Int),.nilIface]))))
  (h:hdCall Tryz.prog nt g=some (61,[norm (.pointer (some ⟨b,0,none⟩)),norm (.string (str t))]):=by kernel_rfl) (hx:closeLL ([norm (.pointer (some ⟨b,0,none⟩)),norm (.string (str t))])=some [.pointer (some ⟨b,0,none⟩),.string (str t)]:=by kernel_rfl) (hown:trAll blkOwned g.s.h=true:=by kernel_rfl):Sy.Good Tryz.prog B w0 γ0 nt Q g:=
 good_wr (sy_cx _ _) [.pointer (some ⟨b,0,none⟩),.string (str t)] b t (.tuple #[.int .i64 (t.length:Int),.nilIface]) hch h (by kernel_rfl) hx hown (fun W hk hbu hA=>writeString_any b l t W hbu hl) hg
end
end Go.Proofs.YtinjiigdijbjeaaGreatDoor
end
namespace Go.Proofs.YtinjiigdijbjeaaGreatDoor
open Go.RowKit Go.As
section
theorem Tab.out {b:Nat} {l:List UInt8} {w w':World} (h:Tab w) (hb:Bu b l w) (hk:Sy.Keep (Out b w) w w'):Tab w':=by
 unfold Tab Lib.TabIs World.var? at *
 cases hg:Tryz.prog.globalNamed "internal/strconv.uint64pow10" with
 | none=>simp [hg] at h
 | some g=>
   simp only [hg,Option.bind_some] at h ⊢
   have hlt:g<w.heap.size:=by
    rcases Nat.lt_or_ge g w.heap.size with h' | h'
    · exact h'
    · rw [Array.getElem?_eq_none h'] at h;simp at h
   have hno:¬ BuF b w g:=fun hF=>by
    obtain ⟨p,ao,cap,h1,h2,h3,h4,h5⟩:=hb.slice
    rcases (BuF.at_ h2).1 hF with rfl | h6
    · rw [h2] at h
      simp only [Option.some.injEq] at h
      have:=congrArg Array.size h
      simp [Lib.pow10Tab] at this
    · by_cases hl:l=[]
      · rw [h5 hl] at h6;simp [Value.ownBlock] at h6
      · rcases h3.2 with ⟨h7,_⟩ | ⟨g',cap',cur,h7,_,h8,_,_,_,h9⟩
        · rw [h7] at h6;simp [Value.ownBlock] at h6
        · injection h7 with e1
          subst e1
          simp only [Value.ownBlock,Option.some.injEq] at h6
          subst h6
          rw [h8] at h
          simp only [Option.some.injEq] at h
          subst h
          cases l with
          | nil=>exact hl rfl
          | cons x l=>
            have:=congrArg (fun z=>z[0]?) h9
            simp [Lib.byteCells,Lib.pow10Tab,List.getElem?_take] at this
   rw [hk.block g ⟨hlt,hno⟩]
   exact h
theorem exT_one {kids:List Ex} {ks:List (List UInt8)} {t:List UInt8} {f:List UInt8→List UInt8} (hks:exTs kids=some ks) (h:(match (generalizing:=false) ks with | [a]=>some (f a) | _=>none)=some t):∃ x tx,kids=[x]∧exT x=some tx∧t=f tx:=by
 have hl:=exTs_len hks
 match ks,hks,h,hl with
 | [ta],hks,h,hl=>
   injection h with h
   match kids,hks,hl with
   | [x],hks,_=>
     simp only [exTs] at hks
     split at hks
     · cases hks
     rename_i tx htx
     injection hks with hks
     injection hks with hks
     subst hks
     exact ⟨x,tx,rfl,htx,h.symm⟩
theorem exT_two {kids:List Ex} {ks:List (List UInt8)} {t:List UInt8} {f:List UInt8→List UInt8→List UInt8} (hks:exTs kids=some ks) (h:(match (generalizing:=false) ks with | [a,b]=>some (f a b) | _=>none)=some t):∃ x y tx ty,kids=[x,y]∧exT x=some tx∧exT y=some ty∧t=f tx ty:=by
 have hl:=exTs_len hks
 match ks,hks,h,hl with
 | [ta,tb],hks,h,hl=>
   injection h with h
   match kids,hks,hl with
   | [x,y],hks,_=>
     simp only [exTs] at hks
     split at hks
     · cases hks
     rename_i tx htx
     split at hks
     · cases hks
     rename_i ts hts
     split at hts
     · cases hts
     rename_i ty' hty
     injection hts with hts
     injection hks with hks
     subst hts
     injection hks with e1 e2
     injection e2 with e2 _
     subst e1 e2
     exact ⟨x,y,_,_,rfl,htx,hty,h.symm⟩
theorem exT_inv {op ty bits:Int} {name t:List UInt8} {kids:List Ex} (h:exT (.mk op ty bits name kids)=some t):
  (op=1∧kids=[]∧litT ty bits=some t)∨(op=2∧kids=[]∧t=name)∨
  (op=18∧∃ x tx,kids=[x]∧exT x=some tx∧t=[105,110,116,40]++(tx++[41]))∨(op=19∧∃ x tx,kids=[x]∧exT x=some tx∧t=[114,101,97,108,40]++(tx++[41]))∨
  (op=16∧∃ x tx,kids=[x]∧exT x=some tx∧t=[45]++tx)∨(op=17∧∃ x tx,kids=[x]∧exT x=some tx∧t=[33]++tx)∨
  ((3≤op∧op≤15)∧∃ x y tx ty',kids=[x,y]∧exT x=some tx∧exT y=some ty'∧t=[40]++(tx++(([32]++psignT op++[32])++(ty'++[41])))):=by
 simp only [exT] at h
 split at h
 · cases h
 split at h
 · cases h
 rename_i ks hks
 have hl:=exTs_len hks
 by_cases c1:op=1
 · rw [if_pos c1] at h
   cases ks with
   | nil=>exact .inl ⟨c1,List.eq_nil_of_length_eq_zero hl.symm,h⟩
   | cons _ _=>cases h
 rw [if_neg c1] at h
 by_cases c2:op=2
 · rw [if_pos c2] at h
   cases ks with
   | nil=>
     simp only at h
     split at h
     · injection h with h
       exact .inr (.inl ⟨c2,List.eq_nil_of_length_eq_zero hl.symm,h.symm⟩)
     · cases h
   | cons _ _=>cases h
 rw [if_neg c2] at h
 by_cases c3:3≤op∧op≤15
 · rw [if_pos c3] at h
   obtain ⟨x,y,tx,ty',e1,e2,e3,e4⟩:=exT_two (f:=fun a b=>40::(a++(32::(signT op++(32::(b++[41])))))) hks h
   refine .inr (.inr (.inr (.inr (.inr (.inr ⟨c3,x,y,tx,ty',e1,e2,e3,?_⟩)))))
   rw [e4]
   have:psignT op=signT op:=by unfold psignT;rw [if_neg (by omega),if_neg (by omega)]
   rw [this]
   simp
 rw [if_neg c3] at h
 by_cases c4:op=16
 · rw [if_pos c4] at h
   exact .inr (.inr (.inr (.inr (.inl ⟨c4,exT_one (f:=fun a=>[45]++a) hks h⟩))))
 rw [if_neg c4] at h
 by_cases c5:op=17
 · rw [if_pos c5] at h
   exact .inr (.inr (.inr (.inr (.inr (.inl ⟨c5,exT_one (f:=fun a=>[33]++a) hks h⟩)))))
 rw [if_neg c5] at h
 by_cases c6:op=18
 · rw [if_pos c6] at h
   exact .inr (.inr (.inl ⟨c6,exT_one (f:=fun a=>[105,110,116,40]++(a++[41])) hks h⟩))
 rw [if_neg c6] at h
 by_cases c7:op=19
 · rw [if_pos c7] at h
   exact .inr (.inr (.inr (.inl ⟨c7,exT_one (f:=fun a=>[114,101,97,108,40]++(a++[41])) hks h⟩)))
 rw [if_neg c7] at h
 cases h
end
section
set_option maxRecDepth 100000
def tyK (op:Int):List Int→Int
 | [a]=>if a=0 then 0 else resT op a 0
 | [a,b]=>if a=0 then 0 else if b=0 then 0 else resT op a b
 | _=>0
mutual
def tyO (th:Thg):Ex→Int
 | .mk op ty _ name kids=>if op=1 then ty else if op=2 then (thOf th name).2 else tyK op (tyOs th kids)
def tyOs (th:Thg):List Ex→List Int
 | []=>[]
 | e::l=>tyO th e::tyOs th l
end
theorem tyO_kids {th:Thg} {op ty bits:Int} {name:List UInt8} {kids:List Ex} (c1:¬ op=1) (c2:¬ op=2):tyO th (.mk op ty bits name kids)=tyK op (tyOs th kids):=by
 rw [tyO,if_neg c1,if_neg c2]
open Go.Sy
theorem cnone0_any (k0 k1:Int) (w:World):CB 76 #[.agg #[n8 k0,n8 k1],nI 0] w (.bool (intEq k0 0)):=by
 refine eN [.agg #[n8 k0,n8 k1],nI 0] Tryz.func76 (fun γ0 hγ0=>?_)
 refine rs [] 60 5 ?_
 exact gR (.bool (intEq k0 0)) (fun W hk=>⟨rfl,hk.below⟩)
theorem cnone1_any (k0 k1:Int) (w:World):CB 76 #[.agg #[n8 k0,n8 k1],nI 1] w (.bool (intEq k1 0)):=by
 refine eN [.agg #[n8 k0,n8 k1],nI 1] Tryz.func76 (fun γ0 hγ0=>?_)
 refine rs [] 60 5 ?_
 exact gR (.bool (intEq k1 0)) (fun W hk=>⟨rfl,hk.below⟩)
theorem ctype_lit (km:Nat) (ty bits:Int) (name:List UInt8) (a:Option Addr) (cap:Nat) (w:World):CB 39 #[.map (some km),xV 1 ty bits name a 0 cap] w (n8 (ty)):=by
 refine eN [.map (some km),xV 1 ty bits name a 0 cap] Tryz.func39 (fun γ0 hγ0=>?_)
 refine rk ?_
 refine good_toLp ?_
 refine good_loop (by kernel_rfl) ?_
 refine rs [] 60 9 ?_
 exact gR (n8 ty) (fun W hk=>⟨rfl,hk.below⟩)
theorem ctype_name (km:Nat) (th:Thg) (ty bits:Int) (name:List UInt8) (a:Option Addr) (cap:Nat) (w:World) (hm:ThgAt (·<w.heap.size) w km th):CB 39 #[.map (some km),xV 2 ty bits name a 0 cap] w (n8 ((thOf th name).2)):=by
 refine eN [.map (some km),xV 2 ty bits name a 0 cap] Tryz.func39 (fun γ0 hγ0=>?_)
 refine rk ?_
 refine good_toLp ?_
 refine good_loop (by kernel_rfl) ?_
 refine rs [39] 60 9 ?_
 refine gV (.agg #[nI (thOf th name).1,n8 (thOf th name).2]) (S:=Instr.lookup 96 (.map (some km)) (nT name) false) (fun W hk=>thg_look hm name hk) ?_
 refine rs [] 60 3 ?_
 exact gR (n8 (thOf th name).2) (fun W hk=>⟨rfl,hk.below⟩)
theorem ctype_1 (km:Nat) (th:Thg) (N:Nat) (ihN:∀ (e:Ex) (cs:List Value) (w:World) (t:List UInt8),wgt e≤N→exT e=some t→ThgAt (·<w.heap.size) w km th→ExAt (·<w.heap.size) w e cs→
  CB 39 #[.map (some km),.agg cs.toArray] w (n8 (tyO th e)))
  (op ty bits:Int) (name:List UInt8) (op1 ty1 bits1:Int) (name1:List UInt8) (kids1:List Ex) (t1:List UInt8) (ht1:exT (Ex.mk op1 ty1 bits1 name1 kids1)=some t1) (hw1:wgt (Ex.mk op1 ty1 bits1 name1 kids1)≤N) (a:Option Addr) (cap:Nat) (xs:List Value) (w:World) (hop:3≤op∧op≤19) (hm:ThgAt (·<w.heap.size) w km th)
  (hsl:SlAt (·<w.heap.size) w a 1 5 xs) (hks:ExsAt (·<w.heap.size) w [(Ex.mk op1 ty1 bits1 name1 kids1)] xs):
  CB 39 #[.map (some km),xV op ty bits name a 1 cap] w (n8 (tyO th (.mk op ty bits name [(Ex.mk op1 ty1 bits1 name1 kids1)]))):=by
 have c1:¬ op=1:=by omega
 have c2:¬ op=2:=by omega
 refine eN [.map (some km),xV op ty bits name a 1 cap] Tryz.func39 (fun γ0 hγ0=>?_)
 refine rk ?_
 refine good_toLp ?_
 obtain ⟨c1,hc1,hcell1⟩:=ExsAt.at_ (l1:=([]:List Ex)) (e:=(Ex.mk op1 ty1 bits1 name1 kids1)) (l3:=[]) hks
 have hcl1:=hc1.len
 have hc10:=hc1
 simp only [ExAt] at hc10
 obtain ⟨a1,cap1,xs1,rfl,_⟩:=hc10
 refine good_loop (by kernel_rfl) ?_
 refine rs [] 60 1 ?_
 refine gI 27 29 cap (([]:List Ex).length) hsl (show ([]:List Ex).length<1 by simp) ?_
 refine rk ?_
 refine gV (xV op1 ty1 bits1 name1 a1 kids1.length cap1) (S:=Instr.loadAt 29 (.pointer (some ⟨gB a,oB a+([]:List Ex).length*5+0,none⟩))) (fun W hk=>load_slA (P:=Tryz.prog) (ty:=29) (m:=5) (cs:=(xL op1 ty1 bits1 name1 a1 kids1.length cap1)) hsl (by kernel_rfl) (by kernel_rfl) (([]:List Ex).length) 0 hcl1 hcell1 (W:=W) hk) ?_
 refine rs [] 60 1 ?_
 refine gX [.map (some km),xV op1 ty1 bits1 name1 a1 kids1.length cap1] (n8 (tyO th (Ex.mk op1 ty1 bits1 name1 kids1))) (fun W hk=>ihN (Ex.mk op1 ty1 bits1 name1 kids1) _ W t1 (by omega) ht1 (hm.keep hk (kU hk)) (hc1.keep hk (kU hk))) ?_
 refine rk ?_
 refine gX [.agg #[n8 (tyO th (Ex.mk op1 ty1 bits1 name1 kids1)),n8 (0)],nI 0] (.bool (intEq (tyO th (Ex.mk op1 ty1 bits1 name1 kids1)) 0)) (fun W hk=>cnone0_any _ _ W) ?_
 refine rk ?_
 by_cases z1:tyO th (Ex.mk op1 ty1 bits1 name1 kids1)=0
 ·
  refine kz (tyO th (Ex.mk op1 ty1 bits1 name1 kids1)) 0 z1 ?_
  refine rs [] 60 3 ?_
  exact gR (n8 0) (fun W hk=>⟨by rw [tyO_kids c1 c2];show _=Ending.returned (n8 (tyK op [tyO th (Ex.mk op1 ty1 bits1 name1 kids1)]));simp only [tyK];rw [if_pos z1],hk.below⟩)
 refine kw (tyO th (Ex.mk op1 ty1 bits1 name1 kids1)) 0 z1 ?_
 refine rk ?_
 refine good_loop (by kernel_rfl) ?_
 refine rs [] 60 1 ?_
 refine kw op 1 c1 ?_
 refine rk ?_
 refine kw op 2 c2 ?_
 refine rk ?_
 refine gX [n8 op,n8 (tyO th (Ex.mk op1 ty1 bits1 name1 kids1)),n8 (0)] (n8 (resT op (tyO th (Ex.mk op1 ty1 bits1 name1 kids1)) (0))) (fun W hk=>cresult_any _ _ _ W hop) ?_
 refine rs [] 60 3 ?_
 exact gR (n8 (resT op (tyO th (Ex.mk op1 ty1 bits1 name1 kids1)) (0))) (fun W hk=>⟨by rw [tyO_kids c1 c2];show _=Ending.returned (n8 (tyK op [tyO th (Ex.mk op1 ty1 bits1 name1 kids1)]));simp only [tyK];rw [if_neg z1],hk.below⟩)
theorem ctype_2 (km:Nat) (th:Thg) (N:Nat) (ihN:∀ (e:Ex) (cs:List Value) (w:World) (t:List UInt8),wgt e≤N→exT e=some t→ThgAt (·<w.heap.size) w km th→ExAt (·<w.heap.size) w e cs→
  CB 39 #[.map (some km),.agg cs.toArray] w (n8 (tyO th e)))
  (op ty bits:Int) (name:List UInt8) (op1 ty1 bits1:Int) (name1:List UInt8) (kids1:List Ex) (t1:List UInt8) (ht1:exT (Ex.mk op1 ty1 bits1 name1 kids1)=some t1) (hw1:wgt (Ex.mk op1 ty1 bits1 name1 kids1)≤N) (op2 ty2 bits2:Int) (name2:List UInt8) (kids2:List Ex) (t2:List UInt8) (ht2:exT (Ex.mk op2 ty2 bits2 name2 kids2)=some t2) (hw2:wgt (Ex.mk op2 ty2 bits2 name2 kids2)≤N) (a:Option Addr) (cap:Nat) (xs:List Value) (w:World) (hop:3≤op∧op≤19) (hm:ThgAt (·<w.heap.size) w km th)
  (hsl:SlAt (·<w.heap.size) w a 2 5 xs) (hks:ExsAt (·<w.heap.size) w [(Ex.mk op1 ty1 bits1 name1 kids1),(Ex.mk op2 ty2 bits2 name2 kids2)] xs):
  CB 39 #[.map (some km),xV op ty bits name a 2 cap] w (n8 (tyO th (.mk op ty bits name [(Ex.mk op1 ty1 bits1 name1 kids1),(Ex.mk op2 ty2 bits2 name2 kids2)]))):=by
 have c1:¬ op=1:=by omega
 have c2:¬ op=2:=by omega
 refine eN [.map (some km),xV op ty bits name a 2 cap] Tryz.func39 (fun γ0 hγ0=>?_)
 refine rk ?_
 refine good_toLp ?_
 obtain ⟨c1,hc1,hcell1⟩:=ExsAt.at_ (l1:=([]:List Ex)) (e:=(Ex.mk op1 ty1 bits1 name1 kids1)) (l3:=[(Ex.mk op2 ty2 bits2 name2 kids2)]) hks
 have hcl1:=hc1.len
 have hc10:=hc1
 simp only [ExAt] at hc10
 obtain ⟨a1,cap1,xs1,rfl,_⟩:=hc10
 refine good_loop (by kernel_rfl) ?_
 refine rs [] 60 1 ?_
 refine gI 27 29 cap (([]:List Ex).length) hsl (show ([]:List Ex).length<2 by simp) ?_
 refine rk ?_
 refine gV (xV op1 ty1 bits1 name1 a1 kids1.length cap1) (S:=Instr.loadAt 29 (.pointer (some ⟨gB a,oB a+([]:List Ex).length*5+0,none⟩))) (fun W hk=>load_slA (P:=Tryz.prog) (ty:=29) (m:=5) (cs:=(xL op1 ty1 bits1 name1 a1 kids1.length cap1)) hsl (by kernel_rfl) (by kernel_rfl) (([]:List Ex).length) 0 hcl1 hcell1 (W:=W) hk) ?_
 refine rs [] 60 1 ?_
 refine gX [.map (some km),xV op1 ty1 bits1 name1 a1 kids1.length cap1] (n8 (tyO th (Ex.mk op1 ty1 bits1 name1 kids1))) (fun W hk=>ihN (Ex.mk op1 ty1 bits1 name1 kids1) _ W t1 (by omega) ht1 (hm.keep hk (kU hk)) (hc1.keep hk (kU hk))) ?_
 refine rk ?_
 refine gX [.agg #[n8 (tyO th (Ex.mk op1 ty1 bits1 name1 kids1)),n8 (0)],nI 0] (.bool (intEq (tyO th (Ex.mk op1 ty1 bits1 name1 kids1)) 0)) (fun W hk=>cnone0_any _ _ W) ?_
 refine rk ?_
 by_cases z1:tyO th (Ex.mk op1 ty1 bits1 name1 kids1)=0
 ·
  refine kz (tyO th (Ex.mk op1 ty1 bits1 name1 kids1)) 0 z1 ?_
  refine rs [] 60 3 ?_
  exact gR (n8 0) (fun W hk=>⟨by rw [tyO_kids c1 c2];show _=Ending.returned (n8 (tyK op [tyO th (Ex.mk op1 ty1 bits1 name1 kids1),tyO th (Ex.mk op2 ty2 bits2 name2 kids2)]));simp only [tyK];rw [if_pos z1],hk.below⟩)
 refine kw (tyO th (Ex.mk op1 ty1 bits1 name1 kids1)) 0 z1 ?_
 refine rk ?_
 obtain ⟨c2,hc2,hcell2⟩:=ExsAt.at_ (l1:=[(Ex.mk op1 ty1 bits1 name1 kids1)]) (e:=(Ex.mk op2 ty2 bits2 name2 kids2)) (l3:=[]) hks
 have hcl2:=hc2.len
 have hc20:=hc2
 simp only [ExAt] at hc20
 obtain ⟨a2,cap2,xs2,rfl,_⟩:=hc20
 refine good_loop (by kernel_rfl) ?_
 refine rs [] 60 1 ?_
 refine gI 27 29 cap (([(Ex.mk op1 ty1 bits1 name1 kids1)]:List Ex).length) hsl (show ([(Ex.mk op1 ty1 bits1 name1 kids1)]:List Ex).length<2 by simp) ?_
 refine rk ?_
 refine gV (xV op2 ty2 bits2 name2 a2 kids2.length cap2) (S:=Instr.loadAt 29 (.pointer (some ⟨gB a,oB a+([(Ex.mk op1 ty1 bits1 name1 kids1)]:List Ex).length*5+0,none⟩))) (fun W hk=>load_slA (P:=Tryz.prog) (ty:=29) (m:=5) (cs:=(xL op2 ty2 bits2 name2 a2 kids2.length cap2)) hsl (by kernel_rfl) (by kernel_rfl) (([(Ex.mk op1 ty1 bits1 name1 kids1)]:List Ex).length) 0 hcl2 hcell2 (W:=W) hk) ?_
 refine rs [] 60 1 ?_
 refine gX [.map (some km),xV op2 ty2 bits2 name2 a2 kids2.length cap2] (n8 (tyO th (Ex.mk op2 ty2 bits2 name2 kids2))) (fun W hk=>ihN (Ex.mk op2 ty2 bits2 name2 kids2) _ W t2 (by omega) ht2 (hm.keep hk (kU hk)) (hc2.keep hk (kU hk))) ?_
 refine rk ?_
 refine gX [.agg #[n8 (tyO th (Ex.mk op1 ty1 bits1 name1 kids1)),n8 (tyO th (Ex.mk op2 ty2 bits2 name2 kids2))],nI 1] (.bool (intEq (tyO th (Ex.mk op2 ty2 bits2 name2 kids2)) 0)) (fun W hk=>cnone1_any _ _ W) ?_
 refine rk ?_
 by_cases z2:tyO th (Ex.mk op2 ty2 bits2 name2 kids2)=0
 ·
  refine kz (tyO th (Ex.mk op2 ty2 bits2 name2 kids2)) 0 z2 ?_
  refine rs [] 60 3 ?_
  exact gR (n8 0) (fun W hk=>⟨by rw [tyO_kids c1 c2];show _=Ending.returned (n8 (tyK op [tyO th (Ex.mk op1 ty1 bits1 name1 kids1),tyO th (Ex.mk op2 ty2 bits2 name2 kids2)]));simp only [tyK];rw [if_neg z1,if_pos z2],hk.below⟩)
 refine kw (tyO th (Ex.mk op2 ty2 bits2 name2 kids2)) 0 z2 ?_
 refine rk ?_
 refine good_loop (by kernel_rfl) ?_
 refine rs [] 60 1 ?_
 refine kw op 1 c1 ?_
 refine rk ?_
 refine kw op 2 c2 ?_
 refine rk ?_
 refine gX [n8 op,n8 (tyO th (Ex.mk op1 ty1 bits1 name1 kids1)),n8 (tyO th (Ex.mk op2 ty2 bits2 name2 kids2))] (n8 (resT op (tyO th (Ex.mk op1 ty1 bits1 name1 kids1)) (tyO th (Ex.mk op2 ty2 bits2 name2 kids2)))) (fun W hk=>cresult_any _ _ _ W hop) ?_
 refine rs [] 60 3 ?_
 exact gR (n8 (resT op (tyO th (Ex.mk op1 ty1 bits1 name1 kids1)) (tyO th (Ex.mk op2 ty2 bits2 name2 kids2)))) (fun W hk=>⟨by rw [tyO_kids c1 c2];show _=Ending.returned (n8 (tyK op [tyO th (Ex.mk op1 ty1 bits1 name1 kids1),tyO th (Ex.mk op2 ty2 bits2 name2 kids2)]));simp only [tyK];rw [if_neg z1,if_neg z2],hk.below⟩)
theorem ctype_any (km:Nat) (th:Thg):∀ (N:Nat),∀ (e:Ex) (cs:List Value) (w:World) (t:List UInt8),wgt e≤N→exT e=some t→ThgAt (·<w.heap.size) w km th→ExAt (·<w.heap.size) w e cs→
  CB 39 #[.map (some km),.agg cs.toArray] w (.int .u8 (tyO th e)):=by
 intro N
 induction N with
 | zero=>intro e cs w t h;have:=wgt_pos e;omega
 | succ N ihN=>
   intro e cs w t hN ht hm hat
   obtain ⟨op,ty,bits,name,kids⟩:=e
   simp only [ExAt] at hat
   obtain ⟨a,cap,xs,rfl,hsl,hks⟩:=hat
   simp only [wgt] at hN
   have one:∀ (x:Ex) (tx:List UInt8),3≤op∧op≤19→kids=[x]→exT x=some tx→CB 39 #[.map (some km),.agg [.int .u8 op,.int .u8 ty,.int .u64 bits,.string (str name),.slice a kids.length cap].toArray] w (.int .u8 (tyO th (.mk op ty bits name kids))):=fun x tx hop hk hx=>by
    subst hk
    obtain ⟨op1,ty1,bits1,name1,kids1⟩:=x
    simp only [wgts] at hN
    exact ctype_1 km th N ihN op ty bits name op1 ty1 bits1 name1 kids1 tx hx (by omega) a cap xs w hop hm hsl hks
   rcases exT_inv ht with ⟨h1,h2,h3⟩ | ⟨h1,h2,h3⟩ | ⟨h1,x,tx,h2,h3,h4⟩ | ⟨h1,x,tx,h2,h3,h4⟩ | ⟨h1,x,tx,h2,h3,h4⟩ | ⟨h1,x,tx,h2,h3,h4⟩ | ⟨h1,x,y,tx,tY,h2,h3,h4,h5⟩
   · subst h1 h2
     exact ctype_lit km ty bits name a cap w
   · subst h1 h2
     exact ctype_name km th ty bits name a cap w hm
   · exact one x tx (by omega) h2 h3
   · exact one x tx (by omega) h2 h3
   · exact one x tx (by omega) h2 h3
   · exact one x tx (by omega) h2 h3
   · subst h2
     obtain ⟨op1,ty1,bits1,name1,kids1⟩:=x
     obtain ⟨op2,ty2,bits2,name2,kids2⟩:=y
     simp only [wgts] at hN
     exact ctype_2 km th N ihN op ty bits name op1 ty1 bits1 name1 kids1 tx h3 (by omega) op2 ty2 bits2 name2 kids2 tY h4 (by omega) a cap xs w (by omega) hm hsl hks
end
section
theorem psignT_len (op:Int):(psignT op).length≤2:=by
 have key:∀ (c:Prop) [Decidable c] (a b:List UInt8),a.length≤2→b.length≤2→(if c then a else b).length≤2:=fun c _ a b h1 h2=>by
  by_cases hc:c
  · rw [if_pos hc];exact h1
  · rw [if_neg hc];exact h2
 unfold psignT signT
 repeat refine key _ _ _ (by decide) ?_
 decide
open Go.Sy in
set_option maxRecDepth 100000 in
theorem put_any:∀ (N:Nat) (e:Ex) (cs:List Value) (t l:List UInt8) (b:Nat) (w:World),wgt e≤N→exB e≤1000000000000→exR e→Tab w→exT e=some t→Bu b l w→l.length+t.length≤140737488355328→ExAt (Out b w) w e cs→
  Calls Tryz.prog 32 #[nP b,.agg cs.toArray] w fun e w'=>e = .returned (.tuple #[])∧WrR b (l++t) w w':=by
 intro N
 induction N with
 | zero=>
   intro e cs t l b w hN
   have:=wgt_pos e
   omega
 | succ N ihN=>
   intro e cs t l b w hN hB hR ht hT hb hlen hat
   obtain ⟨op,ty,bits,name,kids⟩:=e
   simp only [ExAt] at hat
   obtain ⟨a,cap,xs,rfl,hsl,hks⟩:=hat
   simp only [exR] at hR
   obtain ⟨hop,hty',hbit,hkR⟩:=hR
   obtain ⟨bn,rfl⟩:∃ bn:Nat,bits=(bn:Int):=⟨bits.toNat,by omega⟩
   have hbn:bn<18446744073709551616:=by omega
   simp only [wgt] at hN
   simp only [exB] at hB
   have h0:=Ch.start hb
   refine eN [nP b,xV op ty (bn:Int) name a kids.length cap] Tryz.func32 (fun γ0 hγ0=>?_)
   rcases exT_inv hT with ⟨rfl,rfl,hlit⟩ | ⟨rfl,rfl,rfl⟩ | ⟨rfl,x,tx,rfl,htx,rfl⟩ | ⟨rfl,x,tx,rfl,htx,rfl⟩ | ⟨rfl,x,tx,rfl,htx,rfl⟩ | ⟨rfl,x,tx,rfl,htx,rfl⟩ | ⟨⟨o1,o2⟩,x,y,tx,ty',rfl,htx,hty,rfl⟩
   ·
    refine rs [] 60 1 ?_
    refine good_drawL sy_mixed (by kernel_rfl) ?_
    refine q_run [] 60 ?_
    refine qB [.agg #[n8 ty,n6 (bn:Int)]] (nT t) (fun W hk=>by have:=tvalue_any ty bn hbn W (ht.below (Keep.below hk));rw [(lit_plain ty bn hbn).2 t hlit] at this;exact this) ?_
    refine q_run [] 60 ?_
    refine qE ?_
    refine rk ?_
    refine gw b (t) h0 (by first | omega | (simp only [List.length_append,List.length_cons,List.length_nil] at hlen ⊢;omega)) ?_
    intro w1 B1 hc1 _ _
    refine rk ?_
    refine gR (.tuple #[]) (fun W hk=>⟨rfl,?_⟩)
    have:=hc1.fin hk
    simpa only [List.append_assoc] using this
   ·
    refine rs [] 60 2 ?_
    refine good_drawL sy_mixed (by kernel_rfl) ?_
    refine q_run [] 60 ?_
    refine qE ?_
    refine rk ?_
    refine gw b (t) h0 (by first | omega | (simp only [List.length_append,List.length_cons,List.length_nil] at hlen ⊢;omega)) ?_
    intro w1 B1 hc1 _ _
    refine rk ?_
    refine gR (.tuple #[]) (fun W hk=>⟨rfl,?_⟩)
    have:=hc1.fin hk
    simpa only [List.append_assoc] using this
   ·
    simp only [ExsAt] at hks
    obtain ⟨c,r,hxs,hc,rfl⟩:=hks
    have hcell0:∀ (j:Nat) (v:Value),c[j]?=some v→xs[0*5+0+j]?=some v:=fun j v hv=>by rw [hxs];simpa using hv
    refine rs [] 60 9 ?_
    refine gw b ([105,110,116,40]) h0 (by first | omega | (simp only [List.length_append,List.length_cons,List.length_nil] at hlen ⊢;omega)) ?_
    intro w1 B1 hc1 _ _
    refine rk ?_
    refine gI 27 29 cap 0 hsl (show 0<1 by decide) ?_
    refine rk ?_
    have hxR0:=exRs_mem.1 hkR x (by simp)
    have hcl0:=hc.len
    have hld0:=fun W (hk:Sy.Keep _ _ W)=>load_slA (P:=Tryz.prog) (ty:=29) (m:=5) (cs:=c) hsl (by kernel_rfl) (by kernel_rfl) 0 0 hcl0 hcell0 (W:=W) (hc1.keep hk)
    have hcall0:=fun W (hk:Sy.Keep _ _ W) hbu hA=>ihN x c tx (l++[105,110,116,40]) b W (by simp only [wgts] at hN;omega) (by simp only [exBs] at hB;omega) hxR0 (ht.out hb (hc1.keep hk)) htx hbu (by first | omega | (simp only [List.length_append,List.length_cons,List.length_nil] at hlen ⊢;omega)) (hc.keep (hc1.keep hk) hA)
    obtain ⟨op0,ty0,bits0,name0,kids0⟩:=x
    simp only [ExAt] at hc
    obtain ⟨a0,cap0,xs0,rfl,_⟩:=hc
    refine gV (xV op0 ty0 bits0 name0 a0 kids0.length cap0) (S:=Instr.loadAt 29 (.pointer (some ⟨gB a,oB a+0*5+0,none⟩))) (fun W hk=>hld0 W hk) ?_
    refine rk ?_
    refine gH [nP b,xV op0 ty0 bits0 name0 a0 kids0.length cap0] b (tx) (.tuple #[]) hc1 (fun W hk hbu hA=>hcall0 W hk hbu hA) ?_
    intro w2 B2 hc2 _ _
    refine rk ?_
    refine gw b ([41]) hc2 (by first | omega | (simp only [List.length_append,List.length_cons,List.length_nil] at hlen ⊢;omega)) ?_
    intro w3 B3 hc3 _ _
    refine rk ?_
    refine gR (.tuple #[]) (fun W hk=>⟨rfl,?_⟩)
    have:=hc3.fin hk
    simpa only [List.append_assoc] using this
   ·
    simp only [ExsAt] at hks
    obtain ⟨c,r,hxs,hc,rfl⟩:=hks
    have hcell0:∀ (j:Nat) (v:Value),c[j]?=some v→xs[0*5+0+j]?=some v:=fun j v hv=>by rw [hxs];simpa using hv
    refine rs [] 60 9 ?_
    refine gw b ([114,101,97,108,40]) h0 (by first | omega | (simp only [List.length_append,List.length_cons,List.length_nil] at hlen ⊢;omega)) ?_
    intro w1 B1 hc1 _ _
    refine rk ?_
    refine gI 27 29 cap 0 hsl (show 0<1 by decide) ?_
    refine rk ?_
    have hxR0:=exRs_mem.1 hkR x (by simp)
    have hcl0:=hc.len
    have hld0:=fun W (hk:Sy.Keep _ _ W)=>load_slA (P:=Tryz.prog) (ty:=29) (m:=5) (cs:=c) hsl (by kernel_rfl) (by kernel_rfl) 0 0 hcl0 hcell0 (W:=W) (hc1.keep hk)
    have hcall0:=fun W (hk:Sy.Keep _ _ W) hbu hA=>ihN x c tx (l++[114,101,97,108,40]) b W (by simp only [wgts] at hN;omega) (by simp only [exBs] at hB;omega) hxR0 (ht.out hb (hc1.keep hk)) htx hbu (by first | omega | (simp only [List.length_append,List.length_cons,List.length_nil] at hlen ⊢;omega)) (hc.keep (hc1.keep hk) hA)
    obtain ⟨op0,ty0,bits0,name0,kids0⟩:=x
    simp only [ExAt] at hc
    obtain ⟨a0,cap0,xs0,rfl,_⟩:=hc
    refine gV (xV op0 ty0 bits0 name0 a0 kids0.length cap0) (S:=Instr.loadAt 29 (.pointer (some ⟨gB a,oB a+0*5+0,none⟩))) (fun W hk=>hld0 W hk) ?_
    refine rk ?_
    refine gH [nP b,xV op0 ty0 bits0 name0 a0 kids0.length cap0] b (tx) (.tuple #[]) hc1 (fun W hk hbu hA=>hcall0 W hk hbu hA) ?_
    intro w2 B2 hc2 _ _
    refine rk ?_
    refine gw b ([41]) hc2 (by first | omega | (simp only [List.length_append,List.length_cons,List.length_nil] at hlen ⊢;omega)) ?_
    intro w3 B3 hc3 _ _
    refine rk ?_
    refine gR (.tuple #[]) (fun W hk=>⟨rfl,?_⟩)
    have:=hc3.fin hk
    simpa only [List.append_assoc] using this
   ·
    simp only [ExsAt] at hks
    obtain ⟨c,r,hxs,hc,rfl⟩:=hks
    have hcell0:∀ (j:Nat) (v:Value),c[j]?=some v→xs[0*5+0+j]?=some v:=fun j v hv=>by rw [hxs];simpa using hv
    refine rs [] 60 9 ?_
    refine good_drawL sy_mixed (by kernel_rfl) ?_
    refine q_run [] 60 ?_
    refine qB [n8 16] (nT [45]) (fun W hk=>psign_any 16 W) ?_
    refine q_run [] 60 ?_
    refine qE ?_
    refine rk ?_
    refine gw b ([45]) h0 (by first | omega | (simp only [List.length_append,List.length_cons,List.length_nil] at hlen ⊢;omega)) ?_
    intro w1 B1 hc1 _ _
    refine rk ?_
    refine gI 27 29 cap 0 hsl (show 0<1 by decide) ?_
    refine rk ?_
    have hxR0:=exRs_mem.1 hkR x (by simp)
    have hcl0:=hc.len
    have hld0:=fun W (hk:Sy.Keep _ _ W)=>load_slA (P:=Tryz.prog) (ty:=29) (m:=5) (cs:=c) hsl (by kernel_rfl) (by kernel_rfl) 0 0 hcl0 hcell0 (W:=W) (hc1.keep hk)
    have hcall0:=fun W (hk:Sy.Keep _ _ W) hbu hA=>ihN x c tx (l++[45]) b W (by simp only [wgts] at hN;omega) (by simp only [exBs] at hB;omega) hxR0 (ht.out hb (hc1.keep hk)) htx hbu (by first | omega | (simp only [List.length_append,List.length_cons,List.length_nil] at hlen ⊢;omega)) (hc.keep (hc1.keep hk) hA)
    obtain ⟨op0,ty0,bits0,name0,kids0⟩:=x
    simp only [ExAt] at hc
    obtain ⟨a0,cap0,xs0,rfl,_⟩:=hc
    refine gV (xV op0 ty0 bits0 name0 a0 kids0.length cap0) (S:=Instr.loadAt 29 (.pointer (some ⟨gB a,oB a+0*5+0,none⟩))) (fun W hk=>hld0 W hk) ?_
    refine rk ?_
    refine gH [nP b,xV op0 ty0 bits0 name0 a0 kids0.length cap0] b (tx) (.tuple #[]) hc1 (fun W hk hbu hA=>hcall0 W hk hbu hA) ?_
    intro w2 B2 hc2 _ _
    refine rk ?_
    refine gR (.tuple #[]) (fun W hk=>⟨rfl,?_⟩)
    have:=hc2.fin hk
    simpa only [List.append_assoc] using this
   ·
    simp only [ExsAt] at hks
    obtain ⟨c,r,hxs,hc,rfl⟩:=hks
    have hcell0:∀ (j:Nat) (v:Value),c[j]?=some v→xs[0*5+0+j]?=some v:=fun j v hv=>by rw [hxs];simpa using hv
    refine rs [] 60 9 ?_
    refine good_drawL sy_mixed (by kernel_rfl) ?_
    refine q_run [] 60 ?_
    refine qB [n8 17] (nT [33]) (fun W hk=>psign_any 17 W) ?_
    refine q_run [] 60 ?_
    refine qE ?_
    refine rk ?_
    refine gw b ([33]) h0 (by first | omega | (simp only [List.length_append,List.length_cons,List.length_nil] at hlen ⊢;omega)) ?_
    intro w1 B1 hc1 _ _
    refine rk ?_
    refine gI 27 29 cap 0 hsl (show 0<1 by decide) ?_
    refine rk ?_
    have hxR0:=exRs_mem.1 hkR x (by simp)
    have hcl0:=hc.len
    have hld0:=fun W (hk:Sy.Keep _ _ W)=>load_slA (P:=Tryz.prog) (ty:=29) (m:=5) (cs:=c) hsl (by kernel_rfl) (by kernel_rfl) 0 0 hcl0 hcell0 (W:=W) (hc1.keep hk)
    have hcall0:=fun W (hk:Sy.Keep _ _ W) hbu hA=>ihN x c tx (l++[33]) b W (by simp only [wgts] at hN;omega) (by simp only [exBs] at hB;omega) hxR0 (ht.out hb (hc1.keep hk)) htx hbu (by first | omega | (simp only [List.length_append,List.length_cons,List.length_nil] at hlen ⊢;omega)) (hc.keep (hc1.keep hk) hA)
    obtain ⟨op0,ty0,bits0,name0,kids0⟩:=x
    simp only [ExAt] at hc
    obtain ⟨a0,cap0,xs0,rfl,_⟩:=hc
    refine gV (xV op0 ty0 bits0 name0 a0 kids0.length cap0) (S:=Instr.loadAt 29 (.pointer (some ⟨gB a,oB a+0*5+0,none⟩))) (fun W hk=>hld0 W hk) ?_
    refine rk ?_
    refine gH [nP b,xV op0 ty0 bits0 name0 a0 kids0.length cap0] b (tx) (.tuple #[]) hc1 (fun W hk hbu hA=>hcall0 W hk hbu hA) ?_
    intro w2 B2 hc2 _ _
    refine rk ?_
    refine gR (.tuple #[]) (fun W hk=>⟨rfl,?_⟩)
    have:=hc2.fin hk
    simpa only [List.append_assoc] using this
   ·
    simp only [ExsAt] at hks
    obtain ⟨c,r,hxs,hc,d,r2,rfl,hd,rfl⟩:=hks
    have hcell0:∀ (j:Nat) (v:Value),c[j]?=some v→xs[0*5+0+j]?=some v:=fun j v hv=>by
     rw [hxs,List.getElem?_append_left (by have:=(List.getElem?_eq_some_iff.1 hv).1;omega)];simpa using hv
    have hcell1:∀ (j:Nat) (v:Value),d[j]?=some v→xs[1*5+0+j]?=some v:=fun j v hv=>by
     have:=hc.len
     rw [hxs,List.getElem?_append_right (by omega),this];simpa using hv
    refine rk ?_
    refine kw op 1 (by omega) ?_
    refine rk ?_
    refine kw op 2 (by omega) ?_
    refine rs [60] 60 0 ?_
    refine gF 58 op 18 (by omega) ?_
    refine gF 59 op 18 (by omega) ?_
    refine rk ?_
    refine kw op 19 (by omega) ?_
    refine rs [] 60 1 ?_
    refine gw b ([40]) h0 (by first | omega | (simp only [List.length_append,List.length_cons,List.length_nil] at hlen ⊢;omega)) ?_
    intro w1 B1 hc1 _ _
    refine rk ?_
    refine gI 27 29 cap 0 hsl (show 0<2 by decide) ?_
    refine rk ?_
    have hxR0:=exRs_mem.1 hkR x (by simp)
    have hcl0:=hc.len
    have hld0:=fun W (hk:Sy.Keep _ _ W)=>load_slA (P:=Tryz.prog) (ty:=29) (m:=5) (cs:=c) hsl (by kernel_rfl) (by kernel_rfl) 0 0 hcl0 hcell0 (W:=W) (hc1.keep hk)
    have hcall0:=fun W (hk:Sy.Keep _ _ W) hbu hA=>ihN x c tx (l++[40]) b W (by simp only [wgts] at hN;omega) (by simp only [exBs] at hB;omega) hxR0 (ht.out hb (hc1.keep hk)) htx hbu (by first | omega | (simp only [List.length_append,List.length_cons,List.length_nil] at hlen ⊢;omega)) (hc.keep (hc1.keep hk) hA)
    obtain ⟨op0,ty0,bits0,name0,kids0⟩:=x
    simp only [ExAt] at hc
    obtain ⟨a0,cap0,xs0,rfl,_⟩:=hc
    refine gV (xV op0 ty0 bits0 name0 a0 kids0.length cap0) (S:=Instr.loadAt 29 (.pointer (some ⟨gB a,oB a+0*5+0,none⟩))) (fun W hk=>hld0 W hk) ?_
    refine rk ?_
    refine gH [nP b,xV op0 ty0 bits0 name0 a0 kids0.length cap0] b (tx) (.tuple #[]) hc1 (fun W hk hbu hA=>hcall0 W hk hbu hA) ?_
    intro w2 B2 hc2 _ _
    refine rk ?_
    refine good_drawL sy_mixed (by kernel_rfl) ?_
    refine q_run [] 60 ?_
    refine qB [n8 op] (nT (psignT op)) (fun W hk=>psign_any op W) ?_
    refine q_run [21] 60 ?_
    refine qV (nT ([32]++psignT op)) (S:=(do eqGuard .add 9 (.const (nT [32])) (.tmp 20) (nT ([32])) (nT (psignT op));binOp .add 9 (nT ([32])) (nT (psignT op)))) (fun W _=>cat_str _ _ ([32]) (psignT op) (by have:=psignT_len op;simp;omega) W) ?_
    refine q_run [22] 60 ?_
    refine qV (nT ([32]++psignT op++[32])) (S:=(do eqGuard .add 9 (.tmp 21) (.const (nT [32])) (nT ([32]++psignT op)) (nT ([32]));binOp .add 9 (nT ([32]++psignT op)) (nT ([32])))) (fun W _=>cat_str _ _ ([32]++psignT op) ([32]) (by have:=psignT_len op;simp;omega) W) ?_
    refine q_run [] 60 ?_
    refine qE ?_
    refine rk ?_
    refine gw b ([32]++psignT op++[32]) hc2 (by first | omega | (simp only [List.length_append,List.length_cons,List.length_nil] at hlen ⊢;omega)) ?_
    intro w3 B3 hc3 _ _
    refine rk ?_
    refine gI 27 29 cap 1 hsl (show 1<2 by decide) ?_
    refine rk ?_
    have hxR1:=exRs_mem.1 hkR y (by simp)
    have hcl1:=hd.len
    have hld1:=fun W (hk:Sy.Keep _ _ W)=>load_slA (P:=Tryz.prog) (ty:=29) (m:=5) (cs:=d) hsl (by kernel_rfl) (by kernel_rfl) 1 0 hcl1 hcell1 (W:=W) (hc3.keep hk)
    have hcall1:=fun W (hk:Sy.Keep _ _ W) hbu hA=>ihN y d ty' (l++[40]++tx++([32]++psignT op++[32])) b W (by simp only [wgts] at hN;omega) (by simp only [exBs] at hB;omega) hxR1 (ht.out hb (hc3.keep hk)) hty hbu (by first | omega | (simp only [List.length_append,List.length_cons,List.length_nil] at hlen ⊢;omega)) (hd.keep (hc3.keep hk) hA)
    obtain ⟨op1,ty1,bits1,name1,kids1⟩:=y
    simp only [ExAt] at hd
    obtain ⟨a1,cap1,xs1,rfl,_⟩:=hd
    refine gV (xV op1 ty1 bits1 name1 a1 kids1.length cap1) (S:=Instr.loadAt 29 (.pointer (some ⟨gB a,oB a+1*5+0,none⟩))) (fun W hk=>hld1 W hk) ?_
    refine rk ?_
    refine gH [nP b,xV op1 ty1 bits1 name1 a1 kids1.length cap1] b (ty') (.tuple #[]) hc3 (fun W hk hbu hA=>hcall1 W hk hbu hA) ?_
    intro w4 B4 hc4 _ _
    refine rk ?_
    refine gw b ([41]) hc4 (by first | omega | (simp only [List.length_append,List.length_cons,List.length_nil] at hlen ⊢;omega)) ?_
    intro w5 B5 hc5 _ _
    refine rk ?_
    refine gR (.tuple #[]) (fun W hk=>⟨rfl,?_⟩)
    have:=hc5.fin hk
    simpa only [List.append_assoc] using this
end
end Go.Proofs.YtinjiigdijbjeaaGreatDoor
