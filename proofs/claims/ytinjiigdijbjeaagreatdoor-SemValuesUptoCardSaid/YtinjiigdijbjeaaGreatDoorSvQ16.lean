/- Texts of this proof, one behind the other. Conditions: those in each theorem. -/
import Derived.Test.YtinjiigdijbjeaaGreatDoorSvQ14
import Derived.Test.YtinjiigdijbjeaaGreatDoorSvQ15
import Derived.Test.YtinjiigdijbjeaaGreatDoorSvQ13
import Derived.Test.YtinjiigdijbjeaaGreatDoorSvQ9
import Derived.Test.YtinjiigdijbjeaaGreatDoorSvQ10
import Derived.Test.YtinjiigdijbjeaaGreatDoorSvQ12
set_option linter.unusedVariables false
set_option linter.unusedSimpArgs false
namespace Go.Proofs.YtinjiigdijbjeaaGreatDoor
open Go.RowKit Go.As
section
set_option maxRecDepth 100000
noncomputable def semD (ns:List (List UInt8)) (vs:List Vl) (e:Ex):Value:=
 if (ex32 e).isSome=false∨ns.length≠vs.length then rsV (0,0) 0 2
 else if vs.all vldB=false then rsV (0,0) 0 2
 else if (nmE e).all (fun s=>(atN s ns).isSome)=false then rsV (0,0) 0 6
 else if tyD (lkV ns vs) e=0 then rsV (0,0) 0 2 else match (evE (lkV ns vs) e).1 with
  | some v=>rsV v (evE (lkV ns vs) e).2 0
  | none=>rsV (0,0) (evE (lkV ns vs) e).2 10
mutual
theorem ngt_none_nm {ns:List (List UInt8)} {vs:List Vl}:∀ {e:Ex},ngt ns vs e=none→(nmE e).all (fun s=>(atN s ns).isSome)=false
 | .mk op ty bits name kids,h=>by
   by_cases h2:op=2
   · cases hat:atN name ns with
     | none=>simp [nmE,h2,hat]
     | some i=>rw [ngt_some h2 hat] at h;cases h
   · rw [ngt,if_neg h2] at h
     rw [Option.map_eq_none_iff] at h
     have:=ngts_none_nm h
     simp only [nmE]
     rw [if_neg h2,List.nil_append]
     exact this
theorem ngts_none_nm {ns:List (List UInt8)} {vs:List Vl}:∀ {l:List Ex},ngts ns vs l=none→(nmEs l).all (fun s=>(atN s ns).isSome)=false
 | [],h=>by simp [ngts] at h
 | e::l,h=>by
   simp only [ngts] at h
   simp only [nmEs,List.all_append]
   cases hx:ngt ns vs e with
   | none=>rw [ngt_none_nm hx];rfl
   | some x=>
     rw [hx] at h
     simp only [Option.map_eq_none_iff] at h
     rw [ngts_none_nm h,Bool.and_false]
end
theorem sem_same {ns:List (List UInt8)} {vs:List Vl} {e:Ex} (hR:exR e) (hvR:∀ v∈vs,vlR v):semV ns vs e=semD ns vs e:=by
 unfold semV semD
 by_cases h1:(ex32 e).isSome=false∨ns.length≠vs.length
 · rw [if_pos h1,if_pos h1]
 rw [if_neg h1,if_neg h1]
 by_cases h2:vs.all vldB=false
 · rw [if_pos h2,if_pos h2]
 rw [if_neg h2,if_neg h2]
 have hx:∃ t,ex32 e=some t:=by
  cases h:ex32 e with
  | none=>rw [h] at h1;exact absurd (.inl rfl) h1
  | some t=>exact ⟨t,rfl⟩
 obtain ⟨t,hx⟩:=hx
 have hl:ns.length=vs.length:=by
  by_cases h:ns.length=vs.length
  · exact h
  · exact absurd (.inr h) h1
 cases hng:ngt ns vs e with
 | none=>rw [if_pos (ngt_none_nm hng)]
 | some x=>
   obtain ⟨_,_,_,_,_,hn⟩:=ngt_ok hR hvR (by simpa using h2) rfl hl hx hng
   rw [if_neg (by rw [List.all_eq_true.2 hn];simp)]
   simp only [ngt_tyD hng]
   rfl
theorem mem_isSome {s:List UInt8}:∀ {l:List (List UInt8)},l.any (fun x=>decide (x=s))=(atN s l).isSome
 | []=>rfl
 | x::l=>by
   rw [List.any_cons]
   unfold atN
   by_cases h:x=s
   · rw [if_pos h];simp [h]
   · rw [if_neg h,mem_isSome];cases atN s l <;> simp [h]
theorem strsV_atB {l1 l3:List (List UInt8)} {x:List UInt8}:(strsV (l1++x::l3))[l1.length*1+0]?=some (.string (str x)):=strsV_at
theorem may_lt (b:Int):Sy.intLt b 2=!(Sy.intLt 1 b):=by
 rw [Sy.intLt_eq,Sy.intLt_eq]
 by_cases h:b<2
 · rw [decide_eq_true h,decide_eq_false (by omega)];rfl
 · rw [decide_eq_false h,decide_eq_true (by omega)];rfl
open Go.Sy
theorem dmay_any (ty bits:Int) (w:World):CB 21 #[.agg #[n8 ty,n6 bits]] w (.bool (vldB (ty,bits))):=by
 refine eN [.agg #[n8 ty,n6 bits]] Tryz.func21 (fun γ0 hγ0=>?_)
 refine rk ?_
 by_cases h1:ty=1
 ·
  refine kz ty 1 h1 ?_
  refine rs [] 60 2 ?_
  exact gR (.bool true) (fun W hk=>⟨by simp [vldB,h1],hk.below⟩)
 refine kw ty 1 h1 ?_
 refine rk ?_
 by_cases h2:ty=2
 ·
  refine kz ty 2 h2 ?_
  refine rs [] 60 2 ?_
  exact gR (.bool (intLt bits 2)) (fun W hk=>⟨by rw [may_lt];simp [vldB,h2],hk.below⟩)
 refine kw ty 2 h2 ?_
 refine rk ?_
 by_cases h3:ty=3
 ·
  refine kz ty 3 h3 ?_
  refine rs [] 60 2 ?_
  refine gP [n6 bits] (.bool (((toN bits.toNat:Nat):Int)==bits)) (fun W hk=>qmay_any bits W) ?_
  refine rk ?_
  exact gR (.bool (((toN bits.toNat:Nat):Int)==bits)) (fun W hk=>⟨by simp [vldB,h3],hk.below⟩)
 refine kw ty 3 h3 ?_
 refine rk ?_
 exact gR (.bool false) (fun W hk=>⟨by simp [vldB,h1,h2,h3],hk.below⟩)
theorem dsvalue_any (e:Ex) (cs:List Value) (ns:List (List UInt8)) (vs:List Vl) (na va:Option Addr) (k k2 nc vc:Nat) (vx:List Value) (w:World) (hB:exB e≤1048576) (hR:exR e) (hvR:∀ v∈vs,vlR v) (hk1:k=ns.length) (hk2:k2=vs.length) (hkb:k≤1000000)
  (hsn:SlAt (·<w.heap.size) w na k 1 (strsV ns)) (hsv:SlAt (·<w.heap.size) w va k2 2 vx) (hlv:LsAt VlAt vs vx) (hat:ExAt (·<w.heap.size) w e cs):
  CB 8 #[.agg cs.toArray,.slice na k nc,.slice va k2 vc] w (semD ns vs e):=by
 obtain ⟨op,ty,bits,name,kids⟩:=e
 have hat0:=hat
 simp only [ExAt] at hat0
 obtain ⟨a,cap,xs,rfl,_,_⟩:=hat0
 refine eN [xV op ty bits name a kids.length cap,.slice na k nc,.slice va k2 vc] Tryz.func8 (fun γ0 hγ0=>?_)
 have hγ0:∀ b,gz≤b→γ0 b=none:=hγ0
 refine rk ?_
 have hte:=fun (W:World) (hk:Keep (·<w.heap.size) w W)=>rExpr_any (Ex.mk op ty bits name kids) (xL op ty bits name a kids.length cap) W (by have:=wgt_exB (Ex.mk op ty bits name kids);omega) (by omega) hR (hat.keep hk (kU hk))
 have hwB:=wgt_exB (Ex.mk op ty bits name kids)
 unfold exprS exprE at hte
 cases hx:ex32 (Ex.mk op ty bits name kids) with
 | none=>
   rw [hx] at hte
   refine gX [xV op ty bits name a kids.length cap] (.tuple #[nT [],nI 2]) (fun W hk=>hte W hk) ?_
   refine rs [] 100 5 ?_
   exact gR (rsV (0,0) 0 2) (fun W hk=>⟨by unfold semD;rw [if_pos (.inl (by rw [hx];rfl))],hk.below⟩)
 | some t=>
   rw [hx] at hte
   have htx:=ex32_exT hx
   refine gX [xV op ty bits name a kids.length cap] (.tuple #[nT t,nI 0]) (fun W hk=>hte W hk) ?_
   refine rs [] 100 0 ?_
   by_cases hlk:k=k2
   rotate_left
   ·
    refine gK true (b:=(!(intEq (k:Int) (k2:Int)))) (by rw [eq_f (by omega)];rfl) ?_
    refine rs [] 60 2 ?_
    exact gR (rsV (0,0) 0 2) (fun W hk=>⟨by unfold semD;rw [if_pos (.inr (by omega))],hk.below⟩)
   subst hlk
   refine gK false (b:=(!(intEq (k:Int) (k:Int)))) (by rw [eq_t rfl];rfl) ?_
   refine rk ?_
   refine good_toLp ?_
   refine good_loopI (fun i:List Vl×List Vl=>i.2.length) (fun i=>vs=i.1++i.2∧i.1.all vldB=true) (fun i=>⟨mkT [(1,vL na k nc),(2,vL va k vc),(3,.ptr gz 0),(6,.ptr (gz+1) 0),(7,vI 0),(8,vI 0),(11,vI (i.1.length:Int))],mkH [(gz,bK 29 5 (xA op ty bits name a kids.length cap)),(gz+1,bK 26 2 [v8 0,v6 0])],gz+4,[]⟩)
    ([],vs) ⟨rfl,rfl⟩ (by kernel_rfl)
    (fun h=>gU _ [(1,vL na k nc),(2,vL va k vc),(3,.ptr gz 0),(6,.ptr (gz+1) 0),(7,vI 0),(8,vI 0),(11,vI (([]:List Vl).length:Int))] [(gz,bK 29 5 (xA op ty bits name a kids.length cap)),(gz+1,bK 26 2 [v8 0,v6 0])] (gz+4) (fun b hb=>hγ0 b (by omega)) h) ?_
   rintro ⟨l1,l2⟩ ⟨hI,hV⟩ ih
   simp only at hI hV
   have hq:k=l1.length+l2.length:=by rw [hk2,hI,List.length_append]
   refine rk ?_
   cases l2 with
   | cons v l3=>
     have hin:l1.length<k:=by rw [hq,List.length_cons];omega
     have hlv2:=hlv
     rw [hI] at hlv2
     obtain ⟨c,hc,hcell⟩:=hlv2.at_ (fun _ _ h=>VlAt.len h)
     obtain ⟨vt,vb⟩:=v
     have hc:c=[n8 vt,n6 vb]:=hc
     subst hc
     refine kx (l1.length:Int) (k:Int) (by omega) ?_
     refine rk ?_
     refine gI 31 26 vc l1.length hsv hin ?_
     refine rk ?_
     refine gD 26 2 [n8 vt,n6 vb] l1.length 0 hsv rfl hcell ?_
     refine rk ?_
     refine gX [.agg #[n8 vt,n6 vb]] (.bool (vldB (vt,vb))) (fun W hk=>dmay_any vt vb W) ?_
     refine rk ?_
     rcases Bool.eq_false_or_eq_true (vldB (vt,vb)) with hv | hv
     rotate_left
     ·
      refine gK true (b:=(!(vldB (vt,vb)))) (by rw [hv];rfl) ?_
      refine rs [] 60 2 ?_
      exact gR (rsV (0,0) 0 2) (fun W hk=>⟨by unfold semD;rw [if_neg (by rw [hx];rintro (h | h);cases h;omega),if_pos (by rw [hI,List.all_append,List.all_cons,hv];simp)],hk.below⟩)
     refine gK false (b:=(!(vldB (vt,vb)))) (by rw [hv];rfl) ?_
     refine rk ?_
     refine gJ 11 l1 (vt,vb) (by omega) ?_
     exact gU _ [(1,vL na k nc),(2,vL va k vc),(3,.ptr gz 0),(6,.ptr (gz+1) 0),(7,vI 0),(8,vI 0),(11,vI ((l1++[(vt,vb)]).length:Int))] [(gz,bK 29 5 (xA op ty bits name a kids.length cap)),(gz+1,bK 26 2 [v8 0,v6 0])] (gz+4) (fun b hb=>hγ0 b (by omega)) (ih (l1++[(vt,vb)],l3) ⟨(by show vs=(l1++[_])++l3;rw [hI];simp),(by show (l1++[(vt,vb)]).all vldB=true;rw [List.all_append,hV];simp [hv])⟩ lS1)
   | nil=>
     refine ky (l1.length:Int) (k:Int) (by rw [hq];simp) ?_
     refine rk ?_
     have hall:vs.all vldB=true:=by rw [hI,List.append_nil];exact hV
     have hnv:NvAt w na va k ns vs:=⟨hk1,hk2,hkb,hsn,vx,hsv,hlv⟩
     have hs0:semD ns vs (Ex.mk op ty bits name kids)=(if (nmE (Ex.mk op ty bits name kids)).all (fun s=>(atN s ns).isSome)=false then rsV (0,0) 0 6
       else if tyD (lkV ns vs) (Ex.mk op ty bits name kids)=0 then rsV (0,0) 0 2 else match (evE (lkV ns vs) (Ex.mk op ty bits name kids)).1 with
        | some v=>rsV v (evE (lkV ns vs) (Ex.mk op ty bits name kids)).2 0
        | none=>rsV (0,0) (evE (lkV ns vs) (Ex.mk op ty bits name kids)).2 10):=by
      unfold semD
      rw [if_neg (by rw [hx];rintro (h | h);cases h;omega),if_neg (by rw [hall];simp)]
     clear ih hV hI
     refine gM [xV op ty bits name a kids.length cap] (fun W hk=>dnames_any _ (Ex.mk op ty bits name kids) (xL op ty bits name a kids.length cap) W (Nat.le_refl _) (by omega) (hat.keep hk (kU hk))) ?_
     rintro V r w1 B1 hkV ⟨al,cl,rfl,hsl1⟩ hbl1 hk01 hB01 hBn1 hB1
     obtain ⟨nl,hnl⟩:∃ nl,nl=(nmE (Ex.mk op ty bits name kids)).length:=⟨_,rfl⟩
     rw [← hnl] at hsl1 ⊢
     have hnlb:=nmE_len (Ex.mk op ty bits name kids)
     have hslB:=hsl1.mono (fun j h=>hBn1 j h.1 h.2)
     have hsn1:=(hsn.keep hk01).mono hB01
     refine rk ?_
     refine good_toLp ?_
     refine good_loopI (fun i:List (List UInt8)×List (List UInt8)=>i.2.length) (fun i=>nmE (Ex.mk op ty bits name kids)=i.1++i.2∧i.1.all (fun s=>(atN s ns).isSome)=true) (fun i=>⟨mkT [(1,vL na k nc),(2,vL va k vc),(3,.ptr gz 0),(6,.ptr (gz+1) 0),(7,vI 0),(8,vI 0),(12,vL al nl cl),(13,vI (i.1.length:Int))],mkH [(gz,bK 29 5 (xA op ty bits name a kids.length cap)),(gz+1,bK 26 2 [v8 0,v6 0])],gz+4,[]⟩)
      ([],nmE (Ex.mk op ty bits name kids)) ⟨rfl,rfl⟩ (by kernel_rfl)
      (fun h=>gU _ [(1,vL na k nc),(2,vL va k vc),(3,.ptr gz 0),(6,.ptr (gz+1) 0),(7,vI 0),(8,vI 0),(12,vL al nl cl),(13,vI (([]:List (List UInt8)).length:Int))] [(gz,bK 29 5 (xA op ty bits name a kids.length cap)),(gz+1,bK 26 2 [v8 0,v6 0])] (gz+4) (fun b hb=>hγ0 b (by omega)) h) ?_
     rintro ⟨m1,m2⟩ ⟨hM,hA⟩ ihM
     simp only at hM hA
     have hqM:nl=m1.length+m2.length:=by rw [hnl,hM,List.length_append]
     refine rk ?_
     cases m2 with
     | nil=>
       refine ky (m1.length:Int) (nl:Int) (by rw [hqM];simp) ?_
       refine rk ?_
       have hAll:(nmE (Ex.mk op ty bits name kids)).all (fun s=>(atN s ns).isSome)=true:=by rw [hM,List.append_nil];exact hA
       rw [hAll,if_neg (by simp)] at hs0
       have hnsv:∀ s∈nmE (Ex.mk op ty bits name kids),vlG (lkV ns vs s):=fun s hs=>lk_G (by omega) (fun v hv=>vldB_G (List.all_eq_true.1 hall v hv) (hvR v hv)) (List.all_eq_true.1 hAll s hs)
       have hatW:∀ W,Keep B1 w1 W→ExAt (·<W.heap.size) W (Ex.mk op ty bits name kids) (xL op ty bits name a kids.length cap):=fun W hk=>hat.keep (hk01.trans (hk.mono hB01)) fun j h=>Nat.lt_of_lt_of_le h (hk01.trans (hk.mono hB01)).size
       have hnvW:∀ W,Keep B1 w1 W→NvAt W na va k ns vs:=fun W hk=>hnv.keep (hk01.trans (hk.mono hB01))
       refine gX [.agg #[.slice na k nc,.slice va k vc],xV op ty bits name a kids.length cap] (n8 (tyD (lkV ns vs) (Ex.mk op ty bits name kids))) (fun W hk=>dstyped_any ns vs na va k nc vc (Ex.mk op ty bits name kids) (xL op ty bits name a kids.length cap) W t htx hnsv (hatW W hk) (hnvW W hk)) ?_
       refine rk ?_
       by_cases hz:tyD (lkV ns vs) (Ex.mk op ty bits name kids)=0
       ·
        refine kz (tyD (lkV ns vs) (Ex.mk op ty bits name kids)) 0 hz ?_
        refine rs [] 100 2 ?_
        exact gR (rsV (0,0) 0 2) (fun W hk=>⟨by rw [hs0,if_pos hz],(hk01.trans (hk.mono hB01)).below⟩)
       refine kw (tyD (lkV ns vs) (Ex.mk op ty bits name kids)) 0 hz ?_
       refine rk ?_
       rw [if_neg hz] at hs0
       have hdv:=fun (W:World) (hk:Keep B1 w1 W)=>dvalue_any ns vs na va k nc vc _ (Ex.mk op ty bits name kids) (xL op ty bits name a kids.length cap) W t (Nat.le_refl _) (by omega) htx (hatW W hk) (hnvW W hk)
       unfold dvR at hdv
       cases hev:(evE (lkV ns vs) (Ex.mk op ty bits name kids)).1 with
       | none=>
         rw [hev] at hdv hs0
         refine gX [.agg #[.slice na k nc,.slice va k vc],xV op ty bits name a kids.length cap] (.tuple #[vlV (dvD (lkV ns vs) (Ex.mk op ty bits name kids)),nI (evE (lkV ns vs) (Ex.mk op ty bits name kids)).2,.bool false]) (fun W hk=>hdv W hk) ?_
         refine rs [] 100 3 ?_
         exact gR (rsV (0,0) (evE (lkV ns vs) (Ex.mk op ty bits name kids)).2 10) (fun W hk=>⟨by rw [hs0],(hk01.trans (hk.mono hB01)).below⟩)
       | some v=>
         rw [hev] at hdv hs0
         refine gX [.agg #[.slice na k nc,.slice va k vc],xV op ty bits name a kids.length cap] (.tuple #[vlV v,nI (evE (lkV ns vs) (Ex.mk op ty bits name kids)).2,.bool true]) (fun W hk=>hdv W hk) ?_
         refine rs [] 100 3 ?_
         exact gR (rsV v (evE (lkV ns vs) (Ex.mk op ty bits name kids)).2 0) (fun W hk=>⟨by rw [hs0],(hk01.trans (hk.mono hB01)).below⟩)
     | cons s m3=>
       have hinM:m1.length<nl:=by rw [hqM,List.length_cons];omega
       have hslM:=hslB
       rw [hM] at hslM
       refine kx (m1.length:Int) (nl:Int) (by omega) ?_
       refine rk ?_
       refine good_toLp ?_
       refine good_loopI (fun i:List (List UInt8)×List (List UInt8)=>i.2.length) (fun i=>ns=i.1++i.2) (fun i=>⟨mkT [(1,vL na k nc),(2,vL va k vc),(3,.ptr gz 0),(6,.ptr (gz+1) 0),(7,vI 0),(8,vI 0),(12,vL al nl cl),(13,vI (m1.length:Int)),(14,vB (i.1.any fun x=>decide (x=s))),(15,vI (i.1.length:Int))],mkH [(gz,bK 29 5 (xA op ty bits name a kids.length cap)),(gz+1,bK 26 2 [v8 0,v6 0])],gz+4,[]⟩)
        ([],ns) rfl (by kernel_rfl)
        (fun h=>gU _ [(1,vL na k nc),(2,vL va k vc),(3,.ptr gz 0),(6,.ptr (gz+1) 0),(7,vI 0),(8,vI 0),(12,vL al nl cl),(13,vI (m1.length:Int)),(14,vB (([]:List (List UInt8)).any fun x=>decide (x=s))),(15,vI (([]:List (List UInt8)).length:Int))] [(gz,bK 29 5 (xA op ty bits name a kids.length cap)),(gz+1,bK 26 2 [v8 0,v6 0])] (gz+4) (fun b hb=>hγ0 b (by omega)) h) ?_
       rintro ⟨n1,n2⟩ hN ihN
       simp only at hN
       have hqN:k=n1.length+n2.length:=by rw [hk1,hN,List.length_append]
       refine rk ?_
       cases n2 with
       | nil=>
         refine ky (n1.length:Int) (k:Int) (by rw [hqN];simp) ?_
         refine rk ?_
         have hn1:n1=ns:=by rw [hN];simp
         have hms:=mem_isSome (s:=s) (l:=ns)
         rw [hn1]
         rcases Bool.eq_false_or_eq_true (ns.any fun x=>decide (x=s)) with hb | hb
         rotate_left
         ·
          refine gK true (b:=(!(ns.any fun x=>decide (x=s)))) (by rw [hb];rfl) ?_
          refine rs [] 100 2 ?_
          exact gR (rsV (0,0) 0 6) (fun W hk=>⟨by rw [hs0,if_pos (by rw [hM,List.all_append,List.all_cons,← hms,hb];simp)],(hk01.trans (hk.mono hB01)).below⟩)
         refine gK false (b:=(!(ns.any fun x=>decide (x=s)))) (by rw [hb];rfl) ?_
         refine rk ?_
         refine gJ 13 m1 s (by omega) ?_
         exact gU _ [(1,vL na k nc),(2,vL va k vc),(3,.ptr gz 0),(6,.ptr (gz+1) 0),(7,vI 0),(8,vI 0),(12,vL al nl cl),(13,vI ((m1++[s]).length:Int))] [(gz,bK 29 5 (xA op ty bits name a kids.length cap)),(gz+1,bK 26 2 [v8 0,v6 0])] (gz+4) (fun b hb=>hγ0 b (by omega)) (ihM (m1++[s],m3) ⟨(by show nmE (Ex.mk op ty bits name kids)=(m1++[_])++m3;rw [hM];simp),(by show (m1++[s]).all (fun s=>(atN s ns).isSome)=true;rw [List.all_append,hA,List.all_cons,← hms,hb];simp)⟩ lS1)
       | cons x n3=>
         have hinN:n1.length<k:=by rw [hqN,List.length_cons];omega
         have hsnN:=hsn1
         rw [hN] at hsnN
         refine kx (n1.length:Int) (k:Int) (by omega) ?_
         rcases Bool.eq_false_or_eq_true (n1.any fun x=>decide (x=s)) with hb | hb
         ·
          refine gS 14 (x := .bool (n1.any fun x=>decide (x=s))) (.bool true) (by rw [hb]) ?_
          refine rk ?_
          refine gJ 15 n1 x (by omega) ?_
          refine gS 14 (x := .bool (true)) (.bool ((n1++[x]).any fun x=>decide (x=s))) (by rw [List.any_append,hb];rfl) ?_
          exact gU _ [(1,vL na k nc),(2,vL va k vc),(3,.ptr gz 0),(6,.ptr (gz+1) 0),(7,vI 0),(8,vI 0),(12,vL al nl cl),(13,vI (m1.length:Int)),(14,vB ((n1++[x]).any fun x=>decide (x=s))),(15,vI ((n1++[x]).length:Int))] [(gz,bK 29 5 (xA op ty bits name a kids.length cap)),(gz+1,bK 26 2 [v8 0,v6 0])] (gz+4) (fun b hb=>hγ0 b (by omega)) (ihN (n1++[x],n3) (by show ns=(n1++[_])++n3;rw [hN];simp) lS1)
         ·
          refine gS 14 (x := .bool (n1.any fun x=>decide (x=s))) (.bool false) (by rw [hb]) ?_
          refine rk ?_
          refine good_draw sy_mixed (by kernel_rfl) ?_
          refine q_run [] 60 ?_
          refine qI 30 9 nc n1.length hsnN hinN ?_
          refine q_run [] 60 ?_
          refine qL 9 (nT x) n1.length 0 hsnN strsV_atB ?_
          refine q_run [] 60 ?_
          refine qI 30 9 cl m1.length hslM hinM ?_
          refine q_run [] 60 ?_
          refine qL 9 (nT s) m1.length 0 hslM strsV_atB ?_
          refine q_run [] 60 ?_
          refine qE ?_
          refine rk ?_
          refine gJ 15 n1 x (by omega) ?_
          refine gS 14 (x := .bool (bEqL x s)) (.bool ((n1++[x]).any fun x=>decide (x=s))) (congrArg Value.bool (by rw [List.any_append,hb,bEqL_eq];by_cases h:x=s <;> simp [h])) ?_
          exact gU _ [(1,vL na k nc),(2,vL va k vc),(3,.ptr gz 0),(6,.ptr (gz+1) 0),(7,vI 0),(8,vI 0),(12,vL al nl cl),(13,vI (m1.length:Int)),(14,vB ((n1++[x]).any fun x=>decide (x=s))),(15,vI ((n1++[x]).length:Int))] [(gz,bK 29 5 (xA op ty bits name a kids.length cap)),(gz+1,bK 26 2 [v8 0,v6 0])] (gz+4) (fun b hb=>hγ0 b (by omega)) (ihN (n1++[x],n3) (by show ns=(n1++[_])++n3;rw [hN];simp) lS1)
end
section
open Go.Sy in
set_option maxRecDepth 100000 in
theorem svalue_any (e:Ex) (cs:List Value) (ns:List (List UInt8)) (vs:List Vl) (na va:Option Addr) (k k2 nc vc:Nat) (vx:List Value) (w:World) (htab:Tab w) (hB:exB e≤1048576) (hR:exR e) (hlen:∀ t,ex32 e=some t→t.length≤140737488355328) (hvR:∀ v∈vs,vlR v) (hk1:k=ns.length) (hk2:k2=vs.length) (hkb:k≤1000000)
  (hsn:SlAt (·<w.heap.size) w na k 1 (strsV ns)) (hsv:SlAt (·<w.heap.size) w va k2 2 vx) (hlv:LsAt VlAt vs vx) (hat:ExAt (·<w.heap.size) w e cs):
  CB 7 #[.agg cs.toArray,.slice na k nc,.slice va k2 vc] w (semV ns vs e):=by
 obtain ⟨op,ty,bits,name,kids⟩:=e
 have hat0:=hat
 simp only [ExAt] at hat0
 obtain ⟨a,cap,xs,rfl,_,_⟩:=hat0
 refine eN [xV op ty bits name a kids.length cap,.slice na k nc,.slice va k2 vc] Tryz.func7 (fun γ0 hγ0=>?_)
 have hγ0:∀ b,gz≤b→γ0 b=none:=hγ0
 refine rk ?_
 have hte:=fun (W:World) (hk:Keep (·<w.heap.size) w W)=>tExpr_any (Ex.mk op ty bits name kids) (xL op ty bits name a kids.length cap) W (by have:=wgt_exB (Ex.mk op ty bits name kids);omega) (by omega) hR (htab.below hk.below) hlen (hat.keep hk (kU hk))
 have hwB:=wgt_exB (Ex.mk op ty bits name kids)
 unfold exprS exprE at hte
 cases hx:ex32 (Ex.mk op ty bits name kids) with
 | none=>
   rw [hx] at hte
   refine gX [xV op ty bits name a kids.length cap] (.tuple #[nT [],nI 2]) (fun W hk=>hte W hk) ?_
   refine rs [] 100 5 ?_
   exact gR (rsV (0,0) 0 2) (fun W hk=>⟨by unfold semV;rw [if_pos (.inl (by rw [hx];rfl))],hk.below⟩)
 | some t=>
   rw [hx] at hte
   have htx:=ex32_exT hx
   refine gX [xV op ty bits name a kids.length cap] (.tuple #[nT t,nI 0]) (fun W hk=>hte W hk) ?_
   refine rs [] 100 0 ?_
   by_cases hlk:k=k2
   rotate_left
   ·
    refine gK true (b:=(!(intEq (k:Int) (k2:Int)))) (by rw [eq_f (by omega)];rfl) ?_
    refine rs [] 60 2 ?_
    exact gR (rsV (0,0) 0 2) (fun W hk=>⟨by unfold semV;rw [if_pos (.inr (by omega))],hk.below⟩)
   subst hlk
   refine gK false (b:=(!(intEq (k:Int) (k:Int)))) (by rw [eq_t rfl];rfl) ?_
   refine rk ?_
   refine good_toLp ?_
   refine good_loopI (fun i:List Vl×List Vl=>i.2.length) (fun i=>vs=i.1++i.2∧i.1.all vldB=true) (fun i=>⟨mkT [(3,.ptr gz 0),(4,.ptr (gz+1) 0),(5,.ptr (gz+2) 0),(6,.ptr (gz+3) 0),(7,vI 0),(8,vI 0),(35,vL va k vc),(36,vI (k:Int)),(37,vI (i.1.length:Int))],mkH [(gz,bK 29 5 (xA op ty bits name a kids.length cap)),(gz+1,bK 30 1 [vL na k nc]),(gz+2,bK 31 1 [vL va k vc]),(gz+3,bK 26 2 [v8 0,v6 0])],gz+4,[]⟩)
    ([],vs) ⟨rfl,rfl⟩ (by kernel_rfl)
    (fun h=>gU _ [(3,.ptr gz 0),(4,.ptr (gz+1) 0),(5,.ptr (gz+2) 0),(6,.ptr (gz+3) 0),(7,vI 0),(8,vI 0),(35,vL va k vc),(36,vI (k:Int)),(37,vI (([]:List Vl).length:Int))] [(gz,bK 29 5 (xA op ty bits name a kids.length cap)),(gz+1,bK 30 1 [vL na k nc]),(gz+2,bK 31 1 [vL va k vc]),(gz+3,bK 26 2 [v8 0,v6 0])] (gz+4) (fun b hb=>hγ0 b (by omega)) h) ?_
   rintro ⟨l1,l2⟩ ⟨hI,hV⟩ ih
   simp only at hI hV
   have hq:k=l1.length+l2.length:=by rw [hk2,hI,List.length_append]
   refine rk ?_
   cases l2 with
   | nil=>
     refine ky (l1.length:Int) (k:Int) (by rw [hq];simp) ?_
     refine rk ?_
     have hall:vs.all vldB=true:=by rw [hI,List.append_nil];exact hV
     have hnv:NvAt w na va k ns vs:=⟨hk1,hk2,hkb,hsn,vx,hsv,hlv⟩
     have hs0:semV ns vs (Ex.mk op ty bits name kids)=(match ngt ns vs (Ex.mk op ty bits name kids) with
       | none=>rsV (0,0) 0 6
       | some x=>if tyO (fun _=>none) x=0 then rsV (0,0) 0 2 else match (evE (lkV ns vs) (Ex.mk op ty bits name kids)).1 with
         | some v=>rsV v (evE (lkV ns vs) (Ex.mk op ty bits name kids)).2 0
         | none=>rsV (0,0) (evE (lkV ns vs) (Ex.mk op ty bits name kids)).2 10):=by
      unfold semV
      rw [if_neg (by rw [hx];rintro (h | h);cases h;omega),if_neg (by rw [hall];simp)]
      rfl
     refine good_callM (sy_cx _ _) [xV op ty bits name a kids.length cap,.slice na k nc,.slice va k vc] (by kernel_rfl) (by kernel_rfl) (by kernel_rfl) (Pr:=fun W v W'=>PlP (ngt ns vs (Ex.mk op ty bits name kids)) W W' v) (fun W hk=>placed_any ns vs na va k nc vc _ (Ex.mk op ty bits name kids) (xL op ty bits name a kids.length cap) W (Nat.le_refl _) (by omega) (hat.keep hk (kU hk)) (hnv.keep hk)) ?_
     cases hng:ngt ns vs (Ex.mk op ty bits name kids) with
     | none=>
       rintro V r w1 B1 hkV ⟨o1,o2,o3,nm,s6,n6,c6,rfl,-⟩ hbl1 hk01 hB01 hBn1 hB1
       refine rs [] 100 2 ?_
       exact gR (rsV (0,0) 0 6) (fun W hk=>⟨by rw [hs0];simp only [hng],(hk01.trans (hk.mono hB01)).below⟩)
     | some x=>
       rintro V r w1 B1 hkV ⟨o1,o2,o3,nm,s6,n6,c6,rfl,hz⟩ hbl1 hk01 hB01 hBn1 hB1
       have hz1:ExAt B1 w1 x _:=(hz x rfl).keep (Keep.refl _ _) fun j h=>hBn1 j h.1 h.2
       obtain ⟨tx,htx32,hux,hBx,hRx,hnsm⟩:=ngt_ok hR hvR hall hk1 hk2 hx hng
       refine rs [59] 100 2 ?_
       refine good_giveW 58 (gz+5) 55 3 1 [nT [116],.slice none 0 0,.slice none 0 0] (by kernel_rfl) (by kernel_rfl) (fun kk cp w2 B2 hk12 hB12 hB2 hBk hcl hcp=>?_)
       obtain rfl:cp=1:=by simp at hcp;omega
       refine rk ?_
       by_cases hz0:tyO (fun _=>none) x=0
       · refine good_callM (sy_cx _ _) [.agg #[.slice none 0 0,.slice none 0 0,.slice (some ⟨kk,0,none⟩) 1 1],nI 0,xV o1 o2 o3 nm s6 n6 c6] (by kernel_rfl) (by kernel_rfl) (by kernel_rfl) (Pr:=fun _ v _=>∃ u,v = .tuple #[n8 u,nI 9]) (fun W hk=>(typeof_any x (xL o1 o2 o3 nm s6 n6 c6) tx kk W (htab.below (hk01.trans ((hk12.trans (hk.mono hB12)).mono hB01)).below) htx32 hux (by omega) hRx ((hk.block kk hBk).trans hcl) (hz1.keep (hk12.trans (hk.mono hB12)) fun j h=>Nat.lt_of_lt_of_le (hB2 j (hB12 j h)) hk.size)).mono fun e w' ⟨⟨u,h1⟩,h2⟩=>⟨_,h1,⟨u,by rw [if_pos hz0]⟩,h2⟩) ?_
         rintro W3 v w3 B3 hk3 ⟨u,rfl⟩ hbl3 hk23 hB23 hBn3 hB3
         refine rs [] 100 2 ?_
         exact gR (rsV (0,0) 0 2) (fun W hk=>⟨by rw [hs0];simp only [hng];rw [if_pos hz0],(hk01.trans ((hk12.trans ((hk23.trans (hk.mono hB23)).mono hB12)).mono hB01)).below⟩)
       refine good_callM (sy_cx _ _) [.agg #[.slice none 0 0,.slice none 0 0,.slice (some ⟨kk,0,none⟩) 1 1],nI 0,xV o1 o2 o3 nm s6 n6 c6] (by kernel_rfl) (by kernel_rfl) (by kernel_rfl) (Pr:=fun _ v _=>∃ u,v = .tuple #[n8 u,nI 0]) (fun W hk=>(typeof_any x (xL o1 o2 o3 nm s6 n6 c6) tx kk W (htab.below (hk01.trans ((hk12.trans (hk.mono hB12)).mono hB01)).below) htx32 hux (by omega) hRx ((hk.block kk hBk).trans hcl) (hz1.keep (hk12.trans (hk.mono hB12)) fun j h=>Nat.lt_of_lt_of_le (hB2 j (hB12 j h)) hk.size)).mono fun e w' ⟨⟨u,h1⟩,h2⟩=>⟨_,h1,⟨u,by rw [if_neg hz0]⟩,h2⟩) ?_
       rintro W3 v w3 B3 hk3 ⟨u,rfl⟩ hbl3 hk23 hB23 hBn3 hB3
       refine rs [68] 100 2 ?_
       refine gG 5 (gz+2) 31 [.slice va k vc] (fun kv w4 B4 hk34 hB34 hkv hkvn hB4 hclv=>?_)
       refine gG 4 (gz+1) 30 [.slice na k nc] (fun kn w5 B5 hk45 hB45 hkn hknn hB5 hcln=>?_)
       have hk05:Keep (·<w.heap.size) w w5:=hk01.trans ((hk12.trans ((hk23.trans ((hk34.trans (hk45.mono hB34)).mono hB23)).mono hB12)).mono hB01)
       have hB05:∀ j,j<w.heap.size→B5 j:=fun j h=>hB45 j (hB34 j (hB23 j (hB12 j (hB01 j h))))
       have hlkA:∀ W,Keep B5 w5 W→LkAt (·<W.heap.size) W kv kn ns vs:=fun W hk=>by
        have hup:∀ j,j<w.heap.size→j<W.heap.size:=fun j h=>Nat.lt_of_lt_of_le (hB5 j (hB05 j h)) hk.size
        have hkW:=hk05.trans (hk.mono hB05)
        exact ⟨na,va,k,nc,vc,vx,((hk45.trans (hk.mono hB45)).block kv hkv).trans hclv,(hk.block kn hkn).trans hcln,Nat.lt_of_lt_of_le (hB5 kv (hB45 kv hkv)) hk.size,Nat.lt_of_lt_of_le (hB5 kn hkn) hk.size,hk1,hk2,hkb,(hsn.keep hkW).mono hup,(hsv.keep hkW).mono hup,hlv⟩
       have hty:tyD (lkV ns vs) (Ex.mk op ty bits name kids)≠0:=by rw [← ngt_tyD hng];exact hz0
       refine rk ?_
       refine gN [xV op ty bits name a kids.length cap,lookV kv kn] (fun v=>v=wkR (evE (lkV ns vs) (Ex.mk op ty bits name kids))) (fun W hk=>(worked_any kv kn ns vs (fun v hv=>vldB_G (List.all_eq_true.1 hall v hv) (hvR v hv)) (Ex.mk op ty bits name kids) (xL op ty bits name a kids.length cap) W t htx hR hnsm hty (by omega) (hlkA W hk) (hat.keep (hk05.trans (hk.mono hB05)) fun j h=>Nat.lt_of_lt_of_le (hB5 j (hB05 j h)) hk.size)).mono fun e w' ⟨h1,h2⟩=>⟨_,h1,rfl,h2⟩) ?_
       intro r w6 hr hk6
       subst hr
       clear hk6 w6
       unfold wkR
       cases hev:(evE (lkV ns vs) (Ex.mk op ty bits name kids)).1 with
       | none=>
         refine rs [] 100 2 ?_
         exact gR (rsV (0,0) (evE (lkV ns vs) (Ex.mk op ty bits name kids)).2 10) (fun W hk=>⟨by rw [hs0];simp only [hng,hev];rw [if_neg hz0],(hk05.trans (hk.mono hB05)).below⟩)
       | some v=>
         refine rs [] 100 2 ?_
         exact gR (rsV v (evE (lkV ns vs) (Ex.mk op ty bits name kids)).2 0) (fun W hk=>⟨by rw [hs0];simp only [hng,hev];rw [if_neg hz0],(hk05.trans (hk.mono hB05)).below⟩)
   | cons v l3=>
     have hin:l1.length<k:=by rw [hq,List.length_cons];omega
     have hlv2:=hlv
     rw [hI] at hlv2
     obtain ⟨c,hc,hcell⟩:=hlv2.at_ (fun _ _ h=>VlAt.len h)
     obtain ⟨vt,vb⟩:=v
     have hc:c=[n8 vt,n6 vb]:=hc
     subst hc
     refine kx (l1.length:Int) (k:Int) (by omega) ?_
     refine rk ?_
     refine gI 31 26 vc l1.length hsv hin ?_
     refine rk ?_
     refine gD 26 2 [n8 vt,n6 vb] l1.length 0 hsv rfl hcell ?_
     refine rk ?_
     refine gX [.agg #[n8 vt,n6 vb]] (.bool (vldB (vt,vb))) (fun W hk=>valid_any vt vb W) ?_
     refine rk ?_
     rcases Bool.eq_false_or_eq_true (vldB (vt,vb)) with hv | hv
     rotate_left
     ·
      refine gK true (b:=(!(vldB (vt,vb)))) (by rw [hv];rfl) ?_
      refine rs [] 60 2 ?_
      exact gR (rsV (0,0) 0 2) (fun W hk=>⟨by unfold semV;rw [if_neg (by rw [hx];rintro (h | h);cases h;omega),if_pos (by rw [hI,List.all_append,List.all_cons,hv];simp)],hk.below⟩)
     refine gK false (b:=(!(vldB (vt,vb)))) (by rw [hv];rfl) ?_
     refine rk ?_
     refine gJ 37 l1 (vt,vb) (by omega) ?_
     exact gU _ [(3,.ptr gz 0),(4,.ptr (gz+1) 0),(5,.ptr (gz+2) 0),(6,.ptr (gz+3) 0),(7,vI 0),(8,vI 0),(35,vL va k vc),(36,vI (k:Int)),(37,vI ((l1++[(vt,vb)]).length:Int))] [(gz,bK 29 5 (xA op ty bits name a kids.length cap)),(gz+1,bK 30 1 [vL na k nc]),(gz+2,bK 31 1 [vL va k vc]),(gz+3,bK 26 2 [v8 0,v6 0])] (gz+4) (fun b hb=>hγ0 b (by omega)) (ih (l1++[(vt,vb)],l3) ⟨(by show vs=(l1++[_])++l3;rw [hI];simp),(by show (l1++[(vt,vb)]).all vldB=true;rw [List.all_append,hV];simp [hv])⟩ lS1)
end
section
set_option maxRecDepth 100000 in
theorem awake08S:Sy.okTrue (Sy.reckonT Tryz.prog syIT 20000 1 evTab 12 [])=true:=by kernel_rfl
theorem awake08_any (w:World) (ht:Tab w):Calls Tryz.prog 12 #[] w fun e w'=>e = .returned (.bool true)∧Below w.heap.size w w':=
 Sy.reckonT_true sy_mixed sy_fineT sy_glob Tryz.func12 (by kernel_rfl) awake08S w (tab_at ht) ht
end
section
theorem sl_pre {F:Nat→Prop} {w:World} {a:Option Addr} {n m sz:Nat} {xs ys zs:List Value} (h:Sy.SlAt F w a m sz zs) (hz:zs=xs++ys) (hx:xs.length=n*sz) (hsz:0<sz):Sy.SlAt F w a n sz xs:=by
 refine ⟨hx,?_⟩
 rcases h.place with h0 | ⟨h1,h2,h3⟩
 · left
   have:=h.len
   rw [hz,List.length_append,h0] at this
   by_cases hn:n=0
   · exact hn
   · have:0<n*sz:=Nat.mul_pos (by omega) hsz
     omega
 · exact .inr ⟨h1,h2,fun j v hv=>h3 j v (by rw [hz,List.getElem?_append_left (List.getElem?_eq_some_iff.1 hv).1];exact hv)⟩
theorem rsV_of (ns:List (List UInt8)) (vs:List Vl) (e:Ex):∃ v n er,semV ns vs e=rsV v n er:=by
 unfold semV
 split
 · exact ⟨_,_,_,rfl⟩
 split
 · exact ⟨_,_,_,rfl⟩
 split
 · exact ⟨_,_,_,rfl⟩
 split
 · exact ⟨_,_,_,rfl⟩
 split
 · exact ⟨_,_,_,rfl⟩
 · exact ⟨_,_,_,rfl⟩
theorem sem_len {e:Ex} {t:List UInt8} (hR:exR e) (hB:exB e≤1048576) (h:ex32 e=some t):t.length≤140737488355328:=by
 have:=exT_len e hR (ex32_exT h)
 have:1048600*exB e≤1048600*1048576:=Nat.mul_le_mul_left _ hB
 omega
open Go.Sy in
set_option maxRecDepth 100000 in
theorem semValues_any (e:Ex) (cs:List Value) (ns:List (List UInt8)) (vs:List Vl) (na va:Option Addr) (k k2 nc vc:Nat) (vx:List Value) (w:World) (ht:Tab w) (hB:exB e≤1048576) (hR:exR e) (hvR:∀ v∈vs,vlR v) (hk1:k=ns.length) (hk2:k2=vs.length)
  (hsn:SlAt (·<w.heap.size) w na k 1 (strsV ns)) (hsv:SlAt (·<w.heap.size) w va k2 2 vx) (hlv:LsAt VlAt vs vx) (hat:ExAt (·<w.heap.size) w e cs):
  CB 3 #[.agg cs.toArray,.slice na k nc,.slice va k2 vc] w (.bool true):=by
 obtain ⟨op,ty,bits,name,kids⟩:=e
 have hat0:=hat
 simp only [ExAt] at hat0
 obtain ⟨a,cap,xs,rfl,_,_⟩:=hat0
 have hwB:=wgt_exB (Ex.mk op ty bits name kids)
 have PE:∀ W,Keep (·<w.heap.size) w W→ExAt (·<W.heap.size) W (Ex.mk op ty bits name kids) (xL op ty bits name a kids.length cap):=fun W hk=>hat.keep hk fun j h=>Nat.lt_of_lt_of_le h hk.size
 have up0:∀ W,Keep (·<w.heap.size) w W→∀ j,j<w.heap.size→j<W.heap.size:=fun W hk j h=>Nat.lt_of_lt_of_le h hk.size
 refine eN [xV op ty bits name a kids.length cap,.slice na k nc,.slice va k2 vc] Tryz.func3 (fun γ0 hγ0=>?_)
 have hγ0:∀ b,gz≤b→γ0 b=none:=hγ0
 refine rk ?_
 refine gX [xV op ty bits name a kids.length cap] (nI (wgt (Ex.mk op ty bits name kids):Nat)) (fun W hk=>weight_any _ (Ex.mk op ty bits name kids) (xL op ty bits name a kids.length cap) W (Nat.le_refl _) (by omega) (PE W hk)) ?_
 refine rs [20] 60 0 ?_
 by_cases h1:(3000:Int)<((wgt (Ex.mk op ty bits name kids):Nat):Int)
 ·
  refine zx 19 3000 ((wgt (Ex.mk op ty bits name kids):Nat):Int) h1 ?_
  refine rs [] 100 2 ?_
  exact gR (.bool true) (fun W hk=>⟨rfl,hk.below⟩)
 refine zy 19 3000 ((wgt (Ex.mk op ty bits name kids):Nat):Int) h1 ?_
 refine rs [25] 60 0 ?_
 by_cases h2:(60:Int)<(k:Int)
 ·
  refine zx 24 60 (k:Int) h2 ?_
  refine rs [] 100 2 ?_
  exact gR (.bool true) (fun W hk=>⟨rfl,hk.below⟩)
 refine zy 24 60 (k:Int) h2 ?_
 refine rk ?_
 by_cases h3:(60:Int)<(k2:Int)
 ·
  refine kx 60 (k2:Int) h3 ?_
  refine rs [] 100 2 ?_
  exact gR (.bool true) (fun W hk=>⟨rfl,hk.below⟩)
 refine ky 60 (k2:Int) h3 ?_
 refine rk ?_
 refine good_callM (sy_cx _ _) [xV op ty bits name a kids.length cap] (by kernel_rfl) (by kernel_rfl) (by kernel_rfl) (Pr:=fun W v W'=>CopyPr (Ex.mk op ty bits name kids) W v W') (fun W hk=>copyExpr_any _ (Ex.mk op ty bits name kids) (xL op ty bits name a kids.length cap) W (Nat.le_refl _) (by omega) (PE W hk)) ?_
 rintro V r w1 B1 hkV ⟨ds,rfl,hcp⟩ hbl1 hk01 hB01 hBn1 hB1
 have hcp1:ExAt B1 w1 (Ex.mk op ty bits name kids) ds:=hcp.keep (Keep.refl _ _) fun j h=>hBn1 j h.1 h.2
 clear hcp
 have hcp0:=hcp1
 simp only [ExAt] at hcp0
 obtain ⟨a3,cap3,xs3,rfl,_,_⟩:=hcp0
 refine rk ?_
 refine good_callM (sy_cx _ _) [.slice na k nc] (by kernel_rfl) (by kernel_rfl) (by kernel_rfl) (Pr:=fun W v W'=>v = .slice (some ⟨W.heap.size,0,none⟩) k (k+3)∧Blk W' W.heap.size 9 (strsV (ns++lentS)).toArray) (fun W hk=>(lentT_any na k nc ns W (sl_of ((hsn.keep (hk01.trans (hk.mono hB01))).mono (up0 W (hk01.trans (hk.mono hB01))))) (by omega)).mono fun e w' ⟨h1,h2,h3⟩=>⟨_,h1,⟨rfl,h2⟩,h3⟩) ?_
 rintro V2 r w2 B2 hkV2 ⟨rfl,hblk⟩ hbl2 hk12 hB12 hBn2 hB2
 obtain ⟨g,hg⟩:∃ g,g=V2.heap.size:=⟨_,rfl⟩
 rw [← hg] at hblk ⊢
 have hgB:B2 g:=hBn2 g (by omega) hblk.lt
 have hs2:SlAt B2 w2 (some ⟨g,0,none⟩) (k+3) 1 (strsV (ns++lentS)):=sl_blk hblk hgB (by rw [lentS_len,hk1])
 have hs2n:SlAt B2 w2 (some ⟨g,0,none⟩) k 1 (strsV ns):=sl_pre hs2 (by rw [strsV_app]) (by rw [strsV_len,hk1];omega) (by omega)
 have hk02:=hk01.trans (hk12.mono hB01)
 have hB02:∀ j,j<w.heap.size→B2 j:=fun j h=>hB12 j (hB01 j h)
 have hcp2:ExAt B2 w2 (Ex.mk op ty bits name kids) (xL op ty bits name a3 kids.length cap3):=hcp1.keep hk12 hB12
 refine rs [35] 60 0 ?_
 refine good_fix 33 (gz+2) 2 (by kernel_rfl) (by kernel_rfl) (by kernel_rfl) (fun kx=>?_)
 refine good_appM (.slice (some ⟨kx,0,none⟩) 0 0) (.slice va k2 vc) [31,31] (by kernel_rfl) (fun W hk=>app_none (e:=26) (sz:=2) (bytes:=16) (by kernel_rfl) (by kernel_rfl) (by kernel_rfl) ((hsv.keep hk02).mono hB02) (by omega) (by unfold maxLen;omega) W hk) ?_
 rintro V3 r w3 B3 hk3 ⟨v2,c2,rfl,hsl3⟩ hbl3 hk23 hB23 hBn3 hB3
 have hs3:SlAt B3 w3 v2 k2 2 vx:=hsl3.mono fun j h=>hBn3 j h.1 h.2
 have hk03:=hk02.trans (hk23.mono hB02)
 have hB03:∀ j,j<w.heap.size→B3 j:=fun j h=>hB23 j (hB02 j h)
 have K0:∀ W,Keep B3 w3 W→Keep (·<w.heap.size) w W:=fun W hk=>hk03.trans (hk.mono hB03)
 have up3:∀ W,Keep B3 w3 W→∀ j,B3 j→j<W.heap.size:=fun W hk j h=>Nat.lt_of_lt_of_le (hB3 j h) hk.size
 have hcp3:ExAt B3 w3 (Ex.mk op ty bits name kids) (xL op ty bits name a3 kids.length cap3):=hcp2.keep hk23 hB23
 have hg3:SlAt B3 w3 (some ⟨g,0,none⟩) (k+3) 1 (strsV (ns++lentS)):=(hs2.keep hk23).mono hB23
 have hg3n:SlAt B3 w3 (some ⟨g,0,none⟩) k 1 (strsV ns):=(hs2n.keep hk23).mono hB23
 obtain ⟨v,n,er,hv⟩:=rsV_of ns vs (Ex.mk op ty bits name kids)
 have hsame:=sem_same (ns:=ns) (e:=(Ex.mk op ty bits name kids)) hR hvR
 rw [hv] at hsame
 refine rk ?_
 refine gX [xV op ty bits name a3 kids.length cap3,.slice (some ⟨g,0,none⟩) k (k+3),.slice v2 k2 c2] (rsV v n er) (fun W hk=>by
  have h:=svalue_any (Ex.mk op ty bits name kids) (xL op ty bits name a3 kids.length cap3) ns vs (some ⟨g,0,none⟩) v2 k k2 (k+3) c2 vx W (ht.below (K0 W hk).below) hB hR (fun t h=>sem_len hR hB h) hvR hk1 hk2 (by omega) ((hg3n.keep hk).mono (up3 W hk)) ((hs3.keep hk).mono (up3 W hk)) hlv (hcp3.keep hk (up3 W hk))
  rw [hv] at h
  exact h) ?_
 refine rk ?_
 refine gX [xV op ty bits name a kids.length cap,.slice na k nc,.slice va k2 vc] (rsV v n er) (fun W hk=>by
  have h:=dsvalue_any (Ex.mk op ty bits name kids) (xL op ty bits name a kids.length cap) ns vs na va k k2 nc vc vx W hB hR hvR hk1 hk2 (by omega) ((hsn.keep (K0 W hk)).mono (up0 W (K0 W hk))) ((hsv.keep (K0 W hk)).mono (up0 W (K0 W hk))) hlv (PE W (K0 W hk))
  rw [← hsame] at h
  exact h) ?_
 refine rs [54] 60 0 ?_
 refine gV (.bool true) (S:=do eqGuard .eql 26 (.tmp 52) (.tmp 53) (.agg #[n8 v.1,n6 v.2]) (.agg #[n8 v.1,n6 v.2]);binOp .eql 26 (.agg #[n8 v.1,n6 v.2]) (.agg #[n8 v.1,n6 v.2])) (fun W _=>by have h:=run_eql_value (.tmp 52) (.tmp 53) v.1 v.2 v.1 v.2 W;rw [vEq_rfl] at h;exact h) ?_
 refine rs [61] 60 0 ?_
 refine gT 60 n n rfl ?_
 refine rs [66] 60 0 ?_
 refine gT 65 er er rfl ?_
 refine rk ?_
 refine gX [xV op ty bits name a3 kids.length cap3,xV op ty bits name a kids.length cap] (.bool true) (fun W hk=>by
  have h:=sameExpr_any _ (Ex.mk op ty bits name kids) (Ex.mk op ty bits name kids) (xL op ty bits name a3 kids.length cap3) (xL op ty bits name a kids.length cap) W (Nat.le_refl _) (by omega) (hcp3.keep hk (up3 W hk)) (PE W (K0 W hk))
  rw [sameEx_t.2 rfl] at h
  exact h) ?_
 refine rk ?_
 refine gX [.slice (some ⟨g,0,none⟩) k (k+3),.slice na k nc] (.bool true) (fun W hk=>kept_any ns na g k nc W hk1 (by omega) ((hg3.keep hk).mono (up3 W hk)) ((hsn.keep (K0 W hk)).mono (up0 W (K0 W hk)))) ?_
 refine rk ?_
 refine gX [.slice v2 k2 c2,.slice va k2 vc] (.bool true) (fun W hk=>by
  have h:=sameValues_any vs vs v2 va k2 k2 c2 vc vx vx W hk2 hk2 (by omega) ((hs3.keep hk).mono (up3 W hk)) ((hsv.keep (K0 W hk)).mono (up0 W (K0 W hk))) hlv hlv
  rw [sameB_t.2 rfl] at h
  exact h) ?_
 refine rk ?_
 refine gX [] (.bool true) (fun W hk=>awake08_any W (ht.below (K0 W hk).below)) ?_
 refine rk ?_
 exact gR (.bool true) (fun W hk=>⟨rfl,(K0 W hk).below⟩)
theorem semValues_walk (w:World) (ht:Tab w) (e:Ex) (c0:List Value) (o0:ExAt (·<w.heap.size) w e c0∧exR e) (A1:Option Addr) (m1 c1:Nat) (x1:List (List UInt8)) (o1:x1.length=m1∧m1≤c1∧c1≤maxLen∧Sy.SlAt (·<w.heap.size) w A1 m1 1 (strsV x1)) (A2:Option Addr) (m2 c2:Nat) (x2:List (Int×Int)) (o2:x2.length=m2∧m2≤c2∧c2≤maxLen∧(∃ xs,Sy.SlAt (·<w.heap.size) w A2 m2 2 xs∧LsAt VlAt x2 xs)∧∀ v∈x2,vlR v) (hbd:exB e≤1048576):
  CB 3 #[.agg c0.toArray,.slice A1 m1 c1,.slice A2 m2 c2] w (.bool true):=by
 obtain ⟨h1,_,_,h2⟩:=o1
 obtain ⟨h3,_,_,⟨xs,h4,h5⟩,h6⟩:=o2
 exact semValues_any e c0 x1 x2 A1 A2 m1 m2 c1 c2 xs w ht hbd o0.2 h6 h1.symm h3.symm h2 h4 h5 o0.1
end
end Go.Proofs.YtinjiigdijbjeaaGreatDoor
