/- Texts of this proof, one behind the other. Conditions: those in each theorem. -/
import Derived.Test.YtiacalnkmnckjaaGreatDoorTprQ13
import Derived.Test.YtiacalnkmnckjaaGreatDoorTprQ8
set_option linter.unusedVariables false
set_option linter.unusedSimpArgs false
section
namespace Go.Proofs.YtiacalnkmnckjaaGreatDoor
open Go.RowKit Go.As
theorem exT_of {op ty bits:Int} {name:List UInt8} {kids:List Ex} {ks:List (List UInt8)} (hz:¬ ((op≠1∧¬ (ty=0∧bits=0))∨(op≠2∧name≠[]))) (hks:exTs kids=some ks):exT (.mk op ty bits name kids)=
  if op=1 then (match (generalizing:=false) ks with | []=>litT ty bits | _=>none)
  else if op=2 then (match (generalizing:=false) ks with | []=>if nameB name=true then some name else none | _=>none)
  else if 3≤op∧op≤15 then (match (generalizing:=false) ks with | [a,b]=>some (40::(a++(32::(signT op++(32::(b++[41])))))) | _=>none)
  else if op=16 then (match (generalizing:=false) ks with | [a]=>some (45::a) | _=>none)
  else if op=17 then (match (generalizing:=false) ks with | [a]=>some (33::a) | _=>none)
  else if op=18 then (match (generalizing:=false) ks with | [a]=>some ([105,110,116,40]++(a++[41])) | _=>none)
  else if op=19 then (match (generalizing:=false) ks with | [a]=>some ([114,101,97,108,40]++(a++[41])) | _=>none)
  else none:=by
 simp only [exT]
 rw [if_neg hz,hks]
 rfl
theorem exT_no {op ty bits:Int} {name:List UInt8} {kids:List Ex} (hz:(op≠1∧¬ (ty=0∧bits=0))∨(op≠2∧name≠[])):exT (.mk op ty bits name kids)=none:=by
 simp only [exT]
 rw [if_pos hz]
theorem exT_kid {op ty bits:Int} {name:List UInt8} {kids:List Ex} (h:exTs kids=none):exT (.mk op ty bits name kids)=none:=by
 simp only [exT]
 rw [h]
 split <;> rfl
theorem exTs_app:∀ (l r:List Ex),exTs (l++r)=match exTs l,exTs r with
  | some a,some b=>some (a++b)
  | _,_=>none
 | [],r=>by
   simp only [List.nil_append,exTs]
   cases exTs r <;> simp
 | x::l,r=>by
   simp only [List.cons_append,exTs]
   rw [exTs_app l r]
   cases exT x with
   | none=>rfl
   | some a=>
     cases exTs l with
     | none=>rfl
     | some b=>
       cases exTs r with
       | none=>rfl
       | some c=>simp
mutual
theorem exT_len:∀ (e:Ex) {t:List UInt8},exR e→exT e=some t→t.length≤1048600*exB e
 | .mk op ty bits name kids,t,hR,h=>by
   simp only [exR] at hR
   obtain ⟨_,_,hb,hk⟩:=hR
   simp only [exB]
   rcases exT_inv h with ⟨rfl,rfl,hl⟩ | ⟨rfl,rfl,rfl⟩ | ⟨rfl,x,tx,rfl,hx,rfl⟩ | ⟨rfl,x,tx,rfl,hx,rfl⟩ | ⟨rfl,x,tx,rfl,hx,rfl⟩ | ⟨rfl,x,tx,rfl,hx,rfl⟩ | ⟨_,x,y,tx,ty',rfl,hx,hy,rfl⟩
   · obtain ⟨n,rfl⟩:∃ n:Nat,bits=(n:Int):=⟨bits.toNat,by omega⟩
     have:=lit_len (by omega) hl
     omega
   · omega
   all_goals
    simp only [exRs] at hk
    have h1:=exT_len x hk.1 hx
    simp only [exBs,List.length_append,List.length_cons,List.length_nil]
   · omega
   · omega
   · omega
   · omega
   · have h2:=exT_len y hk.2.1 hy
     have h3:=psignT_len op
     omega
end
end Go.Proofs.YtiacalnkmnckjaaGreatDoor
end
section
namespace Go.Proofs.YtiacalnkmnckjaaGreatDoor
open Go.RowKit Go.As
def RexC (N:Nat):Prop:=∀ (e:Ex) (cs:List Value) (w:World),wgt e≤N→exB e≤1000000000000→exR e→ExAt (·<w.heap.size) w e cs→
    Calls Tryz.prog 61 #[.agg cs.toArray] w fun v w'=>∃ s,v = .returned (.tuple #[.string (str s),.bool (exT e).isSome])∧(∀ t,exT e=some t→s=t)∧Below w.heap.size w w'
theorem signT_ne {op:Int} (h:3≤op∧op≤15):signT op≠[]:=by
 have:op=3∨op=4∨op=5∨op=6∨op=7∨op=8∨op=9∨op=10∨op=11∨op=12∨op=13∨op=14∨op=15:=by omega
 rcases this with rfl | rfl | rfl | rfl | rfl | rfl | rfl | rfl | rfl | rfl | rfl | rfl | rfl <;> decide
theorem signT_nil {op:Int} (c1:¬ op=1) (c2:¬ op=2) (c3:¬ (3≤op∧op≤15)):signT op=[]:=by
 unfold signT
 repeat rw [if_neg (by omega)]
theorem exBs_len:∀ (l:List Ex),l.length≤exBs l
 | []=>Nat.le_refl _
 | .mk _ _ _ _ _::l=>by
   have:=exBs_len l
   simp only [exBs,exB,List.length_cons]
   omega
theorem exTs_bound:∀ {kids:List Ex} {ks:List (List UInt8)},exRs kids→exTs kids=some ks→∀ t∈ks,t.length≤1048600*exBs kids
 | [],ks,_,h,t,ht=>by
   simp only [exTs,Option.some.injEq] at h
   subst h
   cases ht
 | e::l,ks,hR,h,t,ht=>by
   simp only [exTs] at h
   split at h
   · cases h
   rename_i te hte
   split at h
   · cases h
   rename_i ts hts
   injection h with h
   subst h
   simp only [exRs] at hR
   simp only [exBs]
   rcases List.mem_cons.1 ht with rfl | ht
   · have:=exT_len e hR.1 hte;omega
   · have:=exTs_bound hR.2 hts t ht;omega
open Go.Sy in
set_option maxRecDepth 100000 in
theorem rexpr_tail (N:Nat) (ihN:RexC N) (op ty:Int) (bn:Nat) (name:List UInt8) (kids:List Ex) (a:Option Addr) (n cap:Nat) (xs:List Value) (w:World) (hn:n=kids.length) (hN:wgts kids+1≤N+1) (hB:name.length+5+exBs kids≤1000000000000) (hbn:bn<18446744073709551616) (hkR:exRs kids) (hsl:SlAt (·<w.heap.size) w a n 5 xs) (hks:ExsAt (·<w.heap.size) w kids xs) (γ0:Go.Sy.Gm) (hγ0:∀ b,gz≤b→γ0 b=none) (hz:¬ ((op≠1∧¬ (ty=0∧(bn:Int)=0))∨(op≠2∧name≠[]))):
  Go.Sy.Good Tryz.prog (·<w.heap.size) w γ0 Tryz.f61.ntmps (bodyPostD Tryz.prog Tryz.f61 (fun v w'=>∃ s,v=Ending.returned (.tuple #[.string (str s),.bool (exT (Ex.mk op ty (bn:Int) name kids)).isSome])∧(∀ t,exT (Ex.mk op ty (bn:Int) name kids)=some t→s=t)∧Below w.heap.size w w')) ⟨[.code (seqR (seqR (Tryz.f61.body.getD .skip)))],⟨mkT [(1,.ptr gz 0)],mkH [(gz,some (.cells 34 true true true 5 (putL .leaf 0 [.v (.int .u8 op),.v (.int .u8 ty),.v (.int .u64 (bn:Int)),.v (.string (str name)),.v (.slice a n cap)])))],gz+1,[]⟩⟩:=by
 refine rk ?_
 refine good_toLp ?_
 refine good_loopI (fun i:CI Ex=>i.l2.length) (fun i=>kids=i.l1++i.l2∧(∃ ks,exTs i.l1=some ks∧i.xs=ks.map fun t=>Value.string (str t))∧RowAt 9 1 (gz+1) i.l1.length i.xs i.X i.ob) (fun i=>⟨mkT [(1,.ptr gz 0),(4,i.X),(5,.v (.int .i64 (i.l1.length:Int)))],mkH [(gz,some (.cells 34 true true true 5 (putL .leaf 0 [.v (.int .u8 op),.v (.int .u8 ty),.v (.int .u64 (bn:Int)),.v (.string (str name)),.v (.slice a n cap)]))),(gz+1,i.ob)],gz+2,[]⟩)
  ⟨[],kids,[],.v (.slice none 0 0),none⟩ ⟨rfl,⟨[],rfl,rfl⟩,RowAt.nil _ _ _⟩ (by kernel_rfl)
  (fun h=>good_sub _ [(1,.ptr gz 0),(4,.v (.slice none 0 0)),(5,.v (.int .i64 (([]:List Ex).length:Int)))] [(gz,some (.cells 34 true true true 5 (putL .leaf 0 [.v (.int .u8 op),.v (.int .u8 ty),.v (.int .u64 (bn:Int)),.v (.string (str name)),.v (.slice a n cap)]))),(gz+1,none)] (gz+2) rfl (by kernel_rfl) (by kernel_rfl) (by kernel_rfl) (by kernel_rfl) (by kernel_rfl) (fun b hb=>hγ0 b (Nat.le_trans (Nat.le_add_right _ _) hb)) (by kernel_rfl) h) ?_
 rintro ⟨l1,l2,xk,X,ob⟩ ⟨hI,⟨ks,hks1,hxk⟩,hrow⟩ ih
 simp only at hI hks1 hxk hrow
 have hn2:n=l1.length+l2.length:=by rw [hn,hI,List.length_append]
 have hwl:=exBs_len kids
 refine rk ?_
 cases l2 with
 | nil=>
   refine gK false (b:=intLt (l1.length:Int) (n:Int)) (lt_f (by simp at hn2;omega)) ?_
   rw [List.append_nil] at hI
   subst hI
   have hnm:name.length≤maxLen:=by unfold maxLen;omega
   have hE:=exT_of hz hks1
   have hkl:=exTs_len hks1
   have hbs:=exTs_bound hkR hks1
   rcases hrow.2 with ⟨hX,hob,h0⟩ | ⟨hX,hob⟩
   ·
    have hk0:ks=[]:=List.eq_nil_of_length_eq_zero (by omega)
    subst hX hob hk0
    have KW:∀ W,Keep (·<w.heap.size) w W→Keep (·<w.heap.size) w W:=fun W hk=>hk
    refine rk ?_
    by_cases c1:op=1
    ·
     refine gK true (b:=intEq op 1) (eq_t c1) ?_
     refine rk ?_
     cases hx:litT ty (bn:Int) with
     | none=>
       refine gE [.agg #[.int .u8 ty,.int .u64 (bn:Int)]] (fun v=>∃ s,v = .tuple #[.string (str s),.bool false]∧∀ u,litT ty (bn:Int)=some u→s=u) (fun W hk=>by
        have:=rlit_any ty bn hbn W
        rw [hx] at this ⊢
        exact this.mono fun e w' ⟨s,h1,h2,h3⟩=>⟨_,h1,⟨s,rfl,h2⟩,h3⟩) ?_
       rintro v w2 ⟨s,rfl,hs⟩ hk2
       refine rs [] 60 5 ?_
       have hv:exT (Ex.mk op ty (bn:Int) name kids)=none:=by rw [hE,if_pos c1];exact hx
       exact gR (.tuple #[.string (str (s)),.bool false]) (fun W hk=>⟨s,by rw [hv];rfl,(fun t ht=>by rw [hv] at ht;cases ht),(KW W hk).below⟩)
     | some u=>
       refine gE [.agg #[.int .u8 ty,.int .u64 (bn:Int)]] (fun v=>∃ s,v = .tuple #[.string (str s),.bool true]∧∀ u,litT ty (bn:Int)=some u→s=u) (fun W hk=>by
        have:=rlit_any ty bn hbn W
        rw [hx] at this ⊢
        exact this.mono fun e w' ⟨s,h1,h2,h3⟩=>⟨_,h1,⟨s,rfl,h2⟩,h3⟩) ?_
       rintro v w2 ⟨s,rfl,hs⟩ hk2
       have hs:=hs u hx
       subst hs
       refine rs [] 60 5 ?_
       have hv:exT (Ex.mk op ty (bn:Int) name kids)=some (s):=by rw [hE,if_pos c1];exact hx
       exact gR (.tuple #[.string (str (s)),.bool true]) (fun W hk=>⟨s,by rw [hv];rfl,(fun t ht=>by rw [hv] at ht;injection ht),(KW W hk).below⟩)
    refine gK false (b:=intEq op 1) (eq_f c1) ?_
    refine rk ?_
    by_cases c2:op=2
    ·
     refine gK true (b:=intEq op 2) (eq_t c2) ?_
     refine rs [] 1 0 ?_
     refine good_draw sy_mixed (by kernel_rfl) ?_
     refine q_run [] 60 ?_
     cases hx:nameB name with
     | false=>
       refine qB [.string (str name)] (.bool false) (fun W hk=>by have:=nameR_any name W hnm;rw [hx] at this;exact this) ?_
       refine q_run [] 60 ?_
       refine qE ?_
       refine rs [] 60 3 ?_
       have hv:exT (Ex.mk op ty (bn:Int) name kids)=none:=by rw [hE,if_neg c1,if_pos c2];rw [hx];rfl
       exact gR (.tuple #[.string (str (name)),.bool false]) (fun W hk=>⟨name,by rw [hv];rfl,(fun t ht=>by rw [hv] at ht;cases ht),(KW W hk).below⟩)
     | true=>
       refine qB [.string (str name)] (.bool true) (fun W hk=>by have:=nameR_any name W hnm;rw [hx] at this;exact this) ?_
       refine q_run [] 60 ?_
       refine qE ?_
       refine rs [] 60 3 ?_
       have hv:exT (Ex.mk op ty (bn:Int) name kids)=some (name):=by rw [hE,if_neg c1,if_pos c2];rw [hx];rfl
       exact gR (.tuple #[.string (str (name)),.bool true]) (fun W hk=>⟨name,by rw [hv];rfl,(fun t ht=>by rw [hv] at ht;injection ht),(KW W hk).below⟩)
    refine gK false (b:=intEq op 2) (eq_f c2) ?_
    refine rk ?_
    by_cases c3:3≤op∧op≤15
    ·
     have hsg:Sy.bEqL (signT op) []=false:=by rw [← Bool.not_eq_true,bEq_nil];exact signT_ne c3
     refine gX [.int .u8 op] (.string (str (signT op))) (fun W hk=>rsign_any op W) ?_
     refine rs [89] 60 0 ?_
     refine gS 87 (x := .bool (!(Sy.bEqL (signT op) []))) (.bool true) (by rw [hsg];rfl) ?_
     refine gS 88 (x := .bool (!(Sy.bEqL (signT op) []))) (.bool true) (by rw [hsg];rfl) ?_
     refine rs [112] 60 3 ?_
     refine gF 110 op 16 (by omega) ?_
     refine gF 111 op 16 (by omega) ?_
     refine rs [124] 60 3 ?_
     refine gF 122 op 17 (by omega) ?_
     refine gF 123 op 17 (by omega) ?_
     refine rs [136] 60 3 ?_
     refine gF 134 op 18 (by omega) ?_
     refine gF 135 op 18 (by omega) ?_
     refine rs [149] 60 3 ?_
     refine gF 147 op 19 (by omega) ?_
     refine gF 148 op 19 (by omega) ?_
     refine rs [] 60 9 ?_
     have hv:exT (Ex.mk op ty (bn:Int) name kids)=none:=by rw [hE,if_neg c1,if_neg c2,if_pos c3]
     exact gR (.tuple #[.string (str ([])),.bool false]) (fun W hk=>⟨[],by rw [hv];rfl,(fun t ht=>by rw [hv] at ht;cases ht),(KW W hk).below⟩)
    refine gX [.int .u8 op] (.string (str [])) (fun W hk=>by have:=rsign_any op W;rw [signT_nil c1 c2 c3] at this;exact this) ?_
    by_cases c16:op=16
    ·
     refine rs [112] 60 3 ?_
     refine gT 110 op 16 c16 ?_
     refine gT 111 op 16 c16 ?_
     refine rs [124] 60 3 ?_
     refine gF 122 op 17 (by omega) ?_
     refine gF 123 op 17 (by omega) ?_
     refine rs [136] 60 3 ?_
     refine gF 134 op 18 (by omega) ?_
     refine gF 135 op 18 (by omega) ?_
     refine rs [149] 60 3 ?_
     refine gF 147 op 19 (by omega) ?_
     refine gF 148 op 19 (by omega) ?_
     refine rs [] 60 9 ?_
     have hv:exT (Ex.mk op ty (bn:Int) name kids)=none:=by rw [hE,if_neg c1,if_neg c2,if_neg c3,if_pos c16]
     exact gR (.tuple #[.string (str ([])),.bool false]) (fun W hk=>⟨[],by rw [hv];rfl,(fun t ht=>by rw [hv] at ht;cases ht),(KW W hk).below⟩)
    by_cases c17:op=17
    ·
     refine rs [112] 60 3 ?_
     refine gF 110 op 16 (by omega) ?_
     refine gF 111 op 16 (by omega) ?_
     refine rs [124] 60 3 ?_
     refine gT 122 op 17 c17 ?_
     refine gT 123 op 17 c17 ?_
     refine rs [136] 60 3 ?_
     refine gF 134 op 18 (by omega) ?_
     refine gF 135 op 18 (by omega) ?_
     refine rs [149] 60 3 ?_
     refine gF 147 op 19 (by omega) ?_
     refine gF 148 op 19 (by omega) ?_
     refine rs [] 60 9 ?_
     have hv:exT (Ex.mk op ty (bn:Int) name kids)=none:=by rw [hE,if_neg c1,if_neg c2,if_neg c3,if_neg c16,if_pos c17]
     exact gR (.tuple #[.string (str ([])),.bool false]) (fun W hk=>⟨[],by rw [hv];rfl,(fun t ht=>by rw [hv] at ht;cases ht),(KW W hk).below⟩)
    by_cases c18:op=18
    ·
     refine rs [112] 60 3 ?_
     refine gF 110 op 16 (by omega) ?_
     refine gF 111 op 16 (by omega) ?_
     refine rs [124] 60 3 ?_
     refine gF 122 op 17 (by omega) ?_
     refine gF 123 op 17 (by omega) ?_
     refine rs [136] 60 3 ?_
     refine gT 134 op 18 c18 ?_
     refine gT 135 op 18 c18 ?_
     refine rs [149] 60 3 ?_
     refine gF 147 op 19 (by omega) ?_
     refine gF 148 op 19 (by omega) ?_
     refine rs [] 60 9 ?_
     have hv:exT (Ex.mk op ty (bn:Int) name kids)=none:=by rw [hE,if_neg c1,if_neg c2,if_neg c3,if_neg c16,if_neg c17,if_pos c18]
     exact gR (.tuple #[.string (str ([])),.bool false]) (fun W hk=>⟨[],by rw [hv];rfl,(fun t ht=>by rw [hv] at ht;cases ht),(KW W hk).below⟩)
    by_cases c19:op=19
    ·
     refine rs [112] 60 3 ?_
     refine gF 110 op 16 (by omega) ?_
     refine gF 111 op 16 (by omega) ?_
     refine rs [124] 60 3 ?_
     refine gF 122 op 17 (by omega) ?_
     refine gF 123 op 17 (by omega) ?_
     refine rs [136] 60 3 ?_
     refine gF 134 op 18 (by omega) ?_
     refine gF 135 op 18 (by omega) ?_
     refine rs [149] 60 3 ?_
     refine gT 147 op 19 c19 ?_
     refine gT 148 op 19 c19 ?_
     refine rs [] 60 9 ?_
     have hv:exT (Ex.mk op ty (bn:Int) name kids)=none:=by rw [hE,if_neg c1,if_neg c2,if_neg c3,if_neg c16,if_neg c17,if_neg c18,if_pos c19]
     exact gR (.tuple #[.string (str ([])),.bool false]) (fun W hk=>⟨[],by rw [hv];rfl,(fun t ht=>by rw [hv] at ht;cases ht),(KW W hk).below⟩)
    refine rs [112] 60 3 ?_
    refine gF 110 op 16 c16 ?_
    refine gF 111 op 16 c16 ?_
    refine rs [124] 60 3 ?_
    refine gF 122 op 17 c17 ?_
    refine gF 123 op 17 c17 ?_
    refine rs [136] 60 3 ?_
    refine gF 134 op 18 c18 ?_
    refine gF 135 op 18 c18 ?_
    refine rs [149] 60 3 ?_
    refine gF 147 op 19 c19 ?_
    refine gF 148 op 19 c19 ?_
    refine rs [] 60 9 ?_
    have hv:exT (Ex.mk op ty (bn:Int) name kids)=none:=by rw [hE,if_neg c1,if_neg c2,if_neg c3,if_neg c16,if_neg c17,if_neg c18,if_neg c19]
    exact gR (.tuple #[.string (str ([])),.bool false]) (fun W hk=>⟨[],by rw [hv];rfl,(fun t ht=>by rw [hv] at ht;cases ht),(KW W hk).below⟩)
   rw [← hkl] at hX
   subst hX hob hxk
   match ks,hkl,hbs,hE,ih with
   | [],hkl,hbs,hE,ih=>
     refine good_giveR 4 (gz+1) 9 1 ([]:List (List UInt8)).length (([]:List (List UInt8)).map fun t=>Value.string (str t)) (by kernel_rfl) (by kernel_rfl) (by simp) (fun k scap w1 B1 hk1 hB01 hB1s hrow1=>?_)
     have KW:∀ W,Keep B1 w1 W→Keep (·<w.heap.size) w W:=fun W hk=>hk1.trans (hk.mono hB01)
     refine rk ?_
     by_cases c1:op=1
     ·
      refine gK true (b:=intEq op 1) (eq_t c1) ?_
      refine rk ?_
      cases hx:litT ty (bn:Int) with
      | none=>
        refine gE [.agg #[.int .u8 ty,.int .u64 (bn:Int)]] (fun v=>∃ s,v = .tuple #[.string (str s),.bool false]∧∀ u,litT ty (bn:Int)=some u→s=u) (fun W hk=>by
         have:=rlit_any ty bn hbn W
         rw [hx] at this ⊢
         exact this.mono fun e w' ⟨s,h1,h2,h3⟩=>⟨_,h1,⟨s,rfl,h2⟩,h3⟩) ?_
        rintro v w2 ⟨s,rfl,hs⟩ hk2
        refine rs [] 60 5 ?_
        have hv:exT (Ex.mk op ty (bn:Int) name kids)=none:=by rw [hE,if_pos c1];exact hx
        exact gR (.tuple #[.string (str (s)),.bool false]) (fun W hk=>⟨s,by rw [hv];rfl,(fun t ht=>by rw [hv] at ht;cases ht),(KW W hk).below⟩)
      | some u=>
        refine gE [.agg #[.int .u8 ty,.int .u64 (bn:Int)]] (fun v=>∃ s,v = .tuple #[.string (str s),.bool true]∧∀ u,litT ty (bn:Int)=some u→s=u) (fun W hk=>by
         have:=rlit_any ty bn hbn W
         rw [hx] at this ⊢
         exact this.mono fun e w' ⟨s,h1,h2,h3⟩=>⟨_,h1,⟨s,rfl,h2⟩,h3⟩) ?_
        rintro v w2 ⟨s,rfl,hs⟩ hk2
        have hs:=hs u hx
        subst hs
        refine rs [] 60 5 ?_
        have hv:exT (Ex.mk op ty (bn:Int) name kids)=some (s):=by rw [hE,if_pos c1];exact hx
        exact gR (.tuple #[.string (str (s)),.bool true]) (fun W hk=>⟨s,by rw [hv];rfl,(fun t ht=>by rw [hv] at ht;injection ht),(KW W hk).below⟩)
     refine gK false (b:=intEq op 1) (eq_f c1) ?_
     refine rk ?_
     by_cases c2:op=2
     ·
      refine gK true (b:=intEq op 2) (eq_t c2) ?_
      refine rs [] 1 0 ?_
      refine good_draw sy_mixed (by kernel_rfl) ?_
      refine q_run [] 60 ?_
      cases hx:nameB name with
      | false=>
        refine qB [.string (str name)] (.bool false) (fun W hk=>by have:=nameR_any name W hnm;rw [hx] at this;exact this) ?_
        refine q_run [] 60 ?_
        refine qE ?_
        refine rs [] 60 3 ?_
        have hv:exT (Ex.mk op ty (bn:Int) name kids)=none:=by rw [hE,if_neg c1,if_pos c2];rw [hx];rfl
        exact gR (.tuple #[.string (str (name)),.bool false]) (fun W hk=>⟨name,by rw [hv];rfl,(fun t ht=>by rw [hv] at ht;cases ht),(KW W hk).below⟩)
      | true=>
        refine qB [.string (str name)] (.bool true) (fun W hk=>by have:=nameR_any name W hnm;rw [hx] at this;exact this) ?_
        refine q_run [] 60 ?_
        refine qE ?_
        refine rs [] 60 3 ?_
        have hv:exT (Ex.mk op ty (bn:Int) name kids)=some (name):=by rw [hE,if_neg c1,if_pos c2];rw [hx];rfl
        exact gR (.tuple #[.string (str (name)),.bool true]) (fun W hk=>⟨name,by rw [hv];rfl,(fun t ht=>by rw [hv] at ht;injection ht),(KW W hk).below⟩)
     refine gK false (b:=intEq op 2) (eq_f c2) ?_
     refine rk ?_
     by_cases c3:3≤op∧op≤15
     ·
      have hsg:Sy.bEqL (signT op) []=false:=by rw [← Bool.not_eq_true,bEq_nil];exact signT_ne c3
      refine gX [.int .u8 op] (.string (str (signT op))) (fun W hk=>rsign_any op W) ?_
      refine rs [89] 60 0 ?_
      refine gS 87 (x := .bool (!(Sy.bEqL (signT op) []))) (.bool true) (by rw [hsg];rfl) ?_
      refine gS 88 (x := .bool (!(Sy.bEqL (signT op) []))) (.bool true) (by rw [hsg];rfl) ?_
      refine rs [112] 60 3 ?_
      refine gF 110 op 16 (by omega) ?_
      refine gF 111 op 16 (by omega) ?_
      refine rs [124] 60 3 ?_
      refine gF 122 op 17 (by omega) ?_
      refine gF 123 op 17 (by omega) ?_
      refine rs [136] 60 3 ?_
      refine gF 134 op 18 (by omega) ?_
      refine gF 135 op 18 (by omega) ?_
      refine rs [149] 60 3 ?_
      refine gF 147 op 19 (by omega) ?_
      refine gF 148 op 19 (by omega) ?_
      refine rs [] 60 9 ?_
      have hv:exT (Ex.mk op ty (bn:Int) name kids)=none:=by rw [hE,if_neg c1,if_neg c2,if_pos c3]
      exact gR (.tuple #[.string (str ([])),.bool false]) (fun W hk=>⟨[],by rw [hv];rfl,(fun t ht=>by rw [hv] at ht;cases ht),(KW W hk).below⟩)
     refine gX [.int .u8 op] (.string (str [])) (fun W hk=>by have:=rsign_any op W;rw [signT_nil c1 c2 c3] at this;exact this) ?_
     by_cases c16:op=16
     ·
      refine rs [112] 60 3 ?_
      refine gT 110 op 16 c16 ?_
      refine gT 111 op 16 c16 ?_
      refine rs [124] 60 3 ?_
      refine gF 122 op 17 (by omega) ?_
      refine gF 123 op 17 (by omega) ?_
      refine rs [136] 60 3 ?_
      refine gF 134 op 18 (by omega) ?_
      refine gF 135 op 18 (by omega) ?_
      refine rs [149] 60 3 ?_
      refine gF 147 op 19 (by omega) ?_
      refine gF 148 op 19 (by omega) ?_
      refine rs [] 60 9 ?_
      have hv:exT (Ex.mk op ty (bn:Int) name kids)=none:=by rw [hE,if_neg c1,if_neg c2,if_neg c3,if_pos c16]
      exact gR (.tuple #[.string (str ([])),.bool false]) (fun W hk=>⟨[],by rw [hv];rfl,(fun t ht=>by rw [hv] at ht;cases ht),(KW W hk).below⟩)
     by_cases c17:op=17
     ·
      refine rs [112] 60 3 ?_
      refine gF 110 op 16 (by omega) ?_
      refine gF 111 op 16 (by omega) ?_
      refine rs [124] 60 3 ?_
      refine gT 122 op 17 c17 ?_
      refine gT 123 op 17 c17 ?_
      refine rs [136] 60 3 ?_
      refine gF 134 op 18 (by omega) ?_
      refine gF 135 op 18 (by omega) ?_
      refine rs [149] 60 3 ?_
      refine gF 147 op 19 (by omega) ?_
      refine gF 148 op 19 (by omega) ?_
      refine rs [] 60 9 ?_
      have hv:exT (Ex.mk op ty (bn:Int) name kids)=none:=by rw [hE,if_neg c1,if_neg c2,if_neg c3,if_neg c16,if_pos c17]
      exact gR (.tuple #[.string (str ([])),.bool false]) (fun W hk=>⟨[],by rw [hv];rfl,(fun t ht=>by rw [hv] at ht;cases ht),(KW W hk).below⟩)
     by_cases c18:op=18
     ·
      refine rs [112] 60 3 ?_
      refine gF 110 op 16 (by omega) ?_
      refine gF 111 op 16 (by omega) ?_
      refine rs [124] 60 3 ?_
      refine gF 122 op 17 (by omega) ?_
      refine gF 123 op 17 (by omega) ?_
      refine rs [136] 60 3 ?_
      refine gT 134 op 18 c18 ?_
      refine gT 135 op 18 c18 ?_
      refine rs [149] 60 3 ?_
      refine gF 147 op 19 (by omega) ?_
      refine gF 148 op 19 (by omega) ?_
      refine rs [] 60 9 ?_
      have hv:exT (Ex.mk op ty (bn:Int) name kids)=none:=by rw [hE,if_neg c1,if_neg c2,if_neg c3,if_neg c16,if_neg c17,if_pos c18]
      exact gR (.tuple #[.string (str ([])),.bool false]) (fun W hk=>⟨[],by rw [hv];rfl,(fun t ht=>by rw [hv] at ht;cases ht),(KW W hk).below⟩)
     by_cases c19:op=19
     ·
      refine rs [112] 60 3 ?_
      refine gF 110 op 16 (by omega) ?_
      refine gF 111 op 16 (by omega) ?_
      refine rs [124] 60 3 ?_
      refine gF 122 op 17 (by omega) ?_
      refine gF 123 op 17 (by omega) ?_
      refine rs [136] 60 3 ?_
      refine gF 134 op 18 (by omega) ?_
      refine gF 135 op 18 (by omega) ?_
      refine rs [149] 60 3 ?_
      refine gT 147 op 19 c19 ?_
      refine gT 148 op 19 c19 ?_
      refine rs [] 60 9 ?_
      have hv:exT (Ex.mk op ty (bn:Int) name kids)=none:=by rw [hE,if_neg c1,if_neg c2,if_neg c3,if_neg c16,if_neg c17,if_neg c18,if_pos c19]
      exact gR (.tuple #[.string (str ([])),.bool false]) (fun W hk=>⟨[],by rw [hv];rfl,(fun t ht=>by rw [hv] at ht;cases ht),(KW W hk).below⟩)
     refine rs [112] 60 3 ?_
     refine gF 110 op 16 c16 ?_
     refine gF 111 op 16 c16 ?_
     refine rs [124] 60 3 ?_
     refine gF 122 op 17 c17 ?_
     refine gF 123 op 17 c17 ?_
     refine rs [136] 60 3 ?_
     refine gF 134 op 18 c18 ?_
     refine gF 135 op 18 c18 ?_
     refine rs [149] 60 3 ?_
     refine gF 147 op 19 c19 ?_
     refine gF 148 op 19 c19 ?_
     refine rs [] 60 9 ?_
     have hv:exT (Ex.mk op ty (bn:Int) name kids)=none:=by rw [hE,if_neg c1,if_neg c2,if_neg c3,if_neg c16,if_neg c17,if_neg c18,if_neg c19]
     exact gR (.tuple #[.string (str ([])),.bool false]) (fun W hk=>⟨[],by rw [hv];rfl,(fun t ht=>by rw [hv] at ht;cases ht),(KW W hk).below⟩)
   | [t1],hkl,hbs,hE,ih=>
     have hb1:=hbs t1 (by simp)
     refine good_giveR 4 (gz+1) 9 1 ([t1]:List (List UInt8)).length (([t1]:List (List UInt8)).map fun t=>Value.string (str t)) (by kernel_rfl) (by kernel_rfl) (by simp) (fun k scap w1 B1 hk1 hB01 hB1s hrow1=>?_)
     have KW:∀ W,Keep B1 w1 W→Keep (·<w.heap.size) w W:=fun W hk=>hk1.trans (hk.mono hB01)
     refine rk ?_
     by_cases c1:op=1
     ·
      refine gK true (b:=intEq op 1) (eq_t c1) ?_
      refine rk ?_
      cases hx:litT ty (bn:Int) with
      | none=>
        refine gE [.agg #[.int .u8 ty,.int .u64 (bn:Int)]] (fun v=>∃ s,v = .tuple #[.string (str s),.bool false]∧∀ u,litT ty (bn:Int)=some u→s=u) (fun W hk=>by
         have:=rlit_any ty bn hbn W
         rw [hx] at this ⊢
         exact this.mono fun e w' ⟨s,h1,h2,h3⟩=>⟨_,h1,⟨s,rfl,h2⟩,h3⟩) ?_
        rintro v w2 ⟨s,rfl,hs⟩ hk2
        refine rs [] 60 5 ?_
        have hv:exT (Ex.mk op ty (bn:Int) name kids)=none:=by rw [hE,if_pos c1]
        exact gR (.tuple #[.string (str (s)),.bool false]) (fun W hk=>⟨s,by rw [hv];rfl,(fun t ht=>by rw [hv] at ht;cases ht),(KW W hk).below⟩)
      | some u=>
        refine gE [.agg #[.int .u8 ty,.int .u64 (bn:Int)]] (fun v=>∃ s,v = .tuple #[.string (str s),.bool true]∧∀ u,litT ty (bn:Int)=some u→s=u) (fun W hk=>by
         have:=rlit_any ty bn hbn W
         rw [hx] at this ⊢
         exact this.mono fun e w' ⟨s,h1,h2,h3⟩=>⟨_,h1,⟨s,rfl,h2⟩,h3⟩) ?_
        rintro v w2 ⟨s,rfl,hs⟩ hk2
        have hs:=hs u hx
        subst hs
        refine rs [] 60 5 ?_
        have hv:exT (Ex.mk op ty (bn:Int) name kids)=none:=by rw [hE,if_pos c1]
        exact gR (.tuple #[.string (str (s)),.bool false]) (fun W hk=>⟨s,by rw [hv];rfl,(fun t ht=>by rw [hv] at ht;cases ht),(KW W hk).below⟩)
     refine gK false (b:=intEq op 1) (eq_f c1) ?_
     refine rk ?_
     by_cases c2:op=2
     ·
      refine gK true (b:=intEq op 2) (eq_t c2) ?_
      refine rs [] 1 0 ?_
      refine good_draw sy_mixed (by kernel_rfl) ?_
      refine q_run [] 60 ?_
      refine qE ?_
      refine rs [] 60 3 ?_
      have hv:exT (Ex.mk op ty (bn:Int) name kids)=none:=by rw [hE,if_neg c1,if_pos c2]
      exact gR (.tuple #[.string (str (name)),.bool false]) (fun W hk=>⟨name,by rw [hv];rfl,(fun t ht=>by rw [hv] at ht;cases ht),(KW W hk).below⟩)
     refine gK false (b:=intEq op 2) (eq_f c2) ?_
     refine rk ?_
     by_cases c3:3≤op∧op≤15
     ·
      have hsg:Sy.bEqL (signT op) []=false:=by rw [← Bool.not_eq_true,bEq_nil];exact signT_ne c3
      refine gX [.int .u8 op] (.string (str (signT op))) (fun W hk=>rsign_any op W) ?_
      refine rs [89] 60 0 ?_
      refine gS 87 (x := .bool (!(Sy.bEqL (signT op) []))) (.bool true) (by rw [hsg];rfl) ?_
      refine gS 88 (x := .bool (!(Sy.bEqL (signT op) []))) (.bool true) (by rw [hsg];rfl) ?_
      refine rs [112] 60 3 ?_
      refine gF 110 op 16 (by omega) ?_
      refine gF 111 op 16 (by omega) ?_
      refine rs [124] 60 3 ?_
      refine gF 122 op 17 (by omega) ?_
      refine gF 123 op 17 (by omega) ?_
      refine rs [136] 60 3 ?_
      refine gF 134 op 18 (by omega) ?_
      refine gF 135 op 18 (by omega) ?_
      refine rs [149] 60 3 ?_
      refine gF 147 op 19 (by omega) ?_
      refine gF 148 op 19 (by omega) ?_
      refine rs [] 60 9 ?_
      have hv:exT (Ex.mk op ty (bn:Int) name kids)=none:=by rw [hE,if_neg c1,if_neg c2,if_pos c3]
      exact gR (.tuple #[.string (str ([])),.bool false]) (fun W hk=>⟨[],by rw [hv];rfl,(fun t ht=>by rw [hv] at ht;cases ht),(KW W hk).below⟩)
     refine gX [.int .u8 op] (.string (str [])) (fun W hk=>by have:=rsign_any op W;rw [signT_nil c1 c2 c3] at this;exact this) ?_
     by_cases c16:op=16
     ·
      refine rs [112] 60 3 ?_
      refine gT 110 op 16 c16 ?_
      refine gT 111 op 16 c16 ?_
      refine rs [116] 60 1 ?_
      refine gV (.pointer (some ⟨k,0+0*1,none⟩)) (S:=Instr.indexAt 23 (.slice (some ⟨k,0,none⟩) 1 scap) (.int .i64 ((0:Nat):Int))) (fun W _=>idx_sl (e:=9) hrow1 (by kernel_rfl) (by kernel_rfl) (show 0<1 by decide) W) ?_
      refine rs [117] 60 0 ?_
      refine gV (.string (str t1)) (S:=Instr.loadAt 9 (.pointer (some ⟨k,0+0*1+0,none⟩))) (fun W hk=>load_sl hrow1 (by kernel_rfl) 0 0 rfl hk) ?_
      refine rs [118] 60 0 ?_
      refine gC ([45]) (t1) (by simp;omega) ?_
      refine rs [] 60 3 ?_
      have hv:exT (Ex.mk op ty (bn:Int) name kids)=some ([45]++t1):=by rw [hE,if_neg c1,if_neg c2,if_neg c3,if_pos c16];rfl
      exact gR (.tuple #[.string (str ([45]++t1)),.bool true]) (fun W hk=>⟨[45]++t1,by rw [hv];rfl,(fun t ht=>by rw [hv] at ht;injection ht),(KW W hk).below⟩)
     by_cases c17:op=17
     ·
      refine rs [112] 60 3 ?_
      refine gF 110 op 16 (by omega) ?_
      refine gF 111 op 16 (by omega) ?_
      refine rs [124] 60 3 ?_
      refine gT 122 op 17 c17 ?_
      refine gT 123 op 17 c17 ?_
      refine rs [128] 60 1 ?_
      refine gV (.pointer (some ⟨k,0+0*1,none⟩)) (S:=Instr.indexAt 23 (.slice (some ⟨k,0,none⟩) 1 scap) (.int .i64 ((0:Nat):Int))) (fun W _=>idx_sl (e:=9) hrow1 (by kernel_rfl) (by kernel_rfl) (show 0<1 by decide) W) ?_
      refine rs [129] 60 0 ?_
      refine gV (.string (str t1)) (S:=Instr.loadAt 9 (.pointer (some ⟨k,0+0*1+0,none⟩))) (fun W hk=>load_sl hrow1 (by kernel_rfl) 0 0 rfl hk) ?_
      refine rs [130] 60 0 ?_
      refine gC ([33]) (t1) (by simp;omega) ?_
      refine rs [] 60 3 ?_
      have hv:exT (Ex.mk op ty (bn:Int) name kids)=some ([33]++t1):=by rw [hE,if_neg c1,if_neg c2,if_neg c3,if_neg c16,if_pos c17];rfl
      exact gR (.tuple #[.string (str ([33]++t1)),.bool true]) (fun W hk=>⟨[33]++t1,by rw [hv];rfl,(fun t ht=>by rw [hv] at ht;injection ht),(KW W hk).below⟩)
     by_cases c18:op=18
     ·
      refine rs [112] 60 3 ?_
      refine gF 110 op 16 (by omega) ?_
      refine gF 111 op 16 (by omega) ?_
      refine rs [124] 60 3 ?_
      refine gF 122 op 17 (by omega) ?_
      refine gF 123 op 17 (by omega) ?_
      refine rs [136] 60 3 ?_
      refine gT 134 op 18 c18 ?_
      refine gT 135 op 18 c18 ?_
      refine rs [140] 60 1 ?_
      refine gV (.pointer (some ⟨k,0+0*1,none⟩)) (S:=Instr.indexAt 23 (.slice (some ⟨k,0,none⟩) 1 scap) (.int .i64 ((0:Nat):Int))) (fun W _=>idx_sl (e:=9) hrow1 (by kernel_rfl) (by kernel_rfl) (show 0<1 by decide) W) ?_
      refine rs [141] 60 0 ?_
      refine gV (.string (str t1)) (S:=Instr.loadAt 9 (.pointer (some ⟨k,0+0*1+0,none⟩))) (fun W hk=>load_sl hrow1 (by kernel_rfl) 0 0 rfl hk) ?_
      refine rs [142] 60 0 ?_
      refine gC ([105,110,116,40]) (t1) (by simp;omega) ?_
      refine rs [143] 60 0 ?_
      refine gC ([105,110,116,40]++t1) ([41]) (by simp;omega) ?_
      refine rs [] 60 3 ?_
      have hv:exT (Ex.mk op ty (bn:Int) name kids)=some ([105,110,116,40]++t1++[41]):=by rw [hE,if_neg c1,if_neg c2,if_neg c3,if_neg c16,if_neg c17,if_pos c18];simp
      exact gR (.tuple #[.string (str ([105,110,116,40]++t1++[41])),.bool true]) (fun W hk=>⟨[105,110,116,40]++t1++[41],by rw [hv];rfl,(fun t ht=>by rw [hv] at ht;injection ht),(KW W hk).below⟩)
     by_cases c19:op=19
     ·
      refine rs [112] 60 3 ?_
      refine gF 110 op 16 (by omega) ?_
      refine gF 111 op 16 (by omega) ?_
      refine rs [124] 60 3 ?_
      refine gF 122 op 17 (by omega) ?_
      refine gF 123 op 17 (by omega) ?_
      refine rs [136] 60 3 ?_
      refine gF 134 op 18 (by omega) ?_
      refine gF 135 op 18 (by omega) ?_
      refine rs [149] 60 3 ?_
      refine gT 147 op 19 c19 ?_
      refine gT 148 op 19 c19 ?_
      refine rs [153] 60 1 ?_
      refine gV (.pointer (some ⟨k,0+0*1,none⟩)) (S:=Instr.indexAt 23 (.slice (some ⟨k,0,none⟩) 1 scap) (.int .i64 ((0:Nat):Int))) (fun W _=>idx_sl (e:=9) hrow1 (by kernel_rfl) (by kernel_rfl) (show 0<1 by decide) W) ?_
      refine rs [154] 60 0 ?_
      refine gV (.string (str t1)) (S:=Instr.loadAt 9 (.pointer (some ⟨k,0+0*1+0,none⟩))) (fun W hk=>load_sl hrow1 (by kernel_rfl) 0 0 rfl hk) ?_
      refine rs [155] 60 0 ?_
      refine gC ([114,101,97,108,40]) (t1) (by simp;omega) ?_
      refine rs [156] 60 0 ?_
      refine gC ([114,101,97,108,40]++t1) ([41]) (by simp;omega) ?_
      refine rs [] 60 3 ?_
      have hv:exT (Ex.mk op ty (bn:Int) name kids)=some ([114,101,97,108,40]++t1++[41]):=by rw [hE,if_neg c1,if_neg c2,if_neg c3,if_neg c16,if_neg c17,if_neg c18,if_pos c19];simp
      exact gR (.tuple #[.string (str ([114,101,97,108,40]++t1++[41])),.bool true]) (fun W hk=>⟨[114,101,97,108,40]++t1++[41],by rw [hv];rfl,(fun t ht=>by rw [hv] at ht;injection ht),(KW W hk).below⟩)
     refine rs [112] 60 3 ?_
     refine gF 110 op 16 c16 ?_
     refine gF 111 op 16 c16 ?_
     refine rs [124] 60 3 ?_
     refine gF 122 op 17 c17 ?_
     refine gF 123 op 17 c17 ?_
     refine rs [136] 60 3 ?_
     refine gF 134 op 18 c18 ?_
     refine gF 135 op 18 c18 ?_
     refine rs [149] 60 3 ?_
     refine gF 147 op 19 c19 ?_
     refine gF 148 op 19 c19 ?_
     refine rs [] 60 9 ?_
     have hv:exT (Ex.mk op ty (bn:Int) name kids)=none:=by rw [hE,if_neg c1,if_neg c2,if_neg c3,if_neg c16,if_neg c17,if_neg c18,if_neg c19]
     exact gR (.tuple #[.string (str ([])),.bool false]) (fun W hk=>⟨[],by rw [hv];rfl,(fun t ht=>by rw [hv] at ht;cases ht),(KW W hk).below⟩)
   | [t1,t2],hkl,hbs,hE,ih=>
     have hb1:=hbs t1 (by simp)
     have hb2:=hbs t2 (by simp)
     refine good_giveR 4 (gz+1) 9 1 ([t1,t2]:List (List UInt8)).length (([t1,t2]:List (List UInt8)).map fun t=>Value.string (str t)) (by kernel_rfl) (by kernel_rfl) (by simp) (fun k scap w1 B1 hk1 hB01 hB1s hrow1=>?_)
     have KW:∀ W,Keep B1 w1 W→Keep (·<w.heap.size) w W:=fun W hk=>hk1.trans (hk.mono hB01)
     refine rk ?_
     by_cases c1:op=1
     ·
      refine gK true (b:=intEq op 1) (eq_t c1) ?_
      refine rk ?_
      cases hx:litT ty (bn:Int) with
      | none=>
        refine gE [.agg #[.int .u8 ty,.int .u64 (bn:Int)]] (fun v=>∃ s,v = .tuple #[.string (str s),.bool false]∧∀ u,litT ty (bn:Int)=some u→s=u) (fun W hk=>by
         have:=rlit_any ty bn hbn W
         rw [hx] at this ⊢
         exact this.mono fun e w' ⟨s,h1,h2,h3⟩=>⟨_,h1,⟨s,rfl,h2⟩,h3⟩) ?_
        rintro v w2 ⟨s,rfl,hs⟩ hk2
        refine rs [] 60 5 ?_
        have hv:exT (Ex.mk op ty (bn:Int) name kids)=none:=by rw [hE,if_pos c1]
        exact gR (.tuple #[.string (str (s)),.bool false]) (fun W hk=>⟨s,by rw [hv];rfl,(fun t ht=>by rw [hv] at ht;cases ht),(KW W hk).below⟩)
      | some u=>
        refine gE [.agg #[.int .u8 ty,.int .u64 (bn:Int)]] (fun v=>∃ s,v = .tuple #[.string (str s),.bool true]∧∀ u,litT ty (bn:Int)=some u→s=u) (fun W hk=>by
         have:=rlit_any ty bn hbn W
         rw [hx] at this ⊢
         exact this.mono fun e w' ⟨s,h1,h2,h3⟩=>⟨_,h1,⟨s,rfl,h2⟩,h3⟩) ?_
        rintro v w2 ⟨s,rfl,hs⟩ hk2
        have hs:=hs u hx
        subst hs
        refine rs [] 60 5 ?_
        have hv:exT (Ex.mk op ty (bn:Int) name kids)=none:=by rw [hE,if_pos c1]
        exact gR (.tuple #[.string (str (s)),.bool false]) (fun W hk=>⟨s,by rw [hv];rfl,(fun t ht=>by rw [hv] at ht;cases ht),(KW W hk).below⟩)
     refine gK false (b:=intEq op 1) (eq_f c1) ?_
     refine rk ?_
     by_cases c2:op=2
     ·
      refine gK true (b:=intEq op 2) (eq_t c2) ?_
      refine rs [] 1 0 ?_
      refine good_draw sy_mixed (by kernel_rfl) ?_
      refine q_run [] 60 ?_
      refine qE ?_
      refine rs [] 60 3 ?_
      have hv:exT (Ex.mk op ty (bn:Int) name kids)=none:=by rw [hE,if_neg c1,if_pos c2]
      exact gR (.tuple #[.string (str (name)),.bool false]) (fun W hk=>⟨name,by rw [hv];rfl,(fun t ht=>by rw [hv] at ht;cases ht),(KW W hk).below⟩)
     refine gK false (b:=intEq op 2) (eq_f c2) ?_
     refine rk ?_
     by_cases c3:3≤op∧op≤15
     ·
      have hsg:Sy.bEqL (signT op) []=false:=by rw [← Bool.not_eq_true,bEq_nil];exact signT_ne c3
      refine gX [.int .u8 op] (.string (str (signT op))) (fun W hk=>rsign_any op W) ?_
      refine rs [89] 60 0 ?_
      refine gS 87 (x := .bool (!(Sy.bEqL (signT op) []))) (.bool true) (by rw [hsg];rfl) ?_
      refine gS 88 (x := .bool (!(Sy.bEqL (signT op) []))) (.bool true) (by rw [hsg];rfl) ?_
      refine rs [] 60 1 ?_
      refine good_draw sy_mixed (by kernel_rfl) ?_
      refine q_run [93] 60 ?_
      refine qV (.pointer (some ⟨k,0+0*1,none⟩)) (S:=Instr.indexAt 23 (.slice (some ⟨k,0,none⟩) 2 scap) (.int .i64 ((0:Nat):Int))) (fun W _=>idx_sl (e:=9) hrow1 (by kernel_rfl) (by kernel_rfl) (show 0<2 by decide) W) ?_
      refine q_run [94] 60 ?_
      refine qV (.string (str t1)) (S:=Instr.loadAt 9 (.pointer (some ⟨k,0+0*1+0,none⟩))) (fun W hk=>load_sl hrow1 (by kernel_rfl) 0 0 rfl hk) ?_
      refine q_run [95] 60 ?_
      have hsl2:(signT op).length≤2:=by have:=psignT_len op;unfold psignT at this;rwa [if_neg (by omega),if_neg (by omega)] at this
      refine qV (.string (str ([40]++t1))) (S:=(do eqGuard .add 9 (.const (.string (str [40]))) (.tmp 94) (.string (str ([40]))) (.string (str (t1)));binOp .add 9 (.string (str ([40]))) (.string (str (t1))))) (fun W _=>cat_str _ _ ([40]) (t1) (by simp;omega) W) ?_
      refine q_run [96] 60 ?_
      refine qV (.string (str ([40]++t1++[32]))) (S:=(do eqGuard .add 9 (.tmp 95) (.const (.string (str [32]))) (.string (str ([40]++t1))) (.string (str ([32])));binOp .add 9 (.string (str ([40]++t1))) (.string (str ([32]))))) (fun W _=>cat_str _ _ ([40]++t1) ([32]) (by simp;omega) W) ?_
      refine q_run [100] 60 ?_
      refine qB [.int .u8 op] (.string (str (signT op))) (fun W hk=>rsign_any op W) ?_
      refine q_run [100] 60 ?_
      refine qV (.string (str ([40]++t1++[32]++signT op))) (S:=(do eqGuard .add 9 (.tmp 96) (.tmp 99) (.string (str ([40]++t1++[32]))) (.string (str (signT op)));binOp .add 9 (.string (str ([40]++t1++[32]))) (.string (str (signT op))))) (fun W _=>cat_str _ _ ([40]++t1++[32]) (signT op) (by simp;omega) W) ?_
      refine q_run [101] 60 ?_
      refine qV (.string (str ([40]++t1++[32]++signT op++[32]))) (S:=(do eqGuard .add 9 (.tmp 100) (.const (.string (str [32]))) (.string (str ([40]++t1++[32]++signT op))) (.string (str ([32])));binOp .add 9 (.string (str ([40]++t1++[32]++signT op))) (.string (str ([32]))))) (fun W _=>cat_str _ _ ([40]++t1++[32]++signT op) ([32]) (by simp;omega) W) ?_
      refine q_run [103] 60 ?_
      refine qV (.pointer (some ⟨k,0+1*1,none⟩)) (S:=Instr.indexAt 23 (.slice (some ⟨k,0,none⟩) 2 scap) (.int .i64 ((1:Nat):Int))) (fun W _=>idx_sl (e:=9) hrow1 (by kernel_rfl) (by kernel_rfl) (show 1<2 by decide) W) ?_
      refine q_run [104] 60 ?_
      refine qV (.string (str t2)) (S:=Instr.loadAt 9 (.pointer (some ⟨k,0+1*1+0,none⟩))) (fun W hk=>load_sl hrow1 (by kernel_rfl) 1 0 rfl hk) ?_
      refine q_run [105] 60 ?_
      refine qV (.string (str ([40]++t1++[32]++signT op++[32]++t2))) (S:=(do eqGuard .add 9 (.tmp 101) (.tmp 104) (.string (str ([40]++t1++[32]++signT op++[32]))) (.string (str (t2)));binOp .add 9 (.string (str ([40]++t1++[32]++signT op++[32]))) (.string (str (t2))))) (fun W _=>cat_str _ _ ([40]++t1++[32]++signT op++[32]) (t2) (by simp;omega) W) ?_
      refine q_run [106] 60 ?_
      refine qV (.string (str ([40]++t1++[32]++signT op++[32]++t2++[41]))) (S:=(do eqGuard .add 9 (.tmp 105) (.const (.string (str [41]))) (.string (str ([40]++t1++[32]++signT op++[32]++t2))) (.string (str ([41])));binOp .add 9 (.string (str ([40]++t1++[32]++signT op++[32]++t2))) (.string (str ([41]))))) (fun W _=>cat_str _ _ ([40]++t1++[32]++signT op++[32]++t2) ([41]) (by simp;omega) W) ?_
      refine q_run [] 60 ?_
      refine qE ?_
      refine rs [] 60 3 ?_
      have hv:exT (Ex.mk op ty (bn:Int) name kids)=some ([40]++t1++[32]++signT op++[32]++t2++[41]):=by rw [hE,if_neg c1,if_neg c2,if_pos c3];simp
      exact gR (.tuple #[.string (str ([40]++t1++[32]++signT op++[32]++t2++[41])),.bool true]) (fun W hk=>⟨[40]++t1++[32]++signT op++[32]++t2++[41],by rw [hv];rfl,(fun t ht=>by rw [hv] at ht;injection ht),(KW W hk).below⟩)
     refine gX [.int .u8 op] (.string (str [])) (fun W hk=>by have:=rsign_any op W;rw [signT_nil c1 c2 c3] at this;exact this) ?_
     by_cases c16:op=16
     ·
      refine rs [112] 60 3 ?_
      refine gT 110 op 16 c16 ?_
      refine gT 111 op 16 c16 ?_
      refine rs [124] 60 3 ?_
      refine gF 122 op 17 (by omega) ?_
      refine gF 123 op 17 (by omega) ?_
      refine rs [136] 60 3 ?_
      refine gF 134 op 18 (by omega) ?_
      refine gF 135 op 18 (by omega) ?_
      refine rs [149] 60 3 ?_
      refine gF 147 op 19 (by omega) ?_
      refine gF 148 op 19 (by omega) ?_
      refine rs [] 60 9 ?_
      have hv:exT (Ex.mk op ty (bn:Int) name kids)=none:=by rw [hE,if_neg c1,if_neg c2,if_neg c3,if_pos c16]
      exact gR (.tuple #[.string (str ([])),.bool false]) (fun W hk=>⟨[],by rw [hv];rfl,(fun t ht=>by rw [hv] at ht;cases ht),(KW W hk).below⟩)
     by_cases c17:op=17
     ·
      refine rs [112] 60 3 ?_
      refine gF 110 op 16 (by omega) ?_
      refine gF 111 op 16 (by omega) ?_
      refine rs [124] 60 3 ?_
      refine gT 122 op 17 c17 ?_
      refine gT 123 op 17 c17 ?_
      refine rs [136] 60 3 ?_
      refine gF 134 op 18 (by omega) ?_
      refine gF 135 op 18 (by omega) ?_
      refine rs [149] 60 3 ?_
      refine gF 147 op 19 (by omega) ?_
      refine gF 148 op 19 (by omega) ?_
      refine rs [] 60 9 ?_
      have hv:exT (Ex.mk op ty (bn:Int) name kids)=none:=by rw [hE,if_neg c1,if_neg c2,if_neg c3,if_neg c16,if_pos c17]
      exact gR (.tuple #[.string (str ([])),.bool false]) (fun W hk=>⟨[],by rw [hv];rfl,(fun t ht=>by rw [hv] at ht;cases ht),(KW W hk).below⟩)
     by_cases c18:op=18
     ·
      refine rs [112] 60 3 ?_
      refine gF 110 op 16 (by omega) ?_
      refine gF 111 op 16 (by omega) ?_
      refine rs [124] 60 3 ?_
      refine gF 122 op 17 (by omega) ?_
      refine gF 123 op 17 (by omega) ?_
      refine rs [136] 60 3 ?_
      refine gT 134 op 18 c18 ?_
      refine gT 135 op 18 c18 ?_
      refine rs [149] 60 3 ?_
      refine gF 147 op 19 (by omega) ?_
      refine gF 148 op 19 (by omega) ?_
      refine rs [] 60 9 ?_
      have hv:exT (Ex.mk op ty (bn:Int) name kids)=none:=by rw [hE,if_neg c1,if_neg c2,if_neg c3,if_neg c16,if_neg c17,if_pos c18]
      exact gR (.tuple #[.string (str ([])),.bool false]) (fun W hk=>⟨[],by rw [hv];rfl,(fun t ht=>by rw [hv] at ht;cases ht),(KW W hk).below⟩)
     by_cases c19:op=19
     ·
      refine rs [112] 60 3 ?_
      refine gF 110 op 16 (by omega) ?_
      refine gF 111 op 16 (by omega) ?_
      refine rs [124] 60 3 ?_
      refine gF 122 op 17 (by omega) ?_
      refine gF 123 op 17 (by omega) ?_
      refine rs [136] 60 3 ?_
      refine gF 134 op 18 (by omega) ?_
      refine gF 135 op 18 (by omega) ?_
      refine rs [149] 60 3 ?_
      refine gT 147 op 19 c19 ?_
      refine gT 148 op 19 c19 ?_
      refine rs [] 60 9 ?_
      have hv:exT (Ex.mk op ty (bn:Int) name kids)=none:=by rw [hE,if_neg c1,if_neg c2,if_neg c3,if_neg c16,if_neg c17,if_neg c18,if_pos c19]
      exact gR (.tuple #[.string (str ([])),.bool false]) (fun W hk=>⟨[],by rw [hv];rfl,(fun t ht=>by rw [hv] at ht;cases ht),(KW W hk).below⟩)
     refine rs [112] 60 3 ?_
     refine gF 110 op 16 c16 ?_
     refine gF 111 op 16 c16 ?_
     refine rs [124] 60 3 ?_
     refine gF 122 op 17 c17 ?_
     refine gF 123 op 17 c17 ?_
     refine rs [136] 60 3 ?_
     refine gF 134 op 18 c18 ?_
     refine gF 135 op 18 c18 ?_
     refine rs [149] 60 3 ?_
     refine gF 147 op 19 c19 ?_
     refine gF 148 op 19 c19 ?_
     refine rs [] 60 9 ?_
     have hv:exT (Ex.mk op ty (bn:Int) name kids)=none:=by rw [hE,if_neg c1,if_neg c2,if_neg c3,if_neg c16,if_neg c17,if_neg c18,if_neg c19]
     exact gR (.tuple #[.string (str ([])),.bool false]) (fun W hk=>⟨[],by rw [hv];rfl,(fun t ht=>by rw [hv] at ht;cases ht),(KW W hk).below⟩)
   | t1::t2::t3::r,hkl,hbs,hE,ih=>
     have hb1:=hbs t1 (by simp)
     have hb2:=hbs t2 (by simp)
     refine good_giveR 4 (gz+1) 9 1 ((t1::t2::t3::r):List (List UInt8)).length (((t1::t2::t3::r):List (List UInt8)).map fun t=>Value.string (str t)) (by kernel_rfl) (by kernel_rfl) (by simp) (fun k scap w1 B1 hk1 hB01 hB1s hrow1=>?_)
     have KW:∀ W,Keep B1 w1 W→Keep (·<w.heap.size) w W:=fun W hk=>hk1.trans (hk.mono hB01)
     refine rk ?_
     by_cases c1:op=1
     ·
      refine gK true (b:=intEq op 1) (eq_t c1) ?_
      refine rk ?_
      cases hx:litT ty (bn:Int) with
      | none=>
        refine gE [.agg #[.int .u8 ty,.int .u64 (bn:Int)]] (fun v=>∃ s,v = .tuple #[.string (str s),.bool false]∧∀ u,litT ty (bn:Int)=some u→s=u) (fun W hk=>by
         have:=rlit_any ty bn hbn W
         rw [hx] at this ⊢
         exact this.mono fun e w' ⟨s,h1,h2,h3⟩=>⟨_,h1,⟨s,rfl,h2⟩,h3⟩) ?_
        rintro v w2 ⟨s,rfl,hs⟩ hk2
        refine rs [] 60 5 ?_
        have hv:exT (Ex.mk op ty (bn:Int) name kids)=none:=by rw [hE,if_pos c1]
        exact gR (.tuple #[.string (str (s)),.bool false]) (fun W hk=>⟨s,by rw [hv];rfl,(fun t ht=>by rw [hv] at ht;cases ht),(KW W hk).below⟩)
      | some u=>
        refine gE [.agg #[.int .u8 ty,.int .u64 (bn:Int)]] (fun v=>∃ s,v = .tuple #[.string (str s),.bool true]∧∀ u,litT ty (bn:Int)=some u→s=u) (fun W hk=>by
         have:=rlit_any ty bn hbn W
         rw [hx] at this ⊢
         exact this.mono fun e w' ⟨s,h1,h2,h3⟩=>⟨_,h1,⟨s,rfl,h2⟩,h3⟩) ?_
        rintro v w2 ⟨s,rfl,hs⟩ hk2
        have hs:=hs u hx
        subst hs
        refine rs [] 60 5 ?_
        have hv:exT (Ex.mk op ty (bn:Int) name kids)=none:=by rw [hE,if_pos c1]
        exact gR (.tuple #[.string (str (s)),.bool false]) (fun W hk=>⟨s,by rw [hv];rfl,(fun t ht=>by rw [hv] at ht;cases ht),(KW W hk).below⟩)
     refine gK false (b:=intEq op 1) (eq_f c1) ?_
     refine rk ?_
     by_cases c2:op=2
     ·
      refine gK true (b:=intEq op 2) (eq_t c2) ?_
      refine rs [] 1 0 ?_
      refine good_draw sy_mixed (by kernel_rfl) ?_
      refine q_run [] 60 ?_
      refine qE ?_
      refine rs [] 60 3 ?_
      have hv:exT (Ex.mk op ty (bn:Int) name kids)=none:=by rw [hE,if_neg c1,if_pos c2]
      exact gR (.tuple #[.string (str (name)),.bool false]) (fun W hk=>⟨name,by rw [hv];rfl,(fun t ht=>by rw [hv] at ht;cases ht),(KW W hk).below⟩)
     refine gK false (b:=intEq op 2) (eq_f c2) ?_
     refine rk ?_
     by_cases c3:3≤op∧op≤15
     ·
      have hsg:Sy.bEqL (signT op) []=false:=by rw [← Bool.not_eq_true,bEq_nil];exact signT_ne c3
      refine gX [.int .u8 op] (.string (str (signT op))) (fun W hk=>rsign_any op W) ?_
      refine rs [89] 60 0 ?_
      refine gS 87 (x := .bool (!(Sy.bEqL (signT op) []))) (.bool true) (by rw [hsg];rfl) ?_
      refine gS 88 (x := .bool (!(Sy.bEqL (signT op) []))) (.bool true) (by rw [hsg];rfl) ?_
      refine rs [112] 60 3 ?_
      refine gF 110 op 16 (by omega) ?_
      refine gF 111 op 16 (by omega) ?_
      refine rs [124] 60 3 ?_
      refine gF 122 op 17 (by omega) ?_
      refine gF 123 op 17 (by omega) ?_
      refine rs [136] 60 3 ?_
      refine gF 134 op 18 (by omega) ?_
      refine gF 135 op 18 (by omega) ?_
      refine rs [149] 60 3 ?_
      refine gF 147 op 19 (by omega) ?_
      refine gF 148 op 19 (by omega) ?_
      refine rs [] 60 9 ?_
      have hv:exT (Ex.mk op ty (bn:Int) name kids)=none:=by rw [hE,if_neg c1,if_neg c2,if_pos c3]
      exact gR (.tuple #[.string (str ([])),.bool false]) (fun W hk=>⟨[],by rw [hv];rfl,(fun t ht=>by rw [hv] at ht;cases ht),(KW W hk).below⟩)
     refine gX [.int .u8 op] (.string (str [])) (fun W hk=>by have:=rsign_any op W;rw [signT_nil c1 c2 c3] at this;exact this) ?_
     by_cases c16:op=16
     ·
      refine rs [112] 60 3 ?_
      refine gT 110 op 16 c16 ?_
      refine gT 111 op 16 c16 ?_
      refine rs [124] 60 3 ?_
      refine gF 122 op 17 (by omega) ?_
      refine gF 123 op 17 (by omega) ?_
      refine rs [136] 60 3 ?_
      refine gF 134 op 18 (by omega) ?_
      refine gF 135 op 18 (by omega) ?_
      refine rs [149] 60 3 ?_
      refine gF 147 op 19 (by omega) ?_
      refine gF 148 op 19 (by omega) ?_
      refine rs [] 60 9 ?_
      have hv:exT (Ex.mk op ty (bn:Int) name kids)=none:=by rw [hE,if_neg c1,if_neg c2,if_neg c3,if_pos c16]
      exact gR (.tuple #[.string (str ([])),.bool false]) (fun W hk=>⟨[],by rw [hv];rfl,(fun t ht=>by rw [hv] at ht;cases ht),(KW W hk).below⟩)
     by_cases c17:op=17
     ·
      refine rs [112] 60 3 ?_
      refine gF 110 op 16 (by omega) ?_
      refine gF 111 op 16 (by omega) ?_
      refine rs [124] 60 3 ?_
      refine gT 122 op 17 c17 ?_
      refine gT 123 op 17 c17 ?_
      refine rs [136] 60 3 ?_
      refine gF 134 op 18 (by omega) ?_
      refine gF 135 op 18 (by omega) ?_
      refine rs [149] 60 3 ?_
      refine gF 147 op 19 (by omega) ?_
      refine gF 148 op 19 (by omega) ?_
      refine rs [] 60 9 ?_
      have hv:exT (Ex.mk op ty (bn:Int) name kids)=none:=by rw [hE,if_neg c1,if_neg c2,if_neg c3,if_neg c16,if_pos c17]
      exact gR (.tuple #[.string (str ([])),.bool false]) (fun W hk=>⟨[],by rw [hv];rfl,(fun t ht=>by rw [hv] at ht;cases ht),(KW W hk).below⟩)
     by_cases c18:op=18
     ·
      refine rs [112] 60 3 ?_
      refine gF 110 op 16 (by omega) ?_
      refine gF 111 op 16 (by omega) ?_
      refine rs [124] 60 3 ?_
      refine gF 122 op 17 (by omega) ?_
      refine gF 123 op 17 (by omega) ?_
      refine rs [136] 60 3 ?_
      refine gT 134 op 18 c18 ?_
      refine gT 135 op 18 c18 ?_
      refine rs [149] 60 3 ?_
      refine gF 147 op 19 (by omega) ?_
      refine gF 148 op 19 (by omega) ?_
      refine rs [] 60 9 ?_
      have hv:exT (Ex.mk op ty (bn:Int) name kids)=none:=by rw [hE,if_neg c1,if_neg c2,if_neg c3,if_neg c16,if_neg c17,if_pos c18]
      exact gR (.tuple #[.string (str ([])),.bool false]) (fun W hk=>⟨[],by rw [hv];rfl,(fun t ht=>by rw [hv] at ht;cases ht),(KW W hk).below⟩)
     by_cases c19:op=19
     ·
      refine rs [112] 60 3 ?_
      refine gF 110 op 16 (by omega) ?_
      refine gF 111 op 16 (by omega) ?_
      refine rs [124] 60 3 ?_
      refine gF 122 op 17 (by omega) ?_
      refine gF 123 op 17 (by omega) ?_
      refine rs [136] 60 3 ?_
      refine gF 134 op 18 (by omega) ?_
      refine gF 135 op 18 (by omega) ?_
      refine rs [149] 60 3 ?_
      refine gT 147 op 19 c19 ?_
      refine gT 148 op 19 c19 ?_
      refine rs [] 60 9 ?_
      have hv:exT (Ex.mk op ty (bn:Int) name kids)=none:=by rw [hE,if_neg c1,if_neg c2,if_neg c3,if_neg c16,if_neg c17,if_neg c18,if_pos c19]
      exact gR (.tuple #[.string (str ([])),.bool false]) (fun W hk=>⟨[],by rw [hv];rfl,(fun t ht=>by rw [hv] at ht;cases ht),(KW W hk).below⟩)
     refine rs [112] 60 3 ?_
     refine gF 110 op 16 c16 ?_
     refine gF 111 op 16 c16 ?_
     refine rs [124] 60 3 ?_
     refine gF 122 op 17 c17 ?_
     refine gF 123 op 17 c17 ?_
     refine rs [136] 60 3 ?_
     refine gF 134 op 18 c18 ?_
     refine gF 135 op 18 c18 ?_
     refine rs [149] 60 3 ?_
     refine gF 147 op 19 c19 ?_
     refine gF 148 op 19 c19 ?_
     refine rs [] 60 9 ?_
     have hv:exT (Ex.mk op ty (bn:Int) name kids)=none:=by rw [hE,if_neg c1,if_neg c2,if_neg c3,if_neg c16,if_neg c17,if_neg c18,if_neg c19]
     exact gR (.tuple #[.string (str ([])),.bool false]) (fun W hk=>⟨[],by rw [hv];rfl,(fun t ht=>by rw [hv] at ht;cases ht),(KW W hk).below⟩)
 | cons x l3=>
   have hin:l1.length<n:=by rw [hn2,List.length_cons];omega
   have hks2:=hks
   rw [hI] at hks2
   obtain ⟨c,hc,hcell⟩:=hks2.at_
   have hcl:=hc.len
   have hw1:wgts kids=wgts l1+wgts (x::l3):=by rw [hI,wgts_app]
   simp only [wgts] at hw1
   have hxR:exR x:=exRs_mem.1 hkR x (by rw [hI];simp)
   refine gK true (b:=intLt (l1.length:Int) (n:Int)) (lt_t (by omega)) ?_
   refine rk ?_
   refine gV (.pointer (some ⟨gB a,oB a+l1.length*5,none⟩)) (S:=Instr.indexAt 32 (.slice a n cap) (.int .i64 (l1.length:Int))) (fun W _=>idx_sl (e:=34) hsl (by kernel_rfl) (by kernel_rfl) hin W) ?_
   refine rk ?_
   have hld:=fun W hk=>load_slA (P:=Tryz.prog) (ty:=34) (m:=5) (cs:=c) hsl (by kernel_rfl) (by kernel_rfl) l1.length 0 hcl hcell (W:=W) hk
   have hcall:=fun W hk=>ihN x c W (by omega) (by rw [hI] at hB;simp only [exBs_app,exBs] at hB;omega) hxR (hc.keep hk (fun k h=>Nat.lt_of_lt_of_le h (Keep.size hk)))
   obtain ⟨op2,ty2,bits2,name2,kids2⟩:=x
   simp only [ExAt] at hc
   obtain ⟨a2,cap2,xs2,rfl,_⟩:=hc
   refine gV (.agg #[.int .u8 op2,.int .u8 ty2,.int .u64 bits2,.string (str name2),.slice a2 kids2.length cap2]) (S:=Instr.loadAt 34 (.pointer (some ⟨gB a,oB a+l1.length*5+0,none⟩))) (fun W hk=>hld W hk) ?_
   refine rk ?_
   cases hx:exT (Ex.mk op2 ty2 bits2 name2 kids2) with
   | none=>
     refine gE [.agg #[.int .u8 op2,.int .u8 ty2,.int .u64 bits2,.string (str name2),.slice a2 kids2.length cap2]] (fun v=>∃ s,v = .tuple #[.string (str s),.bool false]∧∀ u,exT (Ex.mk op2 ty2 bits2 name2 kids2)=some u→s=u) (fun W hk=>by
      have:=hcall W hk
      rw [hx] at this ⊢
      exact this.mono fun e w' ⟨s,h1,h2,h3⟩=>⟨_,h1,⟨s,rfl,h2⟩,h3⟩) ?_
     rintro v w2 ⟨s,rfl,hs⟩ hk2
     refine rs [] 60 3 ?_
     have hno:exT (Ex.mk op ty (bn:Int) name kids)=none:=exT_kid (by rw [hI,exTs_app,hks1];simp only [exTs,hx])
     refine gR (.tuple #[.string (str []),.bool false]) (fun W hk=>⟨[],by rw [hno];rfl,(fun t ht=>by rw [hno] at ht;cases ht),hk.below⟩)
   | some u=>
     refine gE [.agg #[.int .u8 op2,.int .u8 ty2,.int .u64 bits2,.string (str name2),.slice a2 kids2.length cap2]] (fun v=>∃ s,v = .tuple #[.string (str s),.bool true]∧∀ u,exT (Ex.mk op2 ty2 bits2 name2 kids2)=some u→s=u) (fun W hk=>by
      have:=hcall W hk
      rw [hx] at this ⊢
      exact this.mono fun e w' ⟨s,h1,h2,h3⟩=>⟨_,h1,⟨s,rfl,h2⟩,h3⟩) ?_
     rintro v w2 ⟨s,rfl,hs⟩ hk2
     have hs:=hs u hx
     subst hs
     refine rs [51] 60 1 ?_
     refine good_app (t:=23) (e:=9) (.slg (gz+2) 0 1 1) 1 16 (gz+1) l1.length 0 xk X ob [.string (str s)] [4,48] (by kernel_rfl) (by kernel_rfl) (by kernel_rfl) (by kernel_rfl) hrow (by kernel_rfl) (by kernel_rfl) (by kernel_rfl)
      (by unfold maxLen;omega) (by omega) (hγ0 (gz+1) (Nat.le_succ _)) (by kernel_rfl) (by kernel_rfl) (by kernel_rfl) (by kernel_rfl) (by kernel_rfl) (fun X' ob' hrow'=>?_)
     rcases hrow'.2 with ⟨_,_,h0⟩ | ⟨rfl,rfl⟩
     · omega
     refine rk ?_
     refine gS 5 (x := .int .i64 (wrapF .i64 ((l1.length:Int)+1))) (.int .i64 ((l1++[(Ex.mk op2 ty2 bits2 name2 kids2)]).length:Nat)) (by rw [wr64 (by omega) (by omega)];congr 1;simp) ?_
     exact gU _ [(1,.ptr gz 0),(4,.slg (gz+1) 0 (l1.length+(0+1)) 1),(5,.v (.int .i64 ((l1++[(Ex.mk op2 ty2 bits2 name2 kids2)]).length:Int)))] [(gz,some (.cells 34 true true true 5 (putL .leaf 0 [.v (.int .u8 op),.v (.int .u8 ty),.v (.int .u64 (bn:Int)),.v (.string (str name)),.v (.slice a n cap)]))),(gz+1,some (.row 9 (xk++[.string (str s)])))] (gz+2) (fun b hb=>hγ0 b (Nat.le_trans (Nat.le_add_right _ _) hb)) (ih ⟨l1++[(Ex.mk op2 ty2 bits2 name2 kids2)],l3,xk++[.string (str s)],.slg (gz+1) 0 (l1.length+(0+1)) 1,some (.row 9 (xk++[.string (str s)]))⟩ ⟨by show kids=(l1++[_])++l3;rw [hI];simp,⟨ks++[s],by rw [exTs_app,hks1];simp only [exTs,hx],by rw [hxk];simp⟩,by show RowAt _ 1 (gz+1) (l1++[_]).length _ _ _;rw [List.length_append];exact hrow'⟩ (by show l3.length<(_::l3).length;simp))
end Go.Proofs.YtiacalnkmnckjaaGreatDoor
end
section
namespace Go.Proofs.YtiacalnkmnckjaaGreatDoor
open Go.RowKit Go.As
open Go.Sy in
set_option maxRecDepth 100000 in
theorem rexpr_front (N:Nat) (ihN:RexC N) (op ty:Int) (bn:Nat) (name:List UInt8) (kids:List Ex) (a:Option Addr) (n cap:Nat) (xs:List Value) (w:World) (hn:n=kids.length) (hN:wgts kids+1≤N+1) (hB:name.length+5+exBs kids≤1000000000000) (hbn:bn<18446744073709551616) (hkR:exRs kids) (hsl:SlAt (·<w.heap.size) w a n 5 xs) (hks:ExsAt (·<w.heap.size) w kids xs):
  Calls Tryz.prog 61 #[.agg #[.int .u8 op,.int .u8 ty,.int .u64 (bn:Int),.string (str name),.slice a n cap]] w (fun v w'=>∃ s,v=Ending.returned (.tuple #[.string (str s),.bool (exT (Ex.mk op ty (bn:Int) name kids)).isSome])∧(∀ t,exT (Ex.mk op ty (bn:Int) name kids)=some t→s=t)∧Below w.heap.size w w'):=by
 refine Sy.enter (vs:=[.agg #[.int .u8 op,.int .u8 ty,.int .u64 (bn:Int),.string (str name),.slice a n cap]]) sy_fine Tryz.func61 rfl (fun γ=>norms_LR _) rfl (fun γ0 hγ0=>?_)
 have tail:=rexpr_tail N ihN op ty bn name kids a n cap xs w hn hN hB hbn hkR hsl hks γ0 hγ0
 refine rs [15] 60 0 ?_
 by_cases c1:op=1
 ·
  refine gS 13 (x := .bool (!(intEq op 1))) (.bool false) (by rw [eq_t c1];rfl) ?_
  refine gS 14 (x := .bool (!(intEq op 1))) (.bool false) (by rw [eq_t c1];rfl) ?_
  refine rs [25] 60 0 ?_
  have c2:op≠2:=by omega
  have hz1:¬ (op≠1∧¬ (ty=0∧(bn:Int)=0)):=fun h=>h.1 c1
  refine gS 23 (x := .bool (!(intEq op 2))) (.bool true) (by rw [eq_f c2];rfl) ?_
  refine gS 24 (x := .bool (!(intEq op 2))) (.bool true) (by rw [eq_f c2];rfl) ?_
  refine rk ?_
  by_cases hnm:name=[]
  ·
   have hb:Sy.bEqL name []=true:=(bEq_nil name).2 hnm
   have hz:¬ ((op≠1∧¬ (ty=0∧(bn:Int)=0))∨(op≠2∧name≠[])):=by rintro (h | h);exact hz1 h;exact h.2 hnm
   refine gK false (b:=(!(Sy.bEqL name []))) (by rw [hb];rfl) ?_
   refine rs [] 1 0 ?_
   exact gU [.code (seqR (seqR (Tryz.f61.body.getD .skip)))] [(1,.ptr gz 0)] [(gz,some (.cells 34 true true true 5 (putL .leaf 0 [.v (.int .u8 op),.v (.int .u8 ty),.v (.int .u64 (bn:Int)),.v (.string (str name)),.v (.slice a n cap)])))] (gz+1) (fun b hb=>hγ0 b (Nat.le_trans (Nat.le_add_right _ _) hb)) (tail hz)
  have hb:Sy.bEqL name []=false:=by rw [← Bool.not_eq_true,bEq_nil];exact hnm
  refine gK true (b:=(!(Sy.bEqL name []))) (by rw [hb];rfl) ?_
  refine rk ?_
  have hno:=exT_no (op:=op) (ty:=ty) (bits:=(bn:Int)) (name:=name) (kids:=kids) (.inr ⟨c2,hnm⟩)
  refine gR (.tuple #[.string (str []),.bool false]) (fun W hk=>⟨[],by rw [hno];rfl,(fun t ht=>by rw [hno] at ht;cases ht),hk.below⟩)
 refine gS 13 (x := .bool (!(intEq op 1))) (.bool true) (by rw [eq_f c1];rfl) ?_
 refine gS 14 (x := .bool (!(intEq op 1))) (.bool true) (by rw [eq_f c1];rfl) ?_
 refine rs [18] 60 0 ?_
 refine gV (.bool (!(vEq ty bn 0 0))) (S:=(do eqGuard .neq 31 (.tmp 16) (.tmp 17) (.agg #[.int .u8 ty,.int .u64 (bn:Int)]) (.agg #[.int .u8 0,.int .u64 0]);binOp .neq 31 (.agg #[.int .u8 ty,.int .u64 (bn:Int)]) (.agg #[.int .u8 0,.int .u64 0]))) (fun W _=>run_neq_value _ _ _ _ _ _ W) ?_
 refine rs [19] 60 0 ?_
 rcases Bool.eq_false_or_eq_true (vEq ty bn 0 0) with hv | hv
 rotate_left
 ·
  refine gS 18 (x := .bool (!(vEq ty bn 0 0))) (.bool true) (by rw [hv];rfl) ?_
  refine rk ?_
  refine gK true (b:=true) (rfl) ?_
  refine rk ?_
  have hz1:¬ (ty=0∧(bn:Int)=0):=fun h=>by rw [(vEq_zero ty bn).2 h] at hv;cases hv
  have hno:=exT_no (op:=op) (ty:=ty) (bits:=(bn:Int)) (name:=name) (kids:=kids) (.inl ⟨c1,hz1⟩)
  refine gR (.tuple #[.string (str []),.bool false]) (fun W hk=>⟨[],by rw [hno];rfl,(fun t ht=>by rw [hno] at ht;cases ht),hk.below⟩)
 have hz1:¬ (op≠1∧¬ (ty=0∧(bn:Int)=0)):=fun h=>h.2 ((vEq_zero ty bn).1 hv)
 refine gS 18 (x := .bool (!(vEq ty bn 0 0))) (.bool false) (by rw [hv];rfl) ?_
 refine rs [25] 60 0 ?_
 by_cases c2:op=2
 ·
  refine gS 23 (x := .bool (!(intEq op 2))) (.bool false) (by rw [eq_t c2];rfl) ?_
  refine gS 24 (x := .bool (!(intEq op 2))) (.bool false) (by rw [eq_t c2];rfl) ?_
  refine rk ?_
  have hz:¬ ((op≠1∧¬ (ty=0∧(bn:Int)=0))∨(op≠2∧name≠[])):=by rintro (h | h);exact hz1 h;exact h.1 c2
  refine gK false (b:=false) (rfl) ?_
  refine rs [] 1 0 ?_
  exact gU [.code (seqR (seqR (Tryz.f61.body.getD .skip)))] [(1,.ptr gz 0)] [(gz,some (.cells 34 true true true 5 (putL .leaf 0 [.v (.int .u8 op),.v (.int .u8 ty),.v (.int .u64 (bn:Int)),.v (.string (str name)),.v (.slice a n cap)])))] (gz+1) (fun b hb=>hγ0 b (Nat.le_trans (Nat.le_add_right _ _) hb)) (tail hz)
 refine gS 23 (x := .bool (!(intEq op 2))) (.bool true) (by rw [eq_f c2];rfl) ?_
 refine gS 24 (x := .bool (!(intEq op 2))) (.bool true) (by rw [eq_f c2];rfl) ?_
 refine rk ?_
 by_cases hnm:name=[]
 ·
  have hb:Sy.bEqL name []=true:=(bEq_nil name).2 hnm
  have hz:¬ ((op≠1∧¬ (ty=0∧(bn:Int)=0))∨(op≠2∧name≠[])):=by rintro (h | h);exact hz1 h;exact h.2 hnm
  refine gK false (b:=(!(Sy.bEqL name []))) (by rw [hb];rfl) ?_
  refine rs [] 1 0 ?_
  exact gU [.code (seqR (seqR (Tryz.f61.body.getD .skip)))] [(1,.ptr gz 0)] [(gz,some (.cells 34 true true true 5 (putL .leaf 0 [.v (.int .u8 op),.v (.int .u8 ty),.v (.int .u64 (bn:Int)),.v (.string (str name)),.v (.slice a n cap)])))] (gz+1) (fun b hb=>hγ0 b (Nat.le_trans (Nat.le_add_right _ _) hb)) (tail hz)
 have hb:Sy.bEqL name []=false:=by rw [← Bool.not_eq_true,bEq_nil];exact hnm
 refine gK true (b:=(!(Sy.bEqL name []))) (by rw [hb];rfl) ?_
 refine rk ?_
 have hno:=exT_no (op:=op) (ty:=ty) (bits:=(bn:Int)) (name:=name) (kids:=kids) (.inr ⟨c2,hnm⟩)
 refine gR (.tuple #[.string (str []),.bool false]) (fun W hk=>⟨[],by rw [hno];rfl,(fun t ht=>by rw [hno] at ht;cases ht),hk.below⟩)
theorem rexprC:∀ N,RexC N:=by
 intro N
 induction N with
 | zero=>intro e cs w h;have:=wgt_pos e;omega
 | succ N ihN=>
   intro e cs w hN hB hR hat
   obtain ⟨op,ty,bits,name,kids⟩:=e
   simp only [ExAt] at hat
   obtain ⟨a,cap,xs,rfl,hsl,hks⟩:=hat
   simp only [exR] at hR
   obtain ⟨hop,hty,hbit,hkR⟩:=hR
   obtain ⟨bn,rfl⟩:∃ bn:Nat,bits=(bn:Int):=⟨bits.toNat,by omega⟩
   simp only [wgt] at hN
   simp only [exB] at hB
   exact rexpr_front N ihN op ty bn name kids a kids.length cap xs w rfl hN hB (by omega) hkR hsl hks
end Go.Proofs.YtiacalnkmnckjaaGreatDoor
end
section
namespace Go.Proofs.YtiacalnkmnckjaaGreatDoor
open Go.RowKit Go.As
open Go.Sy in
set_option maxRecDepth 100000 in
theorem rExpr_any (e:Ex) (cs:List Value) (w:World) (hbd:wgt e≤1099511627776) (hB:exB e≤1000000000000) (hR:exR e) (hat:ExAt (·<w.heap.size) w e cs):
  Calls Tryz.prog 19 #[.agg cs.toArray] w fun v w'=>v = .returned (.tuple #[.string (str (exprS e)),.int .i64 (exprE e)])∧Below w.heap.size w w':=by
 obtain ⟨op,ty,bits,name,kids⟩:=e
 have hat0:=hat
 simp only [ExAt] at hat0
 obtain ⟨a,cap,xs,rfl,_,_⟩:=hat0
 refine Sy.enter (vs:=[.agg #[.int .u8 op,.int .u8 ty,.int .u64 bits,.string (str name),.slice a kids.length cap]]) sy_fine Tryz.func19 rfl (fun γ=>norms_LR _) rfl (fun γ0 hγ0=>?_)
 refine rk ?_
 refine gX [.agg #[.int .u8 op,.int .u8 ty,.int .u64 bits,.string (str name),.slice a kids.length cap]] (.int .i64 (hgt (Ex.mk op ty bits name kids):Nat)) (fun W hk=>kheight_any _ (Ex.mk op ty bits name kids) [.int .u8 op,.int .u8 ty,.int .u64 bits,.string (str name),.slice a kids.length cap] W (Nat.le_refl _) hbd (hat.keep hk (fun k h=>Nat.lt_of_lt_of_le h hk.size))) ?_
 refine rk ?_
 by_cases hh:32<hgt (Ex.mk op ty bits name kids)
 ·
  refine gK true (b:=intLt 32 ((hgt (Ex.mk op ty bits name kids):Nat):Int)) (lt_t (by omega)) ?_
  refine rs [] 60 1 ?_
  have hv:ex32 (Ex.mk op ty bits name kids)=none:=by unfold ex32;rw [if_neg (by omega)]
  exact gR (.tuple #[.string (str []),.int .i64 2]) (fun W hk=>⟨by unfold exprS exprE;rw [hv],hk.below⟩)
 refine gK false (b:=intLt 32 ((hgt (Ex.mk op ty bits name kids):Nat):Int)) (lt_f (by omega)) ?_
 refine rk ?_
 have he:ex32 (Ex.mk op ty bits name kids)=exT (Ex.mk op ty bits name kids):=by unfold ex32;rw [if_pos (by omega)]
 cases hx:exT (Ex.mk op ty bits name kids) with
 | none=>
   refine gE [.agg #[.int .u8 op,.int .u8 ty,.int .u64 bits,.string (str name),.slice a kids.length cap]] (fun v=>∃ s,v = .tuple #[.string (str s),.bool false]∧∀ u,exT (Ex.mk op ty bits name kids)=some u→s=u) (fun W hk=>by
    have:=rexprC _ (Ex.mk op ty bits name kids) [.int .u8 op,.int .u8 ty,.int .u64 bits,.string (str name),.slice a kids.length cap] W (Nat.le_refl _) hB hR (hat.keep hk (fun k h=>Nat.lt_of_lt_of_le h hk.size))
    rw [hx] at this ⊢
    exact this.mono fun e w' ⟨s,h1,h2,h3⟩=>⟨_,h1,⟨s,rfl,h2⟩,h3⟩) ?_
   rintro v w2 ⟨s,rfl,hs⟩ hk2
   rw [hx] at he
   refine rs [] 60 5 ?_
   exact gR (.tuple #[.string (str []),.int .i64 2]) (fun W hk=>⟨by unfold exprS exprE;rw [he],hk.below⟩)
 | some u=>
   refine gE [.agg #[.int .u8 op,.int .u8 ty,.int .u64 bits,.string (str name),.slice a kids.length cap]] (fun v=>∃ s,v = .tuple #[.string (str s),.bool true]∧∀ u,exT (Ex.mk op ty bits name kids)=some u→s=u) (fun W hk=>by
    have:=rexprC _ (Ex.mk op ty bits name kids) [.int .u8 op,.int .u8 ty,.int .u64 bits,.string (str name),.slice a kids.length cap] W (Nat.le_refl _) hB hR (hat.keep hk (fun k h=>Nat.lt_of_lt_of_le h hk.size))
    rw [hx] at this ⊢
    exact this.mono fun e w' ⟨s,h1,h2,h3⟩=>⟨_,h1,⟨s,rfl,h2⟩,h3⟩) ?_
   rintro v w2 ⟨s,rfl,hs⟩ hk2
   rw [hx] at he
   have hs:=hs u hx
   subst hs
   refine rs [] 60 5 ?_
   exact gR (.tuple #[.string (str s),.int .i64 0]) (fun W hk=>⟨by unfold exprS exprE;rw [he],hk.below⟩)
end Go.Proofs.YtiacalnkmnckjaaGreatDoor
end
section
namespace Go.Proofs.YtiacalnkmnckjaaGreatDoor
open Go.RowKit Go.As
theorem rValue_any (ty:Int) (n:Nat) (hn:n<18446744073709551616) (w:World):
  Calls Tryz.prog 21 #[.agg #[.int .u8 ty,.int .u64 (n:Int)]] w fun e w'=>e = .returned (.tuple #[.string (str (valueS ty n)),.int .i64 (valueE ty n)])∧Below w.heap.size w w':=by
 by_cases c1:ty=1
 · subst c1
   by_cases hz:9223372036854775808<n
   · exact rValue_neg n hn hz w
   · exact rValue_one n hn hz w
 by_cases c3:ty=3
 · subst c3
   by_cases hz:n<9223372036854775808
   · exact rValue_real n hn hz w
   · exact rValue_rneg n hn hz w
 exact rValue_other n hn ty c1 c3 w
theorem valT_ty {ty bits:Int} {t:List UInt8} (h:valT ty bits=some t):ty=1∨ty=2∨ty=3:=by
 by_cases h1:ty=1
 · exact .inl h1
 by_cases h2:ty=2
 · exact .inr (.inl h2)
 by_cases h3:ty=3
 · exact .inr (.inr h3)
 unfold valT litT at h
 rw [if_neg h1,if_neg h3,if_neg h1,if_neg h2,if_neg h3] at h
 cases h
theorem valT_len {ty:Int} {n:Nat} {t:List UInt8} (hn:n<18446744073709551616) (h:valT ty (n:Int)=some t):t.length≤1048601:=by
 by_cases h1:ty=1
 · subst h1
   by_cases hz:9223372036854775808<n
   · obtain ⟨m,hm⟩:∃ m:Nat,(m:Int)=18446744073709551616 - (n:Int):=⟨18446744073709551616 - n,by omega⟩
     rw [valT_neg hz hm] at h
     injection h with h
     have:=decDigits_len20 (n:=m) (by omega)
     rw [← h]
     simp
     omega
   · rw [valT_one hz] at h
     have:=lit_len hn h
     omega
 by_cases h3:ty=3
 · subst h3
   by_cases hz:n<9223372036854775808
   · rw [valT_real hz] at h
     have:=lit_len hn h
     omega
   · obtain ⟨m,hm⟩:∃ m:Nat,(m:Int)=(n:Int) - signBits:=⟨n - 9223372036854775808,by unfold signBits;omega⟩
     have hm2:(m:Int)=(n:Int) - 9223372036854775808:=hm
     by_cases hq:(m:Int)=nanBits
     · rw [valT_rnan hz hm hq] at h
       cases h
     · rw [valT_rneg hz hm hq,Option.map_eq_some_iff] at h
       obtain ⟨s,hs,rfl⟩:=h
       have:=lit_len (n:=m) (by omega) hs
       simp
       omega
 rw [valT_other h1 h3] at h
 have:=lit_len hn h
 omega
theorem vrT_len {wd:List UInt8} (hwd:wd.length≤100) {v:Vr} (hR:vrR v) {t:List UInt8} (h:vrT wd v=some t):t.length≤1048900*vrB v:=by
 obtain ⟨_,h1,h2⟩:=hR
 unfold vrT at h
 split at h
 rotate_left
 · cases h
 rw [Option.map_eq_some_iff] at h
 obtain ⟨s,hs,rfl⟩:=h
 obtain ⟨n,hn⟩:∃ n:Nat,v.bits=(n:Int):=⟨v.bits.toNat,by omega⟩
 rw [hn] at hs
 have:=valT_len (by omega) hs
 have h4:(typT v.ty).length≤4:=by
  unfold typT
  by_cases c:v.ty=2
  · rw [if_pos c];decide
  · rw [if_neg c]
    by_cases d:v.ty=3
    · rw [if_pos d];decide
    · rw [if_neg d];decide
 unfold vrB
 simp only [List.length_append,List.length_cons,List.length_nil]
 omega
theorem varsT_len {wd:List UInt8} (hwd:wd.length≤100):∀ {l:List Vr} {t:List UInt8},(∀ v∈l,vrR v)→allT (vrT wd) l=some t→t.length≤1048900*sumN vrB l
 | [],t,_,h=>by
   simp only [allT,Option.some.injEq] at h
   subst h
   simp
 | v::l,t,hR,h=>by
   simp only [allT] at h
   split at h
   · cases h
   rename_i a ha
   split at h
   · cases h
   rename_i b hb
   injection h with h
   have h1:=vrT_len hwd (hR v (by simp)) ha
   have h2:=varsT_len hwd (fun x hx=>hR x (by simp [hx])) hb
   rw [← h]
   simp only [sumN,List.length_append]
   omega
open Go.Sy in
set_option maxRecDepth 100000 in
theorem rvars_any (wd:List UInt8) (hwd:wd.length≤100) (L:List Vr) (a:Option Addr) (n cap:Nat) (xs:List Value) (w:World) (hn:n=L.length) (hB:sumN vrB L≤1000000000000) (hR:∀ v∈L,vrR v) (hsl:SlAt (·<w.heap.size) w a n 3 xs) (hks:LsAt VrAt L xs):
  Calls Tryz.prog 57 #[.slice a n cap,.string (str wd)] w fun e w'=>∃ s,e = .returned (.tuple #[.string (str s),.bool (allT (vrT wd) L).isSome])∧(∀ t,allT (vrT wd) L=some t→s=t)∧Below w.heap.size w w':=by
 refine Sy.enter (vs:=[.slice a n cap,.string (str wd)]) sy_fine Tryz.func57 rfl (fun γ=>norms_LR _) rfl (fun γ0 hγ0=>?_)
 refine rk ?_
 refine good_toLp ?_
 refine good_loopI (fun i:List Vr×List Vr×List UInt8=>i.2.1.length) (fun i=>L=i.1++i.2.1∧allT (vrT wd) i.1=some i.2.2) (fun i=>⟨mkT [(0,.v (.slice a n cap)),(1,.v (.string (str wd))),(6,.v (.string (str i.2.2))),(7,.v (.int .i64 (i.1.length:Int)))],mkH [],gz,[]⟩)
  ([],L,[]) ⟨rfl,rfl⟩ (by kernel_rfl)
  (fun h=>good_sub _ [(0,.v (.slice a n cap)),(1,.v (.string (str wd))),(6,.v (.string (str []))),(7,.v (.int .i64 (([]:List Vr).length:Int)))] [] gz rfl (by kernel_rfl) (by kernel_rfl) (by kernel_rfl) (by kernel_rfl) (by kernel_rfl) hγ0 (by kernel_rfl) h) ?_
 rintro ⟨l1,l2,t1⟩ ⟨hI,ht1⟩ ih
 have hI:L=l1++l2:=hI
 have ht1:allT (vrT wd) l1=some t1:=ht1
 have hn2:n=l1.length+l2.length:=by rw [hn,hI,List.length_append]
 have hnl:=len_sumN (μ:=vrB) (fun v=>by unfold vrB;omega) L
 have hl1:=varsT_len hwd (fun v hv=>hR v (by rw [hI];simp [hv])) ht1
 refine rk ?_
 cases l2 with
 | nil=>
   refine gK false (b:=intLt (l1.length:Int) (n:Int)) (lt_f (by simp at hn2;omega)) ?_
   refine rs [] 60 1 ?_
   rw [List.append_nil] at hI
   subst hI
   exact gR (.tuple #[.string (str t1),.bool true]) (fun W hk=>⟨t1,by rw [ht1];rfl,(fun t ht=>by rw [ht1] at ht;injection ht),hk.below⟩)
 | cons v l3=>
   have hin:l1.length<n:=by rw [hn2,List.length_cons];omega
   have hks2:=hks
   rw [hI] at hks2
   obtain ⟨c,hc,hcell⟩:=hks2.at_ (k:=3) (fun _ _ h=>h.len)
   obtain ⟨_,hb1,hb2⟩:=hR v (by rw [hI];simp)
   have hsum:sumN vrB L=sumN vrB l1+(vrB v+sumN vrB l3):=by rw [hI,sumN_app];rfl
   obtain ⟨name,ty,bits⟩:=v
   obtain rfl:c=[.string (str name),.int .u8 ty,.int .u64 bits]:=hc
   simp only at hb1 hb2
   obtain ⟨bn,rfl⟩:∃ bn:Nat,bits=(bn:Int):=⟨bits.toNat,by omega⟩
   have hbn:bn<18446744073709551616:=by omega
   have hnb:vrB ⟨name,ty,(bn:Int)⟩=name.length+1:=rfl
   have hall:∀ o,vrT wd ⟨name,ty,(bn:Int)⟩=o→allT (vrT wd) L=match o with | none=>none | some t=>(match allT (vrT wd) l3 with | none=>none | some s=>some (t1++(t++s))):=fun o ho=>by
    rw [hI,allT_app,ht1]
    simp only [allT,ho]
    cases o with
    | none=>rfl
    | some t=>cases allT (vrT wd) l3 <;> rfl
   refine gK true (b:=intLt (l1.length:Int) (n:Int)) (lt_t (by omega)) ?_
   refine rk ?_
   refine gV (.pointer (some ⟨gB a,oB a+l1.length*3,none⟩)) (S:=Instr.indexAt 22 (.slice a n cap) (.int .i64 (l1.length:Int))) (fun W _=>idx_sl (e:=67) hsl (by kernel_rfl) (by kernel_rfl) hin W) ?_
   refine rk ?_
   refine gV (.agg #[.int .u8 ty,.int .u64 (bn:Int)]) (S:=Instr.loadAt 31 (.pointer (some ⟨gB a,oB a+l1.length*3+1,none⟩))) (fun W hk=>load_slA (P:=Tryz.prog) (ty:=31) (m:=2) (cs:=[.int .u8 ty,.int .u64 (bn:Int)]) hsl (by kernel_rfl) (by kernel_rfl) l1.length 1 rfl (fun j v hv=>by rw [Nat.add_assoc];exact hcell (1+j) v (by cases j with | zero=>exact hv | succ j=>cases j with | zero=>exact hv | succ j=>simp at hv)) hk) ?_
   refine rk ?_
   cases hv:valT ty (bn:Int) with
   | none=>
     refine gX [.agg #[.int .u8 ty,.int .u64 (bn:Int)]] (.tuple #[.string (str []),.int .i64 2]) (fun W hk=>by have:=rValue_any ty bn hbn W;rw [(value_none hv).1,(value_none hv).2] at this;exact this) ?_
     refine rs [] 60 3 ?_
     have hno:vrT wd ⟨name,ty,(bn:Int)⟩=none:=by unfold vrT;simp only [hv];split <;> rfl
     have hno2:=hall _ hno
     exact gR (.tuple #[.string (str []),.bool false]) (fun W hk=>⟨[],by rw [hno2];rfl,(fun t ht=>by rw [hno2] at ht;cases ht),hk.below⟩)
   | some t=>
     refine gX [.agg #[.int .u8 ty,.int .u64 (bn:Int)]] (.tuple #[.string (str t),.int .i64 0]) (fun W hk=>by have:=rValue_any ty bn hbn W;rw [(value_some hv).1,(value_some hv).2] at this;exact this) ?_
     refine rk ?_
     refine gV (.pointer (some ⟨gB a,oB a+l1.length*3,none⟩)) (S:=Instr.indexAt 22 (.slice a n cap) (.int .i64 (l1.length:Int))) (fun W _=>idx_sl (e:=67) hsl (by kernel_rfl) (by kernel_rfl) hin W) ?_
     refine rk ?_
     refine gV (.string (str name)) (S:=Instr.loadAt 9 (.pointer (some ⟨gB a,oB a+l1.length*3+0,none⟩))) (fun W hk=>load_sl hsl (by kernel_rfl) l1.length 0 (hcell 0 _ rfl) hk) ?_
     refine rk ?_
     cases hx:nameB name with
     | false=>
       refine gX [.string (str name)] (.bool false) (fun W hk=>by have:=nameR_any name W (by unfold maxLen;omega);rw [hx] at this;exact this) ?_
       refine rs [] 60 3 ?_
       have hno:vrT wd ⟨name,ty,(bn:Int)⟩=none:=by unfold vrT;simp only [hx];rfl
       have hno2:=hall _ hno
       exact gR (.tuple #[.string (str []),.bool false]) (fun W hk=>⟨[],by rw [hno2];rfl,(fun t ht=>by rw [hno2] at ht;cases ht),hk.below⟩)
     | true=>
       refine gX [.string (str name)] (.bool true) (fun W hk=>by have:=nameR_any name W (by unfold maxLen;omega);rw [hx] at this;exact this) ?_
       refine rs [39] 60 1 ?_
       have hyes:vrT wd ⟨name,ty,(bn:Int)⟩=some (wd++(32::(name++(32::(typT ty++([32,61,32]++(t++[59,10]))))))):=by unfold vrT;simp only [hx,hv];rfl
       have hlt:=vrT_len hwd (v:=⟨name,ty,(bn:Int)⟩) ⟨‹_›,hb1,hb2⟩ hyes
       rcases valT_ty hv with rfl | rfl | rfl
       ·
        rw [show typT 1=[105,110,116] from rfl] at hyes hlt
        simp only [List.length_append,List.length_cons,List.length_nil] at hlt
        refine gV (.pointer (some ⟨gB a,oB a+l1.length*3,none⟩)) (S:=Instr.indexAt 22 (.slice a n cap) (.int .i64 (l1.length:Int))) (fun W _=>idx_sl (e:=67) hsl (by kernel_rfl) (by kernel_rfl) hin W) ?_
        refine rk ?_
        refine gV (.int .u8 1) (S:=Instr.loadAt 28 (.pointer (some ⟨gB a,oB a+l1.length*3+1,none⟩))) (fun W hk=>load_sl hsl (by kernel_rfl) l1.length 1 (hcell 1 _ rfl) hk) ?_
        refine rs [46] 60 1 ?_
        refine gV (.pointer (some ⟨gB a,oB a+l1.length*3,none⟩)) (S:=Instr.indexAt 22 (.slice a n cap) (.int .i64 (l1.length:Int))) (fun W _=>idx_sl (e:=67) hsl (by kernel_rfl) (by kernel_rfl) hin W) ?_
        refine rk ?_
        refine gV (.int .u8 1) (S:=Instr.loadAt 28 (.pointer (some ⟨gB a,oB a+l1.length*3+1,none⟩))) (fun W hk=>load_sl hsl (by kernel_rfl) l1.length 1 (hcell 1 _ rfl) hk) ?_
        refine rs [53] 60 1 ?_
        refine gC (t1) (wd) (by first | omega | (simp only [List.length_append,List.length_cons,List.length_nil];omega)) ?_
        refine rs [54] 60 0 ?_
        refine gC (t1++wd) ([32]) (by first | omega | (simp only [List.length_append,List.length_cons,List.length_nil];omega)) ?_
        refine rs [57] 60 0 ?_
        refine gV (.pointer (some ⟨gB a,oB a+l1.length*3,none⟩)) (S:=Instr.indexAt 22 (.slice a n cap) (.int .i64 (l1.length:Int))) (fun W _=>idx_sl (e:=67) hsl (by kernel_rfl) (by kernel_rfl) hin W) ?_
        refine rk ?_
        refine gV (.string (str name)) (S:=Instr.loadAt 9 (.pointer (some ⟨gB a,oB a+l1.length*3+0,none⟩))) (fun W hk=>load_sl hsl (by kernel_rfl) l1.length 0 (hcell 0 _ rfl) hk) ?_
        refine rs [60] 60 0 ?_
        refine gC (t1++wd++[32]) (name) (by first | omega | (simp only [List.length_append,List.length_cons,List.length_nil];omega)) ?_
        refine rs [61] 60 0 ?_
        refine gC (t1++wd++[32]++name) ([32]) (by first | omega | (simp only [List.length_append,List.length_cons,List.length_nil];omega)) ?_
        refine rs [63] 60 0 ?_
        refine gC (t1++wd++[32]++name++[32]) ([105,110,116]) (by first | omega | (simp only [List.length_append,List.length_cons,List.length_nil];omega)) ?_
        refine rs [64] 60 0 ?_
        refine gC (t1++wd++[32]++name++[32]++[105,110,116]) ([32,61,32]) (by first | omega | (simp only [List.length_append,List.length_cons,List.length_nil];omega)) ?_
        refine rs [66] 60 0 ?_
        refine gC (t1++wd++[32]++name++[32]++[105,110,116]++[32,61,32]) (t) (by first | omega | (simp only [List.length_append,List.length_cons,List.length_nil];omega)) ?_
        refine rs [67] 60 0 ?_
        refine gC (t1++wd++[32]++name++[32]++[105,110,116]++[32,61,32]++t) ([59,10]) (by first | omega | (simp only [List.length_append,List.length_cons,List.length_nil];omega)) ?_
        refine rk ?_
        refine gS 6 (x := .string (str (t1++wd++[32]++name++[32]++[105,110,116]++[32,61,32]++t++[59,10]))) (.string (str (t1++(wd++(32::(name++(32::([105,110,116]++([32,61,32]++(t++[59,10])))))))))) (by simp) ?_
        refine gS 7 (x := .int .i64 (wrapF .i64 ((l1.length:Int)+1))) (.int .i64 ((l1++[(Vr.mk name 1 (bn:Int))]).length:Nat)) (by rw [wr64 (by omega) (by omega),List.length_append];rfl) ?_
        exact gU _ [(0,.v (.slice a n cap)),(1,.v (.string (str wd))),(6,.v (.string (str (t1++(wd++(32::(name++(32::([105,110,116]++([32,61,32]++(t++[59,10]))))))))))),(7,.v (.int .i64 ((l1++[(Vr.mk name 1 (bn:Int))]).length:Int)))] [] gz hγ0 (ih (l1++[(Vr.mk name 1 (bn:Int))],l3,(t1++(wd++(32::(name++(32::([105,110,116]++([32,61,32]++(t++[59,10]))))))))) ⟨by show L=(l1++[_])++l3;rw [hI];simp,by show allT (vrT wd) (l1++[_])=_;rw [allT_app,ht1];simp only [allT,hyes,List.append_nil]⟩ (by show l3.length<(_::l3).length;simp))
       ·
        rw [show typT 2=[98,111,111,108] from rfl] at hyes hlt
        simp only [List.length_append,List.length_cons,List.length_nil] at hlt
        refine gV (.pointer (some ⟨gB a,oB a+l1.length*3,none⟩)) (S:=Instr.indexAt 22 (.slice a n cap) (.int .i64 (l1.length:Int))) (fun W _=>idx_sl (e:=67) hsl (by kernel_rfl) (by kernel_rfl) hin W) ?_
        refine rk ?_
        refine gV (.int .u8 2) (S:=Instr.loadAt 28 (.pointer (some ⟨gB a,oB a+l1.length*3+1,none⟩))) (fun W hk=>load_sl hsl (by kernel_rfl) l1.length 1 (hcell 1 _ rfl) hk) ?_
        refine rs [46] 60 1 ?_
        refine gV (.pointer (some ⟨gB a,oB a+l1.length*3,none⟩)) (S:=Instr.indexAt 22 (.slice a n cap) (.int .i64 (l1.length:Int))) (fun W _=>idx_sl (e:=67) hsl (by kernel_rfl) (by kernel_rfl) hin W) ?_
        refine rk ?_
        refine gV (.int .u8 2) (S:=Instr.loadAt 28 (.pointer (some ⟨gB a,oB a+l1.length*3+1,none⟩))) (fun W hk=>load_sl hsl (by kernel_rfl) l1.length 1 (hcell 1 _ rfl) hk) ?_
        refine rs [53] 60 1 ?_
        refine gC (t1) (wd) (by first | omega | (simp only [List.length_append,List.length_cons,List.length_nil];omega)) ?_
        refine rs [54] 60 0 ?_
        refine gC (t1++wd) ([32]) (by first | omega | (simp only [List.length_append,List.length_cons,List.length_nil];omega)) ?_
        refine rs [57] 60 0 ?_
        refine gV (.pointer (some ⟨gB a,oB a+l1.length*3,none⟩)) (S:=Instr.indexAt 22 (.slice a n cap) (.int .i64 (l1.length:Int))) (fun W _=>idx_sl (e:=67) hsl (by kernel_rfl) (by kernel_rfl) hin W) ?_
        refine rk ?_
        refine gV (.string (str name)) (S:=Instr.loadAt 9 (.pointer (some ⟨gB a,oB a+l1.length*3+0,none⟩))) (fun W hk=>load_sl hsl (by kernel_rfl) l1.length 0 (hcell 0 _ rfl) hk) ?_
        refine rs [60] 60 0 ?_
        refine gC (t1++wd++[32]) (name) (by first | omega | (simp only [List.length_append,List.length_cons,List.length_nil];omega)) ?_
        refine rs [61] 60 0 ?_
        refine gC (t1++wd++[32]++name) ([32]) (by first | omega | (simp only [List.length_append,List.length_cons,List.length_nil];omega)) ?_
        refine rs [63] 60 0 ?_
        refine gC (t1++wd++[32]++name++[32]) ([98,111,111,108]) (by first | omega | (simp only [List.length_append,List.length_cons,List.length_nil];omega)) ?_
        refine rs [64] 60 0 ?_
        refine gC (t1++wd++[32]++name++[32]++[98,111,111,108]) ([32,61,32]) (by first | omega | (simp only [List.length_append,List.length_cons,List.length_nil];omega)) ?_
        refine rs [66] 60 0 ?_
        refine gC (t1++wd++[32]++name++[32]++[98,111,111,108]++[32,61,32]) (t) (by first | omega | (simp only [List.length_append,List.length_cons,List.length_nil];omega)) ?_
        refine rs [67] 60 0 ?_
        refine gC (t1++wd++[32]++name++[32]++[98,111,111,108]++[32,61,32]++t) ([59,10]) (by first | omega | (simp only [List.length_append,List.length_cons,List.length_nil];omega)) ?_
        refine rk ?_
        refine gS 6 (x := .string (str (t1++wd++[32]++name++[32]++[98,111,111,108]++[32,61,32]++t++[59,10]))) (.string (str (t1++(wd++(32::(name++(32::([98,111,111,108]++([32,61,32]++(t++[59,10])))))))))) (by simp) ?_
        refine gS 7 (x := .int .i64 (wrapF .i64 ((l1.length:Int)+1))) (.int .i64 ((l1++[(Vr.mk name 2 (bn:Int))]).length:Nat)) (by rw [wr64 (by omega) (by omega),List.length_append];rfl) ?_
        exact gU _ [(0,.v (.slice a n cap)),(1,.v (.string (str wd))),(6,.v (.string (str (t1++(wd++(32::(name++(32::([98,111,111,108]++([32,61,32]++(t++[59,10]))))))))))),(7,.v (.int .i64 ((l1++[(Vr.mk name 2 (bn:Int))]).length:Int)))] [] gz hγ0 (ih (l1++[(Vr.mk name 2 (bn:Int))],l3,(t1++(wd++(32::(name++(32::([98,111,111,108]++([32,61,32]++(t++[59,10]))))))))) ⟨by show L=(l1++[_])++l3;rw [hI];simp,by show allT (vrT wd) (l1++[_])=_;rw [allT_app,ht1];simp only [allT,hyes,List.append_nil]⟩ (by show l3.length<(_::l3).length;simp))
       ·
        rw [show typT 3=[114,101,97,108] from rfl] at hyes hlt
        simp only [List.length_append,List.length_cons,List.length_nil] at hlt
        refine gV (.pointer (some ⟨gB a,oB a+l1.length*3,none⟩)) (S:=Instr.indexAt 22 (.slice a n cap) (.int .i64 (l1.length:Int))) (fun W _=>idx_sl (e:=67) hsl (by kernel_rfl) (by kernel_rfl) hin W) ?_
        refine rk ?_
        refine gV (.int .u8 3) (S:=Instr.loadAt 28 (.pointer (some ⟨gB a,oB a+l1.length*3+1,none⟩))) (fun W hk=>load_sl hsl (by kernel_rfl) l1.length 1 (hcell 1 _ rfl) hk) ?_
        refine rs [46] 60 1 ?_
        refine gV (.pointer (some ⟨gB a,oB a+l1.length*3,none⟩)) (S:=Instr.indexAt 22 (.slice a n cap) (.int .i64 (l1.length:Int))) (fun W _=>idx_sl (e:=67) hsl (by kernel_rfl) (by kernel_rfl) hin W) ?_
        refine rk ?_
        refine gV (.int .u8 3) (S:=Instr.loadAt 28 (.pointer (some ⟨gB a,oB a+l1.length*3+1,none⟩))) (fun W hk=>load_sl hsl (by kernel_rfl) l1.length 1 (hcell 1 _ rfl) hk) ?_
        refine rs [53] 60 1 ?_
        refine gC (t1) (wd) (by first | omega | (simp only [List.length_append,List.length_cons,List.length_nil];omega)) ?_
        refine rs [54] 60 0 ?_
        refine gC (t1++wd) ([32]) (by first | omega | (simp only [List.length_append,List.length_cons,List.length_nil];omega)) ?_
        refine rs [57] 60 0 ?_
        refine gV (.pointer (some ⟨gB a,oB a+l1.length*3,none⟩)) (S:=Instr.indexAt 22 (.slice a n cap) (.int .i64 (l1.length:Int))) (fun W _=>idx_sl (e:=67) hsl (by kernel_rfl) (by kernel_rfl) hin W) ?_
        refine rk ?_
        refine gV (.string (str name)) (S:=Instr.loadAt 9 (.pointer (some ⟨gB a,oB a+l1.length*3+0,none⟩))) (fun W hk=>load_sl hsl (by kernel_rfl) l1.length 0 (hcell 0 _ rfl) hk) ?_
        refine rs [60] 60 0 ?_
        refine gC (t1++wd++[32]) (name) (by first | omega | (simp only [List.length_append,List.length_cons,List.length_nil];omega)) ?_
        refine rs [61] 60 0 ?_
        refine gC (t1++wd++[32]++name) ([32]) (by first | omega | (simp only [List.length_append,List.length_cons,List.length_nil];omega)) ?_
        refine rs [63] 60 0 ?_
        refine gC (t1++wd++[32]++name++[32]) ([114,101,97,108]) (by first | omega | (simp only [List.length_append,List.length_cons,List.length_nil];omega)) ?_
        refine rs [64] 60 0 ?_
        refine gC (t1++wd++[32]++name++[32]++[114,101,97,108]) ([32,61,32]) (by first | omega | (simp only [List.length_append,List.length_cons,List.length_nil];omega)) ?_
        refine rs [66] 60 0 ?_
        refine gC (t1++wd++[32]++name++[32]++[114,101,97,108]++[32,61,32]) (t) (by first | omega | (simp only [List.length_append,List.length_cons,List.length_nil];omega)) ?_
        refine rs [67] 60 0 ?_
        refine gC (t1++wd++[32]++name++[32]++[114,101,97,108]++[32,61,32]++t) ([59,10]) (by first | omega | (simp only [List.length_append,List.length_cons,List.length_nil];omega)) ?_
        refine rk ?_
        refine gS 6 (x := .string (str (t1++wd++[32]++name++[32]++[114,101,97,108]++[32,61,32]++t++[59,10]))) (.string (str (t1++(wd++(32::(name++(32::([114,101,97,108]++([32,61,32]++(t++[59,10])))))))))) (by simp) ?_
        refine gS 7 (x := .int .i64 (wrapF .i64 ((l1.length:Int)+1))) (.int .i64 ((l1++[(Vr.mk name 3 (bn:Int))]).length:Nat)) (by rw [wr64 (by omega) (by omega),List.length_append];rfl) ?_
        exact gU _ [(0,.v (.slice a n cap)),(1,.v (.string (str wd))),(6,.v (.string (str (t1++(wd++(32::(name++(32::([114,101,97,108]++([32,61,32]++(t++[59,10]))))))))))),(7,.v (.int .i64 ((l1++[(Vr.mk name 3 (bn:Int))]).length:Int)))] [] gz hγ0 (ih (l1++[(Vr.mk name 3 (bn:Int))],l3,(t1++(wd++(32::(name++(32::([114,101,97,108]++([32,61,32]++(t++[59,10]))))))))) ⟨by show L=(l1++[_])++l3;rw [hI];simp,by show allT (vrT wd) (l1++[_])=_;rw [allT_app,ht1];simp only [allT,hyes,List.append_nil]⟩ (by show l3.length<(_::l3).length;simp))
end Go.Proofs.YtiacalnkmnckjaaGreatDoor
end
section
namespace Go.Proofs.YtiacalnkmnckjaaGreatDoor
open Go.RowKit Go.As
mutual
theorem stT_len:∀ (x:St) {deep:Nat} {t:List UInt8},deep≤32→stR x→stT deep x=some t→t.length≤1048900*stB x
 | .mk kind name e body els,deep,t,hd,hR,h=>by
   obtain ⟨_,hRe,hRb,hRl⟩:=hR
   simp only [stB]
   have hm:=margT_len deep
   rcases stT_inv h with ⟨rfl,te,hte,rfl⟩ | ⟨rfl,rfl⟩ | ⟨rfl,rfl⟩ | ⟨rfl,te,hte,rfl⟩ | ⟨rfl,rfl⟩ | ⟨rfl,te,tb,tl,hte,htb,htl,rfl⟩ | ⟨rfl,te,tb,tl,hte,htb,htl,rfl⟩
   · have:=exT_len e hRe hte
     simp only [List.length_append,List.length_cons,List.length_nil]
     omega
   · simp only [List.length_append,List.length_cons,List.length_nil]
     omega
   · simp only [List.length_append,List.length_cons,List.length_nil]
     omega
   · have:=exT_len e hRe hte
     simp only [List.length_append,List.length_cons,List.length_nil]
     omega
   · simp only [List.length_append,List.length_cons,List.length_nil]
     omega
   all_goals
    have h1:=exT_len e hRe hte
    have h2:=stsT_len body hRb htb
    have h3:=stsT_len els hRl htl
    have hw5:(wdT 5).length=2:=rfl
    have hw6:(wdT 6).length=5:=rfl
    unfold nsT
    by_cases hz:0<els.length
    · rw [if_pos hz]
      simp only [List.length_append,List.length_cons,List.length_nil]
      omega
    · rw [if_neg hz]
      simp only [List.length_append,List.length_cons,List.length_nil]
      omega
theorem stsT_len:∀ (L:List St) {deep:Nat} {t:List UInt8},stRs L→stsT deep L=some t→t.length≤1048900*stBs L
 | [],deep,t,_,h=>by
   simp only [stsT,Option.some.injEq] at h
   subst h
   simp
 | x::l,deep,t,hR,h=>by
   simp only [stsT] at h
   split at h
   · cases h
   split at h
   · cases h
   rename_i hd _ a ha
   split at h
   · cases h
   rename_i b hb
   injection h with h
   simp only [stRs] at hR
   have h1:=stT_len x (by omega) hR.1 ha
   have h2:=stsT_len l hR.2 hb
   rw [← h]
   simp only [stBs,List.length_append]
   omega
end
def RstC (N:Nat):Prop:=∀ (L:List St) (a:Option Addr) (n cap:Nat) (xs:List Value) (deep:Nat) (w:World),n=L.length→swts L<N→swts L≤1000000000000→deep≤1000→stBs L≤1000000000000→stRs L→Sy.SlAt (·<w.heap.size) w a n 9 xs→LsAt (StAt (·<w.heap.size) w) L xs→
    Calls Tryz.prog 58 #[.slice a n cap,.int .i64 (deep:Int)] w fun e w'=>∃ s,e = .returned (.tuple #[.string (str s),.bool (stsT deep L).isSome])∧(∀ t,stsT deep L=some t→s=t)∧Below w.heap.size w w'
def StmC (N:Nat):Prop:=∀ (x:St) (cs:List Value) (deep:Nat) (w:World),swt x≤N→swt x≤1000000000000→deep≤32→stB x≤1000000000000→stR x→StAt (·<w.heap.size) w x cs→
    Calls Tryz.prog 129 #[.agg cs.toArray,.int .i64 (deep:Int)] w fun e w'=>∃ s,e = .returned (.tuple #[.string (str s),.bool (stT deep x).isSome])∧(∀ t,stT deep x=some t→s=t)∧Below w.heap.size w w'
theorem stBs_app:∀ (l r:List St),stBs (l++r)=stBs l+stBs r
 | [],r=>by simp [stBs]
 | x::l,r=>by
   simp only [List.cons_append,stBs]
   rw [stBs_app l r]
   omega
open Go.Sy in
set_option maxRecDepth 100000 in
theorem rstmts_of (N:Nat) (ih:StmC N):RstC (N+1):=by
 intro L a n cap xs deep w hn hN hbd hdeep hB hR hsl hks
 refine Sy.enter (vs:=[.slice a n cap,.int .i64 (deep:Int)]) sy_fine Tryz.func58 rfl (fun γ=>norms_LR _) rfl (fun γ0 hγ0=>?_)
 refine rs [13] 60 0 ?_
 by_cases hdp:32<deep
 ·
  refine gS 11 (x := .bool (intLt 32 (deep:Int))) (.bool true) (by rw [lt_t (by omega)]) ?_
  refine gS 12 (x := .bool (intLt 32 (deep:Int))) (.bool true) (by rw [lt_t (by omega)]) ?_
  refine rk ?_
  rcases Nat.eq_zero_or_pos n with h0 | h0
  ·
   refine gK false (b:=intLt 0 (n:Int)) (lt_f (by omega)) ?_
   refine rk ?_
   refine good_toLp ?_
   refine good_loop (by kernel_rfl) ?_
   refine rk ?_
   refine gK false (b:=intLt 0 (n:Int)) (lt_f (by omega)) ?_
   refine rs [] 60 1 ?_
   have hL:L=[]:=List.eq_nil_of_length_eq_zero (by omega)
   subst hL
   exact gR (.tuple #[.string (str []),.bool true]) (fun W hk=>⟨[],rfl,(fun t ht=>by simpa [stsT] using ht),hk.below⟩)
  refine gK true (b:=intLt 0 (n:Int)) (lt_t (by omega)) ?_
  refine rk ?_
  have hno:stsT deep L=none:=by rw [stsT_all,if_pos ⟨hdp,by omega⟩]
  exact gR (.tuple #[.string (str []),.bool false]) (fun W hk=>⟨[],by rw [hno];rfl,(fun t ht=>by rw [hno] at ht;cases ht),hk.below⟩)
 refine gS 11 (x := .bool (intLt 32 (deep:Int))) (.bool false) (by rw [lt_f (by omega)]) ?_
 refine gS 12 (x := .bool (intLt 32 (deep:Int))) (.bool false) (by rw [lt_f (by omega)]) ?_
 have hall:stsT deep L=allT (stT deep) L:=by rw [stsT_all,if_neg (fun h=>hdp h.1)]
 rw [hall]
 refine rk ?_
 refine gK false (b:=false) (rfl) ?_
 refine rk ?_
 refine good_toLp ?_
 refine good_loopI (fun i:List St×List St×List UInt8=>i.2.1.length) (fun i=>L=i.1++i.2.1∧allT (stT deep) i.1=some i.2.2) (fun i=>⟨mkT [(0,.v (.slice a n cap)),(1,.v (.int .i64 (deep:Int))),(6,.v (.string (str i.2.2))),(7,.v (.int .i64 (i.1.length:Int)))],mkH [],gz,[]⟩)
  ([],L,[]) ⟨rfl,rfl⟩ (by kernel_rfl)
  (fun h=>good_sub _ [(0,.v (.slice a n cap)),(1,.v (.int .i64 (deep:Int))),(6,.v (.string (str []))),(7,.v (.int .i64 (([]:List St).length:Int)))] [] gz rfl (by kernel_rfl) (by kernel_rfl) (by kernel_rfl) (by kernel_rfl) (by kernel_rfl) hγ0 (by kernel_rfl) h) ?_
 rintro ⟨l1,l2,t1⟩ ⟨hI,ht1⟩ ih2
 have hI:L=l1++l2:=hI
 have ht1:allT (stT deep) l1=some t1:=ht1
 have hn2:n=l1.length+l2.length:=by rw [hn,hI,List.length_append]
 have hnl:=swts_len L
 have hsB:stBs L=stBs l1+stBs l2:=by rw [hI,stBs_app]
 have hsw:swts L=swts l1+swts l2:=by rw [hI,swts_app]
 have hl1:=stsT_len l1 (deep:=deep) (t:=t1) (stRs_mem.2 fun x hx=>stRs_mem.1 hR x (by rw [hI];simp [hx])) (by rw [stsT_all,if_neg (fun h=>hdp h.1)];exact ht1)
 refine rk ?_
 cases l2 with
 | nil=>
   refine gK false (b:=intLt (l1.length:Int) (n:Int)) (lt_f (by simp at hn2;omega)) ?_
   refine rs [] 60 1 ?_
   rw [List.append_nil] at hI
   subst hI
   exact gR (.tuple #[.string (str t1),.bool true]) (fun W hk=>⟨t1,by rw [ht1];rfl,(fun t ht=>by rw [ht1] at ht;injection ht),hk.below⟩)
 | cons x l3=>
   have hin:l1.length<n:=by rw [hn2,List.length_cons];omega
   have hks2:=StsAt_ls.2 hks
   rw [hI] at hks2
   obtain ⟨c,hc,hcell⟩:=hks2.at_
   simp only [swts] at hsw
   simp only [stBs] at hsB
   have hxR:stR x:=stRs_mem.1 hR x (by rw [hI];simp)
   have hmid:∀ o,stT deep x=o→allT (stT deep) L=match o with | none=>none | some t=>(match allT (stT deep) l3 with | none=>none | some s=>some (t1++(t++s))):=fun o ho=>by
    rw [hI,allT_app,ht1]
    simp only [allT,ho]
    cases o with
    | none=>rfl
    | some t=>cases allT (stT deep) l3 <;> rfl
   refine gK true (b:=intLt (l1.length:Int) (n:Int)) (lt_t (by omega)) ?_
   refine rk ?_
   refine gV (.pointer (some ⟨gB a,oB a+l1.length*9,none⟩)) (S:=Instr.indexAt 54 (.slice a n cap) (.int .i64 (l1.length:Int))) (fun W _=>idx_sl (e:=56) hsl (by kernel_rfl) (by kernel_rfl) hin W) ?_
   refine rk ?_
   have hcl:=hc.len
   have hld:=fun W (hk:Keep _ _ W)=>load_slA (P:=Tryz.prog) (ty:=56) (m:=9) (cs:=c) hsl (by kernel_rfl) (by kernel_rfl) l1.length 0 hcl (fun j v hv=>by rw [Nat.add_zero];exact hcell j v hv) (W:=W) hk
   have hcall:=fun W (hk:Keep (·<w.heap.size) w W)=>ih x c deep W (by omega) (by omega) (by omega) (by omega) hxR (hc.keep hk (fun k h=>Nat.lt_of_lt_of_le h hk.size))
   have hxl:=fun t (h:stT deep x=some t)=>stT_len x (by omega) hxR h
   obtain ⟨ukind,usn,⟨uop,uty,ubits,uen,uek⟩,ubody,uels⟩:=x
   simp only [StAt] at hc
   obtain ⟨ucs,uba,ubc,ubx,ula,ulc,ulx,rfl,uhe,uhbs,uhbt,uhls,uhlt⟩:=hc
   simp only [ExAt] at uhe
   obtain ⟨uea,uec,uex,rfl,_⟩:=uhe
   refine gV (.agg #[.int .i64 ukind,.string (str usn),.int .u8 uop,.int .u8 uty,.int .u64 ubits,.string (str uen),.slice uea uek.length uec,.slice uba ubody.length ubc,.slice ula uels.length ulc]) (S:=Instr.loadAt 56 (.pointer (some ⟨gB a,oB a+l1.length*9+0,none⟩))) (fun W hk=>hld W hk) ?_
   refine rk ?_
   cases hx:stT deep (St.mk ukind usn (Ex.mk uop uty ubits uen uek) ubody uels) with
   | none=>
     refine gE [.agg #[.int .i64 ukind,.string (str usn),.int .u8 uop,.int .u8 uty,.int .u64 ubits,.string (str uen),.slice uea uek.length uec,.slice uba ubody.length ubc,.slice ula uels.length ulc],.int .i64 (deep:Int)] (fun v=>∃ s,v = .tuple #[.string (str s),.bool false]∧∀ u,stT deep (St.mk ukind usn (Ex.mk uop uty ubits uen uek) ubody uels)=some u→s=u) (fun W hk=>by
      have:=hcall W hk
      rw [hx] at this ⊢
      exact this.mono fun e w' ⟨s,h1,h2,h3⟩=>⟨_,h1,⟨s,rfl,h2⟩,h3⟩) ?_
     rintro v w2 ⟨s,rfl,hs⟩ hk2
     refine rs [] 60 3 ?_
     have hno:=hmid _ hx
     exact gR (.tuple #[.string (str []),.bool false]) (fun W hk=>⟨[],by rw [hno];rfl,(fun t ht=>by rw [hno] at ht;cases ht),hk.below⟩)
   | some u=>
     refine gE [.agg #[.int .i64 ukind,.string (str usn),.int .u8 uop,.int .u8 uty,.int .u64 ubits,.string (str uen),.slice uea uek.length uec,.slice uba ubody.length ubc,.slice ula uels.length ulc],.int .i64 (deep:Int)] (fun v=>∃ s,v = .tuple #[.string (str s),.bool true]∧∀ u,stT deep (St.mk ukind usn (Ex.mk uop uty ubits uen uek) ubody uels)=some u→s=u) (fun W hk=>by
      have:=hcall W hk
      rw [hx] at this ⊢
      exact this.mono fun e w' ⟨s,h1,h2,h3⟩=>⟨_,h1,⟨s,rfl,h2⟩,h3⟩) ?_
     rintro v w2 ⟨s,rfl,hs⟩ hk2
     have hs:=hs u hx
     subst hs
     have hxl:=hxl s hx
     refine rs [36] 60 1 ?_
     refine gC (t1) (s) (by first | omega | (simp only [List.length_append,List.length_cons,List.length_nil];omega)) ?_
     refine rk ?_
     refine gS 7 (x := .int .i64 (wrapF .i64 ((l1.length:Int)+1))) (.int .i64 ((l1++[(St.mk ukind usn (Ex.mk uop uty ubits uen uek) ubody uels)]).length:Nat)) (by rw [wr64 (by omega) (by omega),List.length_append];rfl) ?_
     exact gU _ [(0,.v (.slice a n cap)),(1,.v (.int .i64 (deep:Int))),(6,.v (.string (str (t1++s)))),(7,.v (.int .i64 ((l1++[(St.mk ukind usn (Ex.mk uop uty ubits uen uek) ubody uels)]).length:Int)))] [] gz hγ0 (ih2 (l1++[(St.mk ukind usn (Ex.mk uop uty ubits uen uek) ubody uels)],l3,t1++s) ⟨by show L=(l1++[_])++l3;rw [hI];simp,by show allT (stT deep) (l1++[_])=_;rw [allT_app,ht1];simp only [allT,hx,List.append_nil]⟩ (by show l3.length<(_::l3).length;simp))
end Go.Proofs.YtiacalnkmnckjaaGreatDoor
end
section
namespace Go.Proofs.YtiacalnkmnckjaaGreatDoor
open Go.RowKit Go.As
def flatB (body els:List St):Bool:=decide (body.length=0)&&decide (els.length=0)
open Go.Sy in
set_option maxRecDepth 100000 in
theorem rstmt_front (ukind:Int) (usn:List UInt8) (uop uty ubits:Int) (uen:List UInt8) (uek:List Ex) (ubody uels:List St) (uba ula uea:Option Addr) (ubc ulc uec:Nat) (deep:Nat) (w:World) (hdeep:deep≤32) (hbd:swt (St.mk ukind usn (Ex.mk uop uty ubits uen uek) ubody uels)≤1000000000000) (hB:stB (St.mk ukind usn (Ex.mk uop uty ubits uen uek) ubody uels)≤1000000000000) (hR:stR (St.mk ukind usn (Ex.mk uop uty ubits uen uek) ubody uels)) (uhe:ExAt (·<w.heap.size) w (Ex.mk uop uty ubits uen uek) [.int .u8 uop,.int .u8 uty,.int .u64 ubits,.string (str uen),.slice uea uek.length uec])
  (tail:∀ (γ0:Go.Sy.Gm) (hγ0:∀ b,gz≤b→γ0 b=none),Go.Sy.Good Tryz.prog (·<w.heap.size) w γ0 Tryz.f129.ntmps (bodyPostD Tryz.prog Tryz.f129 (fun v w'=>∃ s,v=Ending.returned (.tuple #[.string (str s),.bool (stT deep (St.mk ukind usn (Ex.mk uop uty ubits uen uek) ubody uels)).isSome])∧(∀ t,stT deep (St.mk ukind usn (Ex.mk uop uty ubits uen uek) ubody uels)=some t→s=t)∧Below w.heap.size w w')) ⟨[.code (seqR (seqR (seqR (seqR (seqR (seqR (Tryz.f129.body.getD .skip)))))))],⟨mkT [(1,.v (.int .i64 (deep:Int))),(2,.ptr gz 0),(6,.v (.string (str (margT deep)))),(7,.v (.string (str (exprS (Ex.mk uop uty ubits uen uek))))),(8,.v (.int .i64 (exprE (Ex.mk uop uty ubits uen uek)))),(9,.v (.bool (nameB usn))),(10,.v (.bool (Sy.bEqL usn []))),(11,.v (.bool (flatB ubody uels)))],mkH [(gz,some (.cells 56 true true true 9 (putL .leaf 0 [.v (.int .i64 ukind),.v (.string (str usn)),.v (.int .u8 uop),.v (.int .u8 uty),.v (.int .u64 ubits),.v (.string (str uen)),.v (.slice uea uek.length uec),.v (.slice uba ubody.length ubc),.v (.slice ula uels.length ulc)])))],gz+1,[]⟩⟩):
  Calls Tryz.prog 129 #[.agg #[.int .i64 ukind,.string (str usn),.int .u8 uop,.int .u8 uty,.int .u64 ubits,.string (str uen),.slice uea uek.length uec,.slice uba ubody.length ubc,.slice ula uels.length ulc],.int .i64 (deep:Int)] w (fun v w'=>∃ s,v=Ending.returned (.tuple #[.string (str s),.bool (stT deep (St.mk ukind usn (Ex.mk uop uty ubits uen uek) ubody uels)).isSome])∧(∀ t,stT deep (St.mk ukind usn (Ex.mk uop uty ubits uen uek) ubody uels)=some t→s=t)∧Below w.heap.size w w'):=by
 simp only [swt] at hbd
 simp only [stB] at hB
 obtain ⟨_,hRe,_,_⟩:=hR
 refine Sy.enter (vs:=[.agg #[.int .i64 ukind,.string (str usn),.int .u8 uop,.int .u8 uty,.int .u64 ubits,.string (str uen),.slice uea uek.length uec,.slice uba ubody.length ubc,.slice ula uels.length ulc],.int .i64 (deep:Int)]) sy_fine Tryz.func129 rfl (fun γ=>norms_LR _) rfl (fun γ0 hγ0=>?_)
 refine rk ?_
 refine gX [.int .i64 (deep:Int)] (.string (str (margT deep))) (fun W hk=>rmargin_any deep (by omega) W) ?_
 refine rk ?_
 refine gX [.agg #[.int .u8 uop,.int .u8 uty,.int .u64 ubits,.string (str uen),.slice uea uek.length uec]] (.tuple #[.string (str (exprS (Ex.mk uop uty ubits uen uek))),.int .i64 (exprE (Ex.mk uop uty ubits uen uek))]) (fun W hk=>rExpr_any (Ex.mk uop uty ubits uen uek) [.int .u8 uop,.int .u8 uty,.int .u64 ubits,.string (str uen),.slice uea uek.length uec] W (by omega) (by omega) hRe (uhe.keep hk (fun k h=>Nat.lt_of_lt_of_le h hk.size))) ?_
 refine rk ?_
 refine gX [.string (str usn)] (.bool (nameB usn)) (fun W hk=>nameR_any usn W (by unfold maxLen;omega)) ?_
 refine rs [35] 60 0 ?_
 by_cases hb:ubody.length=0
 ·
  refine gS 33 (x := .bool (intEq (ubody.length:Int) 0)) (.bool true) (by rw [eq_t (by omega)]) ?_
  refine gS 34 (x := .bool (intEq (ubody.length:Int) 0)) (.bool true) (by rw [eq_t (by omega)]) ?_
  refine rs [] 7 0 ?_
  refine gS 11 (x := .bool (intEq (uels.length:Int) 0)) (.bool (flatB ubody uels)) (by unfold flatB;rw [intEq_eq,hb];congr 1;simp) ?_
  refine rs [] 0 0 ?_
  exact gU [.code (seqR (seqR (seqR (seqR (seqR (seqR (Tryz.f129.body.getD .skip)))))))] [(1,.v (.int .i64 (deep:Int))),(2,.ptr gz 0),(6,.v (.string (str (margT deep)))),(7,.v (.string (str (exprS (Ex.mk uop uty ubits uen uek))))),(8,.v (.int .i64 (exprE (Ex.mk uop uty ubits uen uek)))),(9,.v (.bool (nameB usn))),(10,.v (.bool (Sy.bEqL usn []))),(11,.v (.bool (flatB ubody uels)))] [(gz,some (.cells 56 true true true 9 (putL .leaf 0 [.v (.int .i64 ukind),.v (.string (str usn)),.v (.int .u8 uop),.v (.int .u8 uty),.v (.int .u64 ubits),.v (.string (str uen)),.v (.slice uea uek.length uec),.v (.slice uba ubody.length ubc),.v (.slice ula uels.length ulc)])))] (gz+1) (fun b hb=>hγ0 b (Nat.le_trans (Nat.le_add_right _ _) hb)) (tail γ0 hγ0)
 refine gS 33 (x := .bool (intEq (ubody.length:Int) 0)) (.bool false) (by rw [eq_f (by omega)]) ?_
 refine gS 34 (x := .bool (intEq (ubody.length:Int) 0)) (.bool false) (by rw [eq_f (by omega)]) ?_
 refine rs [] 7 0 ?_
 refine gS 11 (x := .bool false) (.bool (flatB ubody uels)) (by unfold flatB;simp [hb]) ?_
 refine rs [] 0 0 ?_
 exact gU [.code (seqR (seqR (seqR (seqR (seqR (seqR (Tryz.f129.body.getD .skip)))))))] [(1,.v (.int .i64 (deep:Int))),(2,.ptr gz 0),(6,.v (.string (str (margT deep)))),(7,.v (.string (str (exprS (Ex.mk uop uty ubits uen uek))))),(8,.v (.int .i64 (exprE (Ex.mk uop uty ubits uen uek)))),(9,.v (.bool (nameB usn))),(10,.v (.bool (Sy.bEqL usn []))),(11,.v (.bool (flatB ubody uels)))] [(gz,some (.cells 56 true true true 9 (putL .leaf 0 [.v (.int .i64 ukind),.v (.string (str usn)),.v (.int .u8 uop),.v (.int .u8 uty),.v (.int .u64 ubits),.v (.string (str uen)),.v (.slice uea uek.length uec),.v (.slice uba ubody.length ubc),.v (.slice ula uels.length ulc)])))] (gz+1) (fun b hb=>hγ0 b (Nat.le_trans (Nat.le_add_right _ _) hb)) (tail γ0 hγ0)
end Go.Proofs.YtiacalnkmnckjaaGreatDoor
end
section
namespace Go.Proofs.YtiacalnkmnckjaaGreatDoor
open Go.RowKit Go.As
theorem ex_two (e:Ex):(ex32 e=none∧exprE e=2)∨∃ te,ex32 e=some te∧exprE e=0:=by
 unfold exprE
 cases he:ex32 e with
 | none=>exact .inl ⟨rfl,rfl⟩
 | some t=>exact .inr ⟨t,rfl,rfl⟩
theorem exprS_len (e:Ex) (hR:exR e):(exprS e).length≤1048600*exB e:=by
 unfold exprS
 cases he:ex32 e with
 | none=>simp
 | some t=>exact exT_len e hR (ex32_exT he)
theorem st1_yes {deep:Nat} {usn te:List UInt8} {e:Ex} {ubody uels:List St} (hg:nameB usn=true) (hf:flatB ubody uels=true) (he:ex32 e=some te):stT deep (.mk 1 usn e ubody uels)=some (margT deep++(usn++([32,61,32]++(te++[59,10])))):=by
 unfold flatB at hf
 simp only [Bool.and_eq_true,decide_eq_true_eq] at hf
 unfold stT
 rw [if_pos (show (1:Int)=1 from rfl)]
 rw [if_pos ⟨hg,hf.1,hf.2⟩,he]
 rfl
theorem st1_no {deep:Nat} {usn:List UInt8} {e:Ex} {ubody uels:List St} (h:nameB usn=false∨ex32 e=none∨flatB ubody uels=false):stT deep (.mk 1 usn e ubody uels)=none:=by
 unfold stT
 rw [if_pos (show (1:Int)=1 from rfl)]
 rcases h with hn | hn | hn
 · rw [if_neg (fun h=>by rw [hn] at h;exact absurd h.1 (by decide))]
 · rw [hn];split <;> rfl
 · rw [if_neg (fun h=>by unfold flatB at hn;simp [h.2.1,h.2.2] at hn)]
open Go.Sy in
set_option maxRecDepth 100000 in
theorem rstmt1_of (usn:List UInt8) (uop uty ubits:Int) (uen:List UInt8) (uek:List Ex) (ubody uels:List St) (uba ula uea:Option Addr) (ubc ulc uec:Nat) (deep:Nat) (w:World) (hdeep:deep≤32) (hbd:swt (St.mk 1 usn (Ex.mk uop uty ubits uen uek) ubody uels)≤1000000000000) (hB:stB (St.mk 1 usn (Ex.mk uop uty ubits uen uek) ubody uels)≤1000000000000) (hR:stR (St.mk 1 usn (Ex.mk uop uty ubits uen uek) ubody uels)) (uhe:ExAt (·<w.heap.size) w (Ex.mk uop uty ubits uen uek) [.int .u8 uop,.int .u8 uty,.int .u64 ubits,.string (str uen),.slice uea uek.length uec]):
  Calls Tryz.prog 129 #[.agg #[.int .i64 1,.string (str usn),.int .u8 uop,.int .u8 uty,.int .u64 ubits,.string (str uen),.slice uea uek.length uec,.slice uba ubody.length ubc,.slice ula uels.length ulc],.int .i64 (deep:Int)] w (fun v w'=>∃ s,v=Ending.returned (.tuple #[.string (str s),.bool (stT deep (St.mk 1 usn (Ex.mk uop uty ubits uen uek) ubody uels)).isSome])∧(∀ t,stT deep (St.mk 1 usn (Ex.mk uop uty ubits uen uek) ubody uels)=some t→s=t)∧Below w.heap.size w w'):=by
 refine rstmt_front 1 usn uop uty ubits uen uek ubody uels uba ula uea ubc ulc uec deep w hdeep hbd hB hR uhe (fun γ0 hγ0=>?_)
 simp only [stB] at hB
 obtain ⟨_,hRe,_,_⟩:=hR
 have hm:=margT_len deep
 have hel:=exprS_len (Ex.mk uop uty ubits uen uek) hRe
 obtain ⟨es,hes⟩:∃ es,es=exprS (Ex.mk uop uty ubits uen uek):=⟨_,rfl⟩
 rw [← hes] at hel
 rcases Bool.eq_false_or_eq_true (nameB usn) with hg | hg <;> rcases ex_two (Ex.mk uop uty ubits uen uek) with ⟨he,h8⟩ | ⟨te,he,h8⟩ <;> rcases Bool.eq_false_or_eq_true (flatB ubody uels) with hf | hf
 all_goals
  refine gS 9 (x := .bool (nameB usn)) (_) (congrArg Value.bool hg) ?_
  refine gS 8 (x := .int .i64 (exprE (Ex.mk uop uty ubits uen uek))) (_) (congrArg (Value.int .i64) h8) ?_
  refine gS 11 (x := .bool (flatB ubody uels)) (_) (congrArg Value.bool hf) ?_
  refine gS 7 (x := .string (str (exprS (Ex.mk uop uty ubits uen uek)))) (.string (str es)) (by rw [hes]) ?_
  refine rs [47] 60 9 ?_
  refine gC (margT deep) (usn) (by first | omega | (simp only [List.length_append,List.length_cons,List.length_nil];omega)) ?_
  refine rs [48] 60 0 ?_
  refine gC (margT deep++usn) ([32,61,32]) (by first | omega | (simp only [List.length_append,List.length_cons,List.length_nil];omega)) ?_
  refine rs [50] 60 0 ?_
  refine gC (margT deep++usn++[32,61,32]) (es) (by first | omega | (simp only [List.length_append,List.length_cons,List.length_nil];omega)) ?_
  refine rs [51] 60 0 ?_
  refine gC (margT deep++usn++[32,61,32]++es) ([59,10]) (by first | omega | (simp only [List.length_append,List.length_cons,List.length_nil];omega)) ?_
  refine rs [] 60 9 ?_
  first
  | (have hv:stT deep (St.mk 1 usn (Ex.mk uop uty ubits uen uek) ubody uels)=some (margT deep++usn++[32,61,32]++es++[59,10]):=by rw [st1_yes (usn:=usn) hg hf he,hes];unfold exprS;rw [he];simp
     exact gR (.tuple #[.string (str (margT deep++usn++[32,61,32]++es++[59,10])),.bool true]) (fun W hk=>⟨margT deep++usn++[32,61,32]++es++[59,10],by rw [hv];rfl,(fun t ht=>by rw [hv] at ht;injection ht),hk.below⟩))
  | (have hv:stT deep (St.mk 1 usn (Ex.mk uop uty ubits uen uek) ubody uels)=none:=st1_no (by first | exact .inl hg | exact .inr (.inl he) | exact .inr (.inr hf))
     exact gR (.tuple #[.string (str (margT deep++usn++[32,61,32]++es++[59,10])),.bool false]) (fun W hk=>⟨margT deep++usn++[32,61,32]++es++[59,10],by rw [hv];rfl,(fun t ht=>by rw [hv] at ht;cases ht),hk.below⟩))
theorem st4_yes {deep:Nat} {usn te:List UInt8} {e:Ex} {ubody uels:List St} (hg:Sy.bEqL usn []=true) (hf:flatB ubody uels=true) (he:ex32 e=some te):stT deep (.mk 4 usn e ubody uels)=some (margT deep++([97,115,115,101,114,116,32]++(te++[59,10]))):=by
 unfold flatB at hf
 simp only [Bool.and_eq_true,decide_eq_true_eq] at hf
 unfold stT
 rw [if_neg (show ¬ (4:Int)=1 by decide),if_neg (show ¬ (4:Int)=2 by decide),if_neg (show ¬ (4:Int)=3 by decide),if_pos (show (4:Int)=4 from rfl)]
 rw [if_pos ⟨(bEq_nil usn).1 hg,hf.1,hf.2⟩,he]
 rfl
theorem st4_no {deep:Nat} {usn:List UInt8} {e:Ex} {ubody uels:List St} (h:Sy.bEqL usn []=false∨ex32 e=none∨flatB ubody uels=false):stT deep (.mk 4 usn e ubody uels)=none:=by
 unfold stT
 rw [if_neg (show ¬ (4:Int)=1 by decide),if_neg (show ¬ (4:Int)=2 by decide),if_neg (show ¬ (4:Int)=3 by decide),if_pos (show (4:Int)=4 from rfl)]
 rcases h with hn | hn | hn
 · rw [if_neg (fun h=>by rw [(bEq_nil usn).2 h.1] at hn;cases hn)]
 · rw [hn];split <;> rfl
 · rw [if_neg (fun h=>by unfold flatB at hn;simp [h.2.1,h.2.2] at hn)]
open Go.Sy in
set_option maxRecDepth 100000 in
theorem rstmt4_of (usn:List UInt8) (uop uty ubits:Int) (uen:List UInt8) (uek:List Ex) (ubody uels:List St) (uba ula uea:Option Addr) (ubc ulc uec:Nat) (deep:Nat) (w:World) (hdeep:deep≤32) (hbd:swt (St.mk 4 usn (Ex.mk uop uty ubits uen uek) ubody uels)≤1000000000000) (hB:stB (St.mk 4 usn (Ex.mk uop uty ubits uen uek) ubody uels)≤1000000000000) (hR:stR (St.mk 4 usn (Ex.mk uop uty ubits uen uek) ubody uels)) (uhe:ExAt (·<w.heap.size) w (Ex.mk uop uty ubits uen uek) [.int .u8 uop,.int .u8 uty,.int .u64 ubits,.string (str uen),.slice uea uek.length uec]):
  Calls Tryz.prog 129 #[.agg #[.int .i64 4,.string (str usn),.int .u8 uop,.int .u8 uty,.int .u64 ubits,.string (str uen),.slice uea uek.length uec,.slice uba ubody.length ubc,.slice ula uels.length ulc],.int .i64 (deep:Int)] w (fun v w'=>∃ s,v=Ending.returned (.tuple #[.string (str s),.bool (stT deep (St.mk 4 usn (Ex.mk uop uty ubits uen uek) ubody uels)).isSome])∧(∀ t,stT deep (St.mk 4 usn (Ex.mk uop uty ubits uen uek) ubody uels)=some t→s=t)∧Below w.heap.size w w'):=by
 refine rstmt_front 4 usn uop uty ubits uen uek ubody uels uba ula uea ubc ulc uec deep w hdeep hbd hB hR uhe (fun γ0 hγ0=>?_)
 simp only [stB] at hB
 obtain ⟨_,hRe,_,_⟩:=hR
 have hm:=margT_len deep
 have hel:=exprS_len (Ex.mk uop uty ubits uen uek) hRe
 obtain ⟨es,hes⟩:∃ es,es=exprS (Ex.mk uop uty ubits uen uek):=⟨_,rfl⟩
 rw [← hes] at hel
 rcases Bool.eq_false_or_eq_true (Sy.bEqL usn []) with hg | hg <;> rcases ex_two (Ex.mk uop uty ubits uen uek) with ⟨he,h8⟩ | ⟨te,he,h8⟩ <;> rcases Bool.eq_false_or_eq_true (flatB ubody uels) with hf | hf
 all_goals
  refine gS 10 (x := .bool (Sy.bEqL usn [])) (_) (congrArg Value.bool hg) ?_
  refine gS 8 (x := .int .i64 (exprE (Ex.mk uop uty ubits uen uek))) (_) (congrArg (Value.int .i64) h8) ?_
  refine gS 11 (x := .bool (flatB ubody uels)) (_) (congrArg Value.bool hf) ?_
  refine gS 7 (x := .string (str (exprS (Ex.mk uop uty ubits uen uek)))) (.string (str es)) (by rw [hes]) ?_
  refine rs [97] 60 9 ?_
  refine gC (margT deep) ([97,115,115,101,114,116,32]) (by first | omega | (simp only [List.length_append,List.length_cons,List.length_nil];omega)) ?_
  refine rs [99] 60 0 ?_
  refine gC (margT deep++[97,115,115,101,114,116,32]) (es) (by first | omega | (simp only [List.length_append,List.length_cons,List.length_nil];omega)) ?_
  refine rs [100] 60 0 ?_
  refine gC (margT deep++[97,115,115,101,114,116,32]++es) ([59,10]) (by first | omega | (simp only [List.length_append,List.length_cons,List.length_nil];omega)) ?_
  refine rs [] 60 9 ?_
  first
  | (have hv:stT deep (St.mk 4 usn (Ex.mk uop uty ubits uen uek) ubody uels)=some (margT deep++[97,115,115,101,114,116,32]++es++[59,10]):=by rw [st4_yes (usn:=usn) hg hf he,hes];unfold exprS;rw [he];simp
     exact gR (.tuple #[.string (str (margT deep++[97,115,115,101,114,116,32]++es++[59,10])),.bool true]) (fun W hk=>⟨margT deep++[97,115,115,101,114,116,32]++es++[59,10],by rw [hv];rfl,(fun t ht=>by rw [hv] at ht;injection ht),hk.below⟩))
  | (have hv:stT deep (St.mk 4 usn (Ex.mk uop uty ubits uen uek) ubody uels)=none:=st4_no (by first | exact .inl hg | exact .inr (.inl he) | exact .inr (.inr hf))
     exact gR (.tuple #[.string (str (margT deep++[97,115,115,101,114,116,32]++es++[59,10])),.bool false]) (fun W hk=>⟨margT deep++[97,115,115,101,114,116,32]++es++[59,10],by rw [hv];rfl,(fun t ht=>by rw [hv] at ht;cases ht),hk.below⟩))
end Go.Proofs.YtiacalnkmnckjaaGreatDoor
end
