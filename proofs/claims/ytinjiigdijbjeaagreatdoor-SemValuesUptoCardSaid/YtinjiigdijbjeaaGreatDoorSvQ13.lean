/- Texts of this proof, one behind the other. Conditions: those in each theorem. -/
import Derived.Test.YtinjiigdijbjeaaGreatDoorSvQ12
import Derived.Test.YtinjiigdijbjeaaGreatDoorSvQ8
import Derived.Test.YtinjiigdijbjeaaGreatDoorSvQ9
import Derived.Test.YtinjiigdijbjeaaGreatDoorSvQ11
import Derived.Test.YtinjiigdijbjeaaGreatDoorSvQ10
import Derived.Test.YtinjiigdijbjeaaGreatDoorSvQ1
import Derived.Laws.CopyOwn
import Derived.Laws.OwnMore
import Derived.Test.YtinjiigdijbjeaaGreatDoorSvQ3
set_option linter.unusedVariables false
set_option linter.unusedSimpArgs false
namespace Go.Proofs.YtinjiigdijbjeaaGreatDoor
open Go.RowKit Go.As
section
def RexC (N:Nat):Prop:=∀ (e:Ex) (cs:List Value) (w:World),wgt e≤N→exB e≤1000000000000→exR e→ExAt (·<w.heap.size) w e cs→
    Calls Tryz.prog 43 #[.agg cs.toArray] w fun v w'=>∃ s,v = .returned (.tuple #[.string (str s),.bool (exT e).isSome])∧(∀ t,exT e=some t→s=t)∧Below w.heap.size w w'
theorem signT_ne {op:Int} (h:3≤op∧op≤15):signT op≠[]:=by
 have:op=3∨op=4∨op=5∨op=6∨op=7∨op=8∨op=9∨op=10∨op=11∨op=12∨op=13∨op=14∨op=15:=by omega
 rcases this with rfl | rfl | rfl | rfl | rfl | rfl | rfl | rfl | rfl | rfl | rfl | rfl | rfl <;> decide
theorem signT_nil {op:Int} (c1:¬ op=1) (c2:¬ op=2) (c3:¬ (3≤op∧op≤15)):signT op=[]:=by
 unfold signT
 repeat rw [if_neg (by omega)]
theorem exBs_len:∀ (l:List Ex),l.length≤exBs l
 | []=>Nat.le_refl _
 | .mk _ _ _ _ _::l=>by
   have:=exBs_len l
   simp only [exBs,exB,List.length_cons]
   omega
theorem exTs_bound:∀ {kids:List Ex} {ks:List (List UInt8)},exRs kids→exTs kids=some ks→∀ t∈ks,t.length≤1048600*exBs kids
 | [],ks,_,h,t,ht=>by
   simp only [exTs,Option.some.injEq] at h
   subst h
   cases ht
 | e::l,ks,hR,h,t,ht=>by
   simp only [exTs] at h
   split at h
   · cases h
   rename_i te hte
   split at h
   · cases h
   rename_i ts hts
   injection h with h
   subst h
   simp only [exRs] at hR
   simp only [exBs]
   rcases List.mem_cons.1 ht with rfl | ht
   · have:=exT_len e hR.1 hte;omega
   · have:=exTs_bound hR.2 hts t ht;omega
open Go.Sy in
set_option maxRecDepth 100000 in
theorem rexpr_tail (N:Nat) (ihN:RexC N) (op ty:Int) (bn:Nat) (name:List UInt8) (kids:List Ex) (a:Option Addr) (n cap:Nat) (xs:List Value) (w:World) (hn:n=kids.length) (hN:wgts kids+1≤N+1) (hB:name.length+5+exBs kids≤1000000000000) (hbn:bn<18446744073709551616) (hkR:exRs kids) (hsl:SlAt (·<w.heap.size) w a n 5 xs) (hks:ExsAt (·<w.heap.size) w kids xs) (γ0:Go.Sy.Gm) (hγ0:∀ b,gz≤b→γ0 b=none) (hz:¬ ((op≠1∧¬ (ty=0∧(bn:Int)=0))∨(op≠2∧name≠[]))):
  Go.Sy.Good Tryz.prog (·<w.heap.size) w γ0 Tryz.f43.ntmps (bodyPostD Tryz.prog Tryz.f43 (fun v w'=>∃ s,v=Ending.returned (.tuple #[nT s,.bool (exT (Ex.mk op ty (bn:Int) name kids)).isSome])∧(∀ t,exT (Ex.mk op ty (bn:Int) name kids)=some t→s=t)∧Below w.heap.size w w')) ⟨[.code (seqR (seqR (Tryz.f43.body.getD .skip)))],⟨mkT [(1,.ptr gz 0)],mkH [(gz,bK 29 5 (xA op ty (bn:Int) name a n cap))],gz+1,[]⟩⟩:=by
 refine rk ?_
 refine good_toLp ?_
 refine good_loopI (fun i:CI Ex=>i.l2.length) (fun i=>kids=i.l1++i.l2∧(∃ ks,exTs i.l1=some ks∧i.xs=ks.map fun t=>Value.string (str t))∧RowAt 9 1 (gz+1) i.l1.length i.xs i.X i.ob) (fun i=>⟨mkT [(1,.ptr gz 0),(4,i.X),(5,vI (i.l1.length:Int))],mkH [(gz,bK 29 5 (xA op ty (bn:Int) name a n cap)),(gz+1,i.ob)],gz+2,[]⟩)
  ⟨[],kids,[],vL none 0 0,none⟩ ⟨rfl,⟨[],rfl,rfl⟩,RowAt.nil _ _ _⟩ (by kernel_rfl)
  (fun h=>gU _ [(1,.ptr gz 0),(4,vL none 0 0),(5,vI (([]:List Ex).length:Int))] [(gz,bK 29 5 (xA op ty (bn:Int) name a n cap)),(gz+1,none)] (gz+2) (gA hγ0) h) ?_
 rintro ⟨l1,l2,xk,X,ob⟩ ⟨hI,⟨ks,hks1,hxk⟩,hrow⟩ ih
 simp only at hI hks1 hxk hrow
 have hn2:n=l1.length+l2.length:=by rw [hn,hI,List.length_append]
 have hwl:=exBs_len kids
 refine rk ?_
 cases l2 with
 | nil=>
   refine ky (l1.length:Int) (n:Int) (by simp at hn2;omega) ?_
   rw [List.append_nil] at hI
   subst hI
   have hnm:name.length≤maxLen:=by unfold maxLen;omega
   have hE:=exT_of hz hks1
   have hkl:=exTs_len hks1
   have hbs:=exTs_bound hkR hks1
   rcases hrow.2 with ⟨hX,hob,h0⟩ | ⟨hX,hob⟩
   ·
    have hk0:ks=[]:=List.eq_nil_of_length_eq_zero (by omega)
    subst hX hob hk0
    have KW:∀ W,Keep (·<w.heap.size) w W→Keep (·<w.heap.size) w W:=fun W hk=>hk
    refine rk ?_
    by_cases c1:op=1
    ·
     refine kz op 1 c1 ?_
     refine rk ?_
     cases hx:litT ty (bn:Int) with
     | none=>
       refine gE [.agg #[n8 ty,n6 (bn:Int)]] (fun v=>∃ s,v = .tuple #[nT s,.bool false]∧∀ u,litT ty (bn:Int)=some u→s=u) (fun W hk=>by
        have:=rlit_any ty bn hbn W
        rw [hx] at this ⊢
        exact this.mono fun e w' ⟨s,h1,h2,h3⟩=>⟨_,h1,⟨s,rfl,h2⟩,h3⟩) ?_
       rintro v w2 ⟨s,rfl,hs⟩ hk2
       refine rs [] 60 5 ?_
       have hv:exT (Ex.mk op ty (bn:Int) name kids)=none:=by rw [hE,if_pos c1];exact hx
       exact gR (.tuple #[nT (s),.bool false]) (fun W hk=>⟨s,by rw [hv];rfl,(fun t ht=>by rw [hv] at ht;cases ht),(KW W hk).below⟩)
     | some u=>
       refine gE [.agg #[n8 ty,n6 (bn:Int)]] (fun v=>∃ s,v = .tuple #[nT s,.bool true]∧∀ u,litT ty (bn:Int)=some u→s=u) (fun W hk=>by
        have:=rlit_any ty bn hbn W
        rw [hx] at this ⊢
        exact this.mono fun e w' ⟨s,h1,h2,h3⟩=>⟨_,h1,⟨s,rfl,h2⟩,h3⟩) ?_
       rintro v w2 ⟨s,rfl,hs⟩ hk2
       have hs:=hs u hx
       subst hs
       refine rs [] 60 5 ?_
       have hv:exT (Ex.mk op ty (bn:Int) name kids)=some (s):=by rw [hE,if_pos c1];exact hx
       exact gR (.tuple #[nT (s),.bool true]) (fun W hk=>⟨s,by rw [hv];rfl,(fun t ht=>by rw [hv] at ht;injection ht),(KW W hk).below⟩)
    refine kw op 1 c1 ?_
    refine rk ?_
    by_cases c2:op=2
    ·
     refine kz op 2 c2 ?_
     refine rs [] 1 0 ?_
     refine good_draw sy_mixed (by kernel_rfl) ?_
     refine q_run [] 60 ?_
     cases hx:nameB name with
     | false=>
       refine qB [nT name] (.bool false) (fun W hk=>by have:=nameR_any name W hnm;rw [hx] at this;exact this) ?_
       refine q_run [] 60 ?_
       refine qE ?_
       refine rs [] 60 3 ?_
       have hv:exT (Ex.mk op ty (bn:Int) name kids)=none:=by rw [hE,if_neg c1,if_pos c2];rw [hx];rfl
       exact gR (.tuple #[nT (name),.bool false]) (fun W hk=>⟨name,by rw [hv];rfl,(fun t ht=>by rw [hv] at ht;cases ht),(KW W hk).below⟩)
     | true=>
       refine qB [nT name] (.bool true) (fun W hk=>by have:=nameR_any name W hnm;rw [hx] at this;exact this) ?_
       refine q_run [] 60 ?_
       refine qE ?_
       refine rs [] 60 3 ?_
       have hv:exT (Ex.mk op ty (bn:Int) name kids)=some (name):=by rw [hE,if_neg c1,if_pos c2];rw [hx];rfl
       exact gR (.tuple #[nT (name),.bool true]) (fun W hk=>⟨name,by rw [hv];rfl,(fun t ht=>by rw [hv] at ht;injection ht),(KW W hk).below⟩)
    refine kw op 2 c2 ?_
    refine rk ?_
    by_cases c3:3≤op∧op≤15
    ·
     have hsg:Sy.bEqL (signT op) []=false:=by rw [← Bool.not_eq_true,bEq_nil];exact signT_ne c3
     refine gX [n8 op] (nT (signT op)) (fun W hk=>rsign_any op W) ?_
     refine rs [89] 60 0 ?_
     refine gS 87 (x := .bool (!(Sy.bEqL (signT op) []))) (.bool true) (by rw [hsg];rfl) ?_
     refine gS 88 (x := .bool (!(Sy.bEqL (signT op) []))) (.bool true) (by rw [hsg];rfl) ?_
     refine rs [112] 60 3 ?_
     refine gF 110 op 16 (by omega) ?_
     refine gF 111 op 16 (by omega) ?_
     refine rs [124] 60 3 ?_
     refine gF 122 op 17 (by omega) ?_
     refine gF 123 op 17 (by omega) ?_
     refine rs [136] 60 3 ?_
     refine gF 134 op 18 (by omega) ?_
     refine gF 135 op 18 (by omega) ?_
     refine rs [149] 60 3 ?_
     refine gF 147 op 19 (by omega) ?_
     refine gF 148 op 19 (by omega) ?_
     refine rs [] 60 9 ?_
     have hv:exT (Ex.mk op ty (bn:Int) name kids)=none:=by rw [hE,if_neg c1,if_neg c2,if_pos c3]
     exact gR (.tuple #[nT ([]),.bool false]) (fun W hk=>⟨[],by rw [hv];rfl,(fun t ht=>by rw [hv] at ht;cases ht),(KW W hk).below⟩)
    refine gX [n8 op] (nT []) (fun W hk=>by have:=rsign_any op W;rw [signT_nil c1 c2 c3] at this;exact this) ?_
    by_cases c16:op=16
    ·
     refine rs [112] 60 3 ?_
     refine gT 110 op 16 c16 ?_
     refine gT 111 op 16 c16 ?_
     refine rs [124] 60 3 ?_
     refine gF 122 op 17 (by omega) ?_
     refine gF 123 op 17 (by omega) ?_
     refine rs [136] 60 3 ?_
     refine gF 134 op 18 (by omega) ?_
     refine gF 135 op 18 (by omega) ?_
     refine rs [149] 60 3 ?_
     refine gF 147 op 19 (by omega) ?_
     refine gF 148 op 19 (by omega) ?_
     refine rs [] 60 9 ?_
     have hv:exT (Ex.mk op ty (bn:Int) name kids)=none:=by rw [hE,if_neg c1,if_neg c2,if_neg c3,if_pos c16]
     exact gR (.tuple #[nT ([]),.bool false]) (fun W hk=>⟨[],by rw [hv];rfl,(fun t ht=>by rw [hv] at ht;cases ht),(KW W hk).below⟩)
    by_cases c17:op=17
    ·
     refine rs [112] 60 3 ?_
     refine gF 110 op 16 (by omega) ?_
     refine gF 111 op 16 (by omega) ?_
     refine rs [124] 60 3 ?_
     refine gT 122 op 17 c17 ?_
     refine gT 123 op 17 c17 ?_
     refine rs [136] 60 3 ?_
     refine gF 134 op 18 (by omega) ?_
     refine gF 135 op 18 (by omega) ?_
     refine rs [149] 60 3 ?_
     refine gF 147 op 19 (by omega) ?_
     refine gF 148 op 19 (by omega) ?_
     refine rs [] 60 9 ?_
     have hv:exT (Ex.mk op ty (bn:Int) name kids)=none:=by rw [hE,if_neg c1,if_neg c2,if_neg c3,if_neg c16,if_pos c17]
     exact gR (.tuple #[nT ([]),.bool false]) (fun W hk=>⟨[],by rw [hv];rfl,(fun t ht=>by rw [hv] at ht;cases ht),(KW W hk).below⟩)
    by_cases c18:op=18
    ·
     refine rs [112] 60 3 ?_
     refine gF 110 op 16 (by omega) ?_
     refine gF 111 op 16 (by omega) ?_
     refine rs [124] 60 3 ?_
     refine gF 122 op 17 (by omega) ?_
     refine gF 123 op 17 (by omega) ?_
     refine rs [136] 60 3 ?_
     refine gT 134 op 18 c18 ?_
     refine gT 135 op 18 c18 ?_
     refine rs [149] 60 3 ?_
     refine gF 147 op 19 (by omega) ?_
     refine gF 148 op 19 (by omega) ?_
     refine rs [] 60 9 ?_
     have hv:exT (Ex.mk op ty (bn:Int) name kids)=none:=by rw [hE,if_neg c1,if_neg c2,if_neg c3,if_neg c16,if_neg c17,if_pos c18]
     exact gR (.tuple #[nT ([]),.bool false]) (fun W hk=>⟨[],by rw [hv];rfl,(fun t ht=>by rw [hv] at ht;cases ht),(KW W hk).below⟩)
    by_cases c19:op=19
    ·
     refine rs [112] 60 3 ?_
     refine gF 110 op 16 (by omega) ?_
     refine gF 111 op 16 (by omega) ?_
     refine rs [124] 60 3 ?_
     refine gF 122 op 17 (by omega) ?_
     refine gF 123 op 17 (by omega) ?_
     refine rs [136] 60 3 ?_
     refine gF 134 op 18 (by omega) ?_
     refine gF 135 op 18 (by omega) ?_
     refine rs [149] 60 3 ?_
     refine gT 147 op 19 c19 ?_
     refine gT 148 op 19 c19 ?_
     refine rs [] 60 9 ?_
     have hv:exT (Ex.mk op ty (bn:Int) name kids)=none:=by rw [hE,if_neg c1,if_neg c2,if_neg c3,if_neg c16,if_neg c17,if_neg c18,if_pos c19]
     exact gR (.tuple #[nT ([]),.bool false]) (fun W hk=>⟨[],by rw [hv];rfl,(fun t ht=>by rw [hv] at ht;cases ht),(KW W hk).below⟩)
    refine rs [112] 60 3 ?_
    refine gF 110 op 16 c16 ?_
    refine gF 111 op 16 c16 ?_
    refine rs [124] 60 3 ?_
    refine gF 122 op 17 c17 ?_
    refine gF 123 op 17 c17 ?_
    refine rs [136] 60 3 ?_
    refine gF 134 op 18 c18 ?_
    refine gF 135 op 18 c18 ?_
    refine rs [149] 60 3 ?_
    refine gF 147 op 19 c19 ?_
    refine gF 148 op 19 c19 ?_
    refine rs [] 60 9 ?_
    have hv:exT (Ex.mk op ty (bn:Int) name kids)=none:=by rw [hE,if_neg c1,if_neg c2,if_neg c3,if_neg c16,if_neg c17,if_neg c18,if_neg c19]
    exact gR (.tuple #[nT ([]),.bool false]) (fun W hk=>⟨[],by rw [hv];rfl,(fun t ht=>by rw [hv] at ht;cases ht),(KW W hk).below⟩)
   rw [← hkl] at hX
   subst hX hob hxk
   match ks,hkl,hbs,hE,ih with
   | [],hkl,hbs,hE,ih=>
     refine good_giveR 4 (gz+1) 9 1 ([]:List (List UInt8)).length (([]:List (List UInt8)).map fun t=>Value.string (str t)) (by kernel_rfl) (by kernel_rfl) (by simp) (fun k scap w1 B1 hk1 hB01 hB1s hrow1=>?_)
     have KW:∀ W,Keep B1 w1 W→Keep (·<w.heap.size) w W:=fun W hk=>hk1.trans (hk.mono hB01)
     refine rk ?_
     by_cases c1:op=1
     ·
      refine kz op 1 c1 ?_
      refine rk ?_
      cases hx:litT ty (bn:Int) with
      | none=>
        refine gE [.agg #[n8 ty,n6 (bn:Int)]] (fun v=>∃ s,v = .tuple #[nT s,.bool false]∧∀ u,litT ty (bn:Int)=some u→s=u) (fun W hk=>by
         have:=rlit_any ty bn hbn W
         rw [hx] at this ⊢
         exact this.mono fun e w' ⟨s,h1,h2,h3⟩=>⟨_,h1,⟨s,rfl,h2⟩,h3⟩) ?_
        rintro v w2 ⟨s,rfl,hs⟩ hk2
        refine rs [] 60 5 ?_
        have hv:exT (Ex.mk op ty (bn:Int) name kids)=none:=by rw [hE,if_pos c1];exact hx
        exact gR (.tuple #[nT (s),.bool false]) (fun W hk=>⟨s,by rw [hv];rfl,(fun t ht=>by rw [hv] at ht;cases ht),(KW W hk).below⟩)
      | some u=>
        refine gE [.agg #[n8 ty,n6 (bn:Int)]] (fun v=>∃ s,v = .tuple #[nT s,.bool true]∧∀ u,litT ty (bn:Int)=some u→s=u) (fun W hk=>by
         have:=rlit_any ty bn hbn W
         rw [hx] at this ⊢
         exact this.mono fun e w' ⟨s,h1,h2,h3⟩=>⟨_,h1,⟨s,rfl,h2⟩,h3⟩) ?_
        rintro v w2 ⟨s,rfl,hs⟩ hk2
        have hs:=hs u hx
        subst hs
        refine rs [] 60 5 ?_
        have hv:exT (Ex.mk op ty (bn:Int) name kids)=some (s):=by rw [hE,if_pos c1];exact hx
        exact gR (.tuple #[nT (s),.bool true]) (fun W hk=>⟨s,by rw [hv];rfl,(fun t ht=>by rw [hv] at ht;injection ht),(KW W hk).below⟩)
     refine kw op 1 c1 ?_
     refine rk ?_
     by_cases c2:op=2
     ·
      refine kz op 2 c2 ?_
      refine rs [] 1 0 ?_
      refine good_draw sy_mixed (by kernel_rfl) ?_
      refine q_run [] 60 ?_
      cases hx:nameB name with
      | false=>
        refine qB [nT name] (.bool false) (fun W hk=>by have:=nameR_any name W hnm;rw [hx] at this;exact this) ?_
        refine q_run [] 60 ?_
        refine qE ?_
        refine rs [] 60 3 ?_
        have hv:exT (Ex.mk op ty (bn:Int) name kids)=none:=by rw [hE,if_neg c1,if_pos c2];rw [hx];rfl
        exact gR (.tuple #[nT (name),.bool false]) (fun W hk=>⟨name,by rw [hv];rfl,(fun t ht=>by rw [hv] at ht;cases ht),(KW W hk).below⟩)
      | true=>
        refine qB [nT name] (.bool true) (fun W hk=>by have:=nameR_any name W hnm;rw [hx] at this;exact this) ?_
        refine q_run [] 60 ?_
        refine qE ?_
        refine rs [] 60 3 ?_
        have hv:exT (Ex.mk op ty (bn:Int) name kids)=some (name):=by rw [hE,if_neg c1,if_pos c2];rw [hx];rfl
        exact gR (.tuple #[nT (name),.bool true]) (fun W hk=>⟨name,by rw [hv];rfl,(fun t ht=>by rw [hv] at ht;injection ht),(KW W hk).below⟩)
     refine kw op 2 c2 ?_
     refine rk ?_
     by_cases c3:3≤op∧op≤15
     ·
      have hsg:Sy.bEqL (signT op) []=false:=by rw [← Bool.not_eq_true,bEq_nil];exact signT_ne c3
      refine gX [n8 op] (nT (signT op)) (fun W hk=>rsign_any op W) ?_
      refine rs [89] 60 0 ?_
      refine gS 87 (x := .bool (!(Sy.bEqL (signT op) []))) (.bool true) (by rw [hsg];rfl) ?_
      refine gS 88 (x := .bool (!(Sy.bEqL (signT op) []))) (.bool true) (by rw [hsg];rfl) ?_
      refine rs [112] 60 3 ?_
      refine gF 110 op 16 (by omega) ?_
      refine gF 111 op 16 (by omega) ?_
      refine rs [124] 60 3 ?_
      refine gF 122 op 17 (by omega) ?_
      refine gF 123 op 17 (by omega) ?_
      refine rs [136] 60 3 ?_
      refine gF 134 op 18 (by omega) ?_
      refine gF 135 op 18 (by omega) ?_
      refine rs [149] 60 3 ?_
      refine gF 147 op 19 (by omega) ?_
      refine gF 148 op 19 (by omega) ?_
      refine rs [] 60 9 ?_
      have hv:exT (Ex.mk op ty (bn:Int) name kids)=none:=by rw [hE,if_neg c1,if_neg c2,if_pos c3]
      exact gR (.tuple #[nT ([]),.bool false]) (fun W hk=>⟨[],by rw [hv];rfl,(fun t ht=>by rw [hv] at ht;cases ht),(KW W hk).below⟩)
     refine gX [n8 op] (nT []) (fun W hk=>by have:=rsign_any op W;rw [signT_nil c1 c2 c3] at this;exact this) ?_
     by_cases c16:op=16
     ·
      refine rs [112] 60 3 ?_
      refine gT 110 op 16 c16 ?_
      refine gT 111 op 16 c16 ?_
      refine rs [124] 60 3 ?_
      refine gF 122 op 17 (by omega) ?_
      refine gF 123 op 17 (by omega) ?_
      refine rs [136] 60 3 ?_
      refine gF 134 op 18 (by omega) ?_
      refine gF 135 op 18 (by omega) ?_
      refine rs [149] 60 3 ?_
      refine gF 147 op 19 (by omega) ?_
      refine gF 148 op 19 (by omega) ?_
      refine rs [] 60 9 ?_
      have hv:exT (Ex.mk op ty (bn:Int) name kids)=none:=by rw [hE,if_neg c1,if_neg c2,if_neg c3,if_pos c16]
      exact gR (.tuple #[nT ([]),.bool false]) (fun W hk=>⟨[],by rw [hv];rfl,(fun t ht=>by rw [hv] at ht;cases ht),(KW W hk).below⟩)
     by_cases c17:op=17
     ·
      refine rs [112] 60 3 ?_
      refine gF 110 op 16 (by omega) ?_
      refine gF 111 op 16 (by omega) ?_
      refine rs [124] 60 3 ?_
      refine gT 122 op 17 c17 ?_
      refine gT 123 op 17 c17 ?_
      refine rs [136] 60 3 ?_
      refine gF 134 op 18 (by omega) ?_
      refine gF 135 op 18 (by omega) ?_
      refine rs [149] 60 3 ?_
      refine gF 147 op 19 (by omega) ?_
      refine gF 148 op 19 (by omega) ?_
      refine rs [] 60 9 ?_
      have hv:exT (Ex.mk op ty (bn:Int) name kids)=none:=by rw [hE,if_neg c1,if_neg c2,if_neg c3,if_neg c16,if_pos c17]
      exact gR (.tuple #[nT ([]),.bool false]) (fun W hk=>⟨[],by rw [hv];rfl,(fun t ht=>by rw [hv] at ht;cases ht),(KW W hk).below⟩)
     by_cases c18:op=18
     ·
      refine rs [112] 60 3 ?_
      refine gF 110 op 16 (by omega) ?_
      refine gF 111 op 16 (by omega) ?_
      refine rs [124] 60 3 ?_
      refine gF 122 op 17 (by omega) ?_
      refine gF 123 op 17 (by omega) ?_
      refine rs [136] 60 3 ?_
      refine gT 134 op 18 c18 ?_
      refine gT 135 op 18 c18 ?_
      refine rs [149] 60 3 ?_
      refine gF 147 op 19 (by omega) ?_
      refine gF 148 op 19 (by omega) ?_
      refine rs [] 60 9 ?_
      have hv:exT (Ex.mk op ty (bn:Int) name kids)=none:=by rw [hE,if_neg c1,if_neg c2,if_neg c3,if_neg c16,if_neg c17,if_pos c18]
      exact gR (.tuple #[nT ([]),.bool false]) (fun W hk=>⟨[],by rw [hv];rfl,(fun t ht=>by rw [hv] at ht;cases ht),(KW W hk).below⟩)
     by_cases c19:op=19
     ·
      refine rs [112] 60 3 ?_
      refine gF 110 op 16 (by omega) ?_
      refine gF 111 op 16 (by omega) ?_
      refine rs [124] 60 3 ?_
      refine gF 122 op 17 (by omega) ?_
      refine gF 123 op 17 (by omega) ?_
      refine rs [136] 60 3 ?_
      refine gF 134 op 18 (by omega) ?_
      refine gF 135 op 18 (by omega) ?_
      refine rs [149] 60 3 ?_
      refine gT 147 op 19 c19 ?_
      refine gT 148 op 19 c19 ?_
      refine rs [] 60 9 ?_
      have hv:exT (Ex.mk op ty (bn:Int) name kids)=none:=by rw [hE,if_neg c1,if_neg c2,if_neg c3,if_neg c16,if_neg c17,if_neg c18,if_pos c19]
      exact gR (.tuple #[nT ([]),.bool false]) (fun W hk=>⟨[],by rw [hv];rfl,(fun t ht=>by rw [hv] at ht;cases ht),(KW W hk).below⟩)
     refine rs [112] 60 3 ?_
     refine gF 110 op 16 c16 ?_
     refine gF 111 op 16 c16 ?_
     refine rs [124] 60 3 ?_
     refine gF 122 op 17 c17 ?_
     refine gF 123 op 17 c17 ?_
     refine rs [136] 60 3 ?_
     refine gF 134 op 18 c18 ?_
     refine gF 135 op 18 c18 ?_
     refine rs [149] 60 3 ?_
     refine gF 147 op 19 c19 ?_
     refine gF 148 op 19 c19 ?_
     refine rs [] 60 9 ?_
     have hv:exT (Ex.mk op ty (bn:Int) name kids)=none:=by rw [hE,if_neg c1,if_neg c2,if_neg c3,if_neg c16,if_neg c17,if_neg c18,if_neg c19]
     exact gR (.tuple #[nT ([]),.bool false]) (fun W hk=>⟨[],by rw [hv];rfl,(fun t ht=>by rw [hv] at ht;cases ht),(KW W hk).below⟩)
   | [t1],hkl,hbs,hE,ih=>
     have hb1:=hbs t1 (by simp)
     refine good_giveR 4 (gz+1) 9 1 ([t1]:List (List UInt8)).length (([t1]:List (List UInt8)).map fun t=>Value.string (str t)) (by kernel_rfl) (by kernel_rfl) (by simp) (fun k scap w1 B1 hk1 hB01 hB1s hrow1=>?_)
     have KW:∀ W,Keep B1 w1 W→Keep (·<w.heap.size) w W:=fun W hk=>hk1.trans (hk.mono hB01)
     refine rk ?_
     by_cases c1:op=1
     ·
      refine kz op 1 c1 ?_
      refine rk ?_
      cases hx:litT ty (bn:Int) with
      | none=>
        refine gE [.agg #[n8 ty,n6 (bn:Int)]] (fun v=>∃ s,v = .tuple #[nT s,.bool false]∧∀ u,litT ty (bn:Int)=some u→s=u) (fun W hk=>by
         have:=rlit_any ty bn hbn W
         rw [hx] at this ⊢
         exact this.mono fun e w' ⟨s,h1,h2,h3⟩=>⟨_,h1,⟨s,rfl,h2⟩,h3⟩) ?_
        rintro v w2 ⟨s,rfl,hs⟩ hk2
        refine rs [] 60 5 ?_
        have hv:exT (Ex.mk op ty (bn:Int) name kids)=none:=by rw [hE,if_pos c1]
        exact gR (.tuple #[nT (s),.bool false]) (fun W hk=>⟨s,by rw [hv];rfl,(fun t ht=>by rw [hv] at ht;cases ht),(KW W hk).below⟩)
      | some u=>
        refine gE [.agg #[n8 ty,n6 (bn:Int)]] (fun v=>∃ s,v = .tuple #[nT s,.bool true]∧∀ u,litT ty (bn:Int)=some u→s=u) (fun W hk=>by
         have:=rlit_any ty bn hbn W
         rw [hx] at this ⊢
         exact this.mono fun e w' ⟨s,h1,h2,h3⟩=>⟨_,h1,⟨s,rfl,h2⟩,h3⟩) ?_
        rintro v w2 ⟨s,rfl,hs⟩ hk2
        have hs:=hs u hx
        subst hs
        refine rs [] 60 5 ?_
        have hv:exT (Ex.mk op ty (bn:Int) name kids)=none:=by rw [hE,if_pos c1]
        exact gR (.tuple #[nT (s),.bool false]) (fun W hk=>⟨s,by rw [hv];rfl,(fun t ht=>by rw [hv] at ht;cases ht),(KW W hk).below⟩)
     refine kw op 1 c1 ?_
     refine rk ?_
     by_cases c2:op=2
     ·
      refine kz op 2 c2 ?_
      refine rs [] 1 0 ?_
      refine good_draw sy_mixed (by kernel_rfl) ?_
      refine q_run [] 60 ?_
      refine qE ?_
      refine rs [] 60 3 ?_
      have hv:exT (Ex.mk op ty (bn:Int) name kids)=none:=by rw [hE,if_neg c1,if_pos c2]
      exact gR (.tuple #[nT (name),.bool false]) (fun W hk=>⟨name,by rw [hv];rfl,(fun t ht=>by rw [hv] at ht;cases ht),(KW W hk).below⟩)
     refine kw op 2 c2 ?_
     refine rk ?_
     by_cases c3:3≤op∧op≤15
     ·
      have hsg:Sy.bEqL (signT op) []=false:=by rw [← Bool.not_eq_true,bEq_nil];exact signT_ne c3
      refine gX [n8 op] (nT (signT op)) (fun W hk=>rsign_any op W) ?_
      refine rs [89] 60 0 ?_
      refine gS 87 (x := .bool (!(Sy.bEqL (signT op) []))) (.bool true) (by rw [hsg];rfl) ?_
      refine gS 88 (x := .bool (!(Sy.bEqL (signT op) []))) (.bool true) (by rw [hsg];rfl) ?_
      refine rs [112] 60 3 ?_
      refine gF 110 op 16 (by omega) ?_
      refine gF 111 op 16 (by omega) ?_
      refine rs [124] 60 3 ?_
      refine gF 122 op 17 (by omega) ?_
      refine gF 123 op 17 (by omega) ?_
      refine rs [136] 60 3 ?_
      refine gF 134 op 18 (by omega) ?_
      refine gF 135 op 18 (by omega) ?_
      refine rs [149] 60 3 ?_
      refine gF 147 op 19 (by omega) ?_
      refine gF 148 op 19 (by omega) ?_
      refine rs [] 60 9 ?_
      have hv:exT (Ex.mk op ty (bn:Int) name kids)=none:=by rw [hE,if_neg c1,if_neg c2,if_pos c3]
      exact gR (.tuple #[nT ([]),.bool false]) (fun W hk=>⟨[],by rw [hv];rfl,(fun t ht=>by rw [hv] at ht;cases ht),(KW W hk).below⟩)
     refine gX [n8 op] (nT []) (fun W hk=>by have:=rsign_any op W;rw [signT_nil c1 c2 c3] at this;exact this) ?_
     by_cases c16:op=16
     ·
      refine rs [112] 60 3 ?_
      refine gT 110 op 16 c16 ?_
      refine gT 111 op 16 c16 ?_
      refine rs [116] 60 1 ?_
      refine gI 30 9 scap 0 hrow1 (show 0<1 by decide) ?_
      refine rs [117] 60 0 ?_
      refine gL 9 (nT t1) 0 0 hrow1 rfl ?_
      refine rs [118] 60 0 ?_
      refine gC ([45]) (t1) (by simp;omega) ?_
      refine rs [] 60 3 ?_
      have hv:exT (Ex.mk op ty (bn:Int) name kids)=some ([45]++t1):=by rw [hE,if_neg c1,if_neg c2,if_neg c3,if_pos c16];rfl
      exact gR (.tuple #[nT ([45]++t1),.bool true]) (fun W hk=>⟨[45]++t1,by rw [hv];rfl,(fun t ht=>by rw [hv] at ht;injection ht),(KW W hk).below⟩)
     by_cases c17:op=17
     ·
      refine rs [112] 60 3 ?_
      refine gF 110 op 16 (by omega) ?_
      refine gF 111 op 16 (by omega) ?_
      refine rs [124] 60 3 ?_
      refine gT 122 op 17 c17 ?_
      refine gT 123 op 17 c17 ?_
      refine rs [128] 60 1 ?_
      refine gI 30 9 scap 0 hrow1 (show 0<1 by decide) ?_
      refine rs [129] 60 0 ?_
      refine gL 9 (nT t1) 0 0 hrow1 rfl ?_
      refine rs [130] 60 0 ?_
      refine gC ([33]) (t1) (by simp;omega) ?_
      refine rs [] 60 3 ?_
      have hv:exT (Ex.mk op ty (bn:Int) name kids)=some ([33]++t1):=by rw [hE,if_neg c1,if_neg c2,if_neg c3,if_neg c16,if_pos c17];rfl
      exact gR (.tuple #[nT ([33]++t1),.bool true]) (fun W hk=>⟨[33]++t1,by rw [hv];rfl,(fun t ht=>by rw [hv] at ht;injection ht),(KW W hk).below⟩)
     by_cases c18:op=18
     ·
      refine rs [112] 60 3 ?_
      refine gF 110 op 16 (by omega) ?_
      refine gF 111 op 16 (by omega) ?_
      refine rs [124] 60 3 ?_
      refine gF 122 op 17 (by omega) ?_
      refine gF 123 op 17 (by omega) ?_
      refine rs [136] 60 3 ?_
      refine gT 134 op 18 c18 ?_
      refine gT 135 op 18 c18 ?_
      refine rs [140] 60 1 ?_
      refine gI 30 9 scap 0 hrow1 (show 0<1 by decide) ?_
      refine rs [141] 60 0 ?_
      refine gL 9 (nT t1) 0 0 hrow1 rfl ?_
      refine rs [142] 60 0 ?_
      refine gC ([105,110,116,40]) (t1) (by simp;omega) ?_
      refine rs [143] 60 0 ?_
      refine gC ([105,110,116,40]++t1) ([41]) (by simp;omega) ?_
      refine rs [] 60 3 ?_
      have hv:exT (Ex.mk op ty (bn:Int) name kids)=some ([105,110,116,40]++t1++[41]):=by rw [hE,if_neg c1,if_neg c2,if_neg c3,if_neg c16,if_neg c17,if_pos c18];simp
      exact gR (.tuple #[nT ([105,110,116,40]++t1++[41]),.bool true]) (fun W hk=>⟨[105,110,116,40]++t1++[41],by rw [hv];rfl,(fun t ht=>by rw [hv] at ht;injection ht),(KW W hk).below⟩)
     by_cases c19:op=19
     ·
      refine rs [112] 60 3 ?_
      refine gF 110 op 16 (by omega) ?_
      refine gF 111 op 16 (by omega) ?_
      refine rs [124] 60 3 ?_
      refine gF 122 op 17 (by omega) ?_
      refine gF 123 op 17 (by omega) ?_
      refine rs [136] 60 3 ?_
      refine gF 134 op 18 (by omega) ?_
      refine gF 135 op 18 (by omega) ?_
      refine rs [149] 60 3 ?_
      refine gT 147 op 19 c19 ?_
      refine gT 148 op 19 c19 ?_
      refine rs [153] 60 1 ?_
      refine gI 30 9 scap 0 hrow1 (show 0<1 by decide) ?_
      refine rs [154] 60 0 ?_
      refine gL 9 (nT t1) 0 0 hrow1 rfl ?_
      refine rs [155] 60 0 ?_
      refine gC ([114,101,97,108,40]) (t1) (by simp;omega) ?_
      refine rs [156] 60 0 ?_
      refine gC ([114,101,97,108,40]++t1) ([41]) (by simp;omega) ?_
      refine rs [] 60 3 ?_
      have hv:exT (Ex.mk op ty (bn:Int) name kids)=some ([114,101,97,108,40]++t1++[41]):=by rw [hE,if_neg c1,if_neg c2,if_neg c3,if_neg c16,if_neg c17,if_neg c18,if_pos c19];simp
      exact gR (.tuple #[nT ([114,101,97,108,40]++t1++[41]),.bool true]) (fun W hk=>⟨[114,101,97,108,40]++t1++[41],by rw [hv];rfl,(fun t ht=>by rw [hv] at ht;injection ht),(KW W hk).below⟩)
     refine rs [112] 60 3 ?_
     refine gF 110 op 16 c16 ?_
     refine gF 111 op 16 c16 ?_
     refine rs [124] 60 3 ?_
     refine gF 122 op 17 c17 ?_
     refine gF 123 op 17 c17 ?_
     refine rs [136] 60 3 ?_
     refine gF 134 op 18 c18 ?_
     refine gF 135 op 18 c18 ?_
     refine rs [149] 60 3 ?_
     refine gF 147 op 19 c19 ?_
     refine gF 148 op 19 c19 ?_
     refine rs [] 60 9 ?_
     have hv:exT (Ex.mk op ty (bn:Int) name kids)=none:=by rw [hE,if_neg c1,if_neg c2,if_neg c3,if_neg c16,if_neg c17,if_neg c18,if_neg c19]
     exact gR (.tuple #[nT ([]),.bool false]) (fun W hk=>⟨[],by rw [hv];rfl,(fun t ht=>by rw [hv] at ht;cases ht),(KW W hk).below⟩)
   | [t1,t2],hkl,hbs,hE,ih=>
     have hb1:=hbs t1 (by simp)
     have hb2:=hbs t2 (by simp)
     refine good_giveR 4 (gz+1) 9 1 ([t1,t2]:List (List UInt8)).length (([t1,t2]:List (List UInt8)).map fun t=>Value.string (str t)) (by kernel_rfl) (by kernel_rfl) (by simp) (fun k scap w1 B1 hk1 hB01 hB1s hrow1=>?_)
     have KW:∀ W,Keep B1 w1 W→Keep (·<w.heap.size) w W:=fun W hk=>hk1.trans (hk.mono hB01)
     refine rk ?_
     by_cases c1:op=1
     ·
      refine kz op 1 c1 ?_
      refine rk ?_
      cases hx:litT ty (bn:Int) with
      | none=>
        refine gE [.agg #[n8 ty,n6 (bn:Int)]] (fun v=>∃ s,v = .tuple #[nT s,.bool false]∧∀ u,litT ty (bn:Int)=some u→s=u) (fun W hk=>by
         have:=rlit_any ty bn hbn W
         rw [hx] at this ⊢
         exact this.mono fun e w' ⟨s,h1,h2,h3⟩=>⟨_,h1,⟨s,rfl,h2⟩,h3⟩) ?_
        rintro v w2 ⟨s,rfl,hs⟩ hk2
        refine rs [] 60 5 ?_
        have hv:exT (Ex.mk op ty (bn:Int) name kids)=none:=by rw [hE,if_pos c1]
        exact gR (.tuple #[nT (s),.bool false]) (fun W hk=>⟨s,by rw [hv];rfl,(fun t ht=>by rw [hv] at ht;cases ht),(KW W hk).below⟩)
      | some u=>
        refine gE [.agg #[n8 ty,n6 (bn:Int)]] (fun v=>∃ s,v = .tuple #[nT s,.bool true]∧∀ u,litT ty (bn:Int)=some u→s=u) (fun W hk=>by
         have:=rlit_any ty bn hbn W
         rw [hx] at this ⊢
         exact this.mono fun e w' ⟨s,h1,h2,h3⟩=>⟨_,h1,⟨s,rfl,h2⟩,h3⟩) ?_
        rintro v w2 ⟨s,rfl,hs⟩ hk2
        have hs:=hs u hx
        subst hs
        refine rs [] 60 5 ?_
        have hv:exT (Ex.mk op ty (bn:Int) name kids)=none:=by rw [hE,if_pos c1]
        exact gR (.tuple #[nT (s),.bool false]) (fun W hk=>⟨s,by rw [hv];rfl,(fun t ht=>by rw [hv] at ht;cases ht),(KW W hk).below⟩)
     refine kw op 1 c1 ?_
     refine rk ?_
     by_cases c2:op=2
     ·
      refine kz op 2 c2 ?_
      refine rs [] 1 0 ?_
      refine good_draw sy_mixed (by kernel_rfl) ?_
      refine q_run [] 60 ?_
      refine qE ?_
      refine rs [] 60 3 ?_
      have hv:exT (Ex.mk op ty (bn:Int) name kids)=none:=by rw [hE,if_neg c1,if_pos c2]
      exact gR (.tuple #[nT (name),.bool false]) (fun W hk=>⟨name,by rw [hv];rfl,(fun t ht=>by rw [hv] at ht;cases ht),(KW W hk).below⟩)
     refine kw op 2 c2 ?_
     refine rk ?_
     by_cases c3:3≤op∧op≤15
     ·
      have hsg:Sy.bEqL (signT op) []=false:=by rw [← Bool.not_eq_true,bEq_nil];exact signT_ne c3
      refine gX [n8 op] (nT (signT op)) (fun W hk=>rsign_any op W) ?_
      refine rs [89] 60 0 ?_
      refine gS 87 (x := .bool (!(Sy.bEqL (signT op) []))) (.bool true) (by rw [hsg];rfl) ?_
      refine gS 88 (x := .bool (!(Sy.bEqL (signT op) []))) (.bool true) (by rw [hsg];rfl) ?_
      refine rs [] 60 1 ?_
      refine good_draw sy_mixed (by kernel_rfl) ?_
      refine q_run [93] 60 ?_
      refine qI 30 9 scap 0 hrow1 (show 0<2 by decide) ?_
      refine q_run [94] 60 ?_
      refine qL 9 (nT t1) 0 0 hrow1 rfl ?_
      refine q_run [95] 60 ?_
      have hsl2:(signT op).length≤2:=by have:=psignT_len op;unfold psignT at this;rwa [if_neg (by omega),if_neg (by omega)] at this
      refine qV (nT ([40]++t1)) (S:=(do eqGuard .add 9 (.const (nT [40])) (.tmp 94) (nT ([40])) (nT (t1));binOp .add 9 (nT ([40])) (nT (t1)))) (fun W _=>cat_str _ _ ([40]) (t1) (by simp;omega) W) ?_
      refine q_run [96] 60 ?_
      refine qV (nT ([40]++t1++[32])) (S:=(do eqGuard .add 9 (.tmp 95) (.const (nT [32])) (nT ([40]++t1)) (nT ([32]));binOp .add 9 (nT ([40]++t1)) (nT ([32])))) (fun W _=>cat_str _ _ ([40]++t1) ([32]) (by simp;omega) W) ?_
      refine q_run [100] 60 ?_
      refine qB [n8 op] (nT (signT op)) (fun W hk=>rsign_any op W) ?_
      refine q_run [100] 60 ?_
      refine qV (nT ([40]++t1++[32]++signT op)) (S:=(do eqGuard .add 9 (.tmp 96) (.tmp 99) (nT ([40]++t1++[32])) (nT (signT op));binOp .add 9 (nT ([40]++t1++[32])) (nT (signT op)))) (fun W _=>cat_str _ _ ([40]++t1++[32]) (signT op) (by simp;omega) W) ?_
      refine q_run [101] 60 ?_
      refine qV (nT ([40]++t1++[32]++signT op++[32])) (S:=(do eqGuard .add 9 (.tmp 100) (.const (nT [32])) (nT ([40]++t1++[32]++signT op)) (nT ([32]));binOp .add 9 (nT ([40]++t1++[32]++signT op)) (nT ([32])))) (fun W _=>cat_str _ _ ([40]++t1++[32]++signT op) ([32]) (by simp;omega) W) ?_
      refine q_run [103] 60 ?_
      refine qI 30 9 scap 1 hrow1 (show 1<2 by decide) ?_
      refine q_run [104] 60 ?_
      refine qL 9 (nT t2) 1 0 hrow1 rfl ?_
      refine q_run [105] 60 ?_
      refine qV (nT ([40]++t1++[32]++signT op++[32]++t2)) (S:=(do eqGuard .add 9 (.tmp 101) (.tmp 104) (nT ([40]++t1++[32]++signT op++[32])) (nT (t2));binOp .add 9 (nT ([40]++t1++[32]++signT op++[32])) (nT (t2)))) (fun W _=>cat_str _ _ ([40]++t1++[32]++signT op++[32]) (t2) (by simp;omega) W) ?_
      refine q_run [106] 60 ?_
      refine qV (nT ([40]++t1++[32]++signT op++[32]++t2++[41])) (S:=(do eqGuard .add 9 (.tmp 105) (.const (nT [41])) (nT ([40]++t1++[32]++signT op++[32]++t2)) (nT ([41]));binOp .add 9 (nT ([40]++t1++[32]++signT op++[32]++t2)) (nT ([41])))) (fun W _=>cat_str _ _ ([40]++t1++[32]++signT op++[32]++t2) ([41]) (by simp;omega) W) ?_
      refine q_run [] 60 ?_
      refine qE ?_
      refine rs [] 60 3 ?_
      have hv:exT (Ex.mk op ty (bn:Int) name kids)=some ([40]++t1++[32]++signT op++[32]++t2++[41]):=by rw [hE,if_neg c1,if_neg c2,if_pos c3];simp
      exact gR (.tuple #[nT ([40]++t1++[32]++signT op++[32]++t2++[41]),.bool true]) (fun W hk=>⟨[40]++t1++[32]++signT op++[32]++t2++[41],by rw [hv];rfl,(fun t ht=>by rw [hv] at ht;injection ht),(KW W hk).below⟩)
     refine gX [n8 op] (nT []) (fun W hk=>by have:=rsign_any op W;rw [signT_nil c1 c2 c3] at this;exact this) ?_
     by_cases c16:op=16
     ·
      refine rs [112] 60 3 ?_
      refine gT 110 op 16 c16 ?_
      refine gT 111 op 16 c16 ?_
      refine rs [124] 60 3 ?_
      refine gF 122 op 17 (by omega) ?_
      refine gF 123 op 17 (by omega) ?_
      refine rs [136] 60 3 ?_
      refine gF 134 op 18 (by omega) ?_
      refine gF 135 op 18 (by omega) ?_
      refine rs [149] 60 3 ?_
      refine gF 147 op 19 (by omega) ?_
      refine gF 148 op 19 (by omega) ?_
      refine rs [] 60 9 ?_
      have hv:exT (Ex.mk op ty (bn:Int) name kids)=none:=by rw [hE,if_neg c1,if_neg c2,if_neg c3,if_pos c16]
      exact gR (.tuple #[nT ([]),.bool false]) (fun W hk=>⟨[],by rw [hv];rfl,(fun t ht=>by rw [hv] at ht;cases ht),(KW W hk).below⟩)
     by_cases c17:op=17
     ·
      refine rs [112] 60 3 ?_
      refine gF 110 op 16 (by omega) ?_
      refine gF 111 op 16 (by omega) ?_
      refine rs [124] 60 3 ?_
      refine gT 122 op 17 c17 ?_
      refine gT 123 op 17 c17 ?_
      refine rs [136] 60 3 ?_
      refine gF 134 op 18 (by omega) ?_
      refine gF 135 op 18 (by omega) ?_
      refine rs [149] 60 3 ?_
      refine gF 147 op 19 (by omega) ?_
      refine gF 148 op 19 (by omega) ?_
      refine rs [] 60 9 ?_
      have hv:exT (Ex.mk op ty (bn:Int) name kids)=none:=by rw [hE,if_neg c1,if_neg c2,if_neg c3,if_neg c16,if_pos c17]
      exact gR (.tuple #[nT ([]),.bool false]) (fun W hk=>⟨[],by rw [hv];rfl,(fun t ht=>by rw [hv] at ht;cases ht),(KW W hk).below⟩)
     by_cases c18:op=18
     ·
      refine rs [112] 60 3 ?_
      refine gF 110 op 16 (by omega) ?_
      refine gF 111 op 16 (by omega) ?_
      refine rs [124] 60 3 ?_
      refine gF 122 op 17 (by omega) ?_
      refine gF 123 op 17 (by omega) ?_
      refine rs [136] 60 3 ?_
      refine gT 134 op 18 c18 ?_
      refine gT 135 op 18 c18 ?_
      refine rs [149] 60 3 ?_
      refine gF 147 op 19 (by omega) ?_
      refine gF 148 op 19 (by omega) ?_
      refine rs [] 60 9 ?_
      have hv:exT (Ex.mk op ty (bn:Int) name kids)=none:=by rw [hE,if_neg c1,if_neg c2,if_neg c3,if_neg c16,if_neg c17,if_pos c18]
      exact gR (.tuple #[nT ([]),.bool false]) (fun W hk=>⟨[],by rw [hv];rfl,(fun t ht=>by rw [hv] at ht;cases ht),(KW W hk).below⟩)
     by_cases c19:op=19
     ·
      refine rs [112] 60 3 ?_
      refine gF 110 op 16 (by omega) ?_
      refine gF 111 op 16 (by omega) ?_
      refine rs [124] 60 3 ?_
      refine gF 122 op 17 (by omega) ?_
      refine gF 123 op 17 (by omega) ?_
      refine rs [136] 60 3 ?_
      refine gF 134 op 18 (by omega) ?_
      refine gF 135 op 18 (by omega) ?_
      refine rs [149] 60 3 ?_
      refine gT 147 op 19 c19 ?_
      refine gT 148 op 19 c19 ?_
      refine rs [] 60 9 ?_
      have hv:exT (Ex.mk op ty (bn:Int) name kids)=none:=by rw [hE,if_neg c1,if_neg c2,if_neg c3,if_neg c16,if_neg c17,if_neg c18,if_pos c19]
      exact gR (.tuple #[nT ([]),.bool false]) (fun W hk=>⟨[],by rw [hv];rfl,(fun t ht=>by rw [hv] at ht;cases ht),(KW W hk).below⟩)
     refine rs [112] 60 3 ?_
     refine gF 110 op 16 c16 ?_
     refine gF 111 op 16 c16 ?_
     refine rs [124] 60 3 ?_
     refine gF 122 op 17 c17 ?_
     refine gF 123 op 17 c17 ?_
     refine rs [136] 60 3 ?_
     refine gF 134 op 18 c18 ?_
     refine gF 135 op 18 c18 ?_
     refine rs [149] 60 3 ?_
     refine gF 147 op 19 c19 ?_
     refine gF 148 op 19 c19 ?_
     refine rs [] 60 9 ?_
     have hv:exT (Ex.mk op ty (bn:Int) name kids)=none:=by rw [hE,if_neg c1,if_neg c2,if_neg c3,if_neg c16,if_neg c17,if_neg c18,if_neg c19]
     exact gR (.tuple #[nT ([]),.bool false]) (fun W hk=>⟨[],by rw [hv];rfl,(fun t ht=>by rw [hv] at ht;cases ht),(KW W hk).below⟩)
   | t1::t2::t3::r,hkl,hbs,hE,ih=>
     have hb1:=hbs t1 (by simp)
     have hb2:=hbs t2 (by simp)
     refine good_giveR 4 (gz+1) 9 1 ((t1::t2::t3::r):List (List UInt8)).length (((t1::t2::t3::r):List (List UInt8)).map fun t=>Value.string (str t)) (by kernel_rfl) (by kernel_rfl) (by simp) (fun k scap w1 B1 hk1 hB01 hB1s hrow1=>?_)
     have KW:∀ W,Keep B1 w1 W→Keep (·<w.heap.size) w W:=fun W hk=>hk1.trans (hk.mono hB01)
     refine rk ?_
     by_cases c1:op=1
     ·
      refine kz op 1 c1 ?_
      refine rk ?_
      cases hx:litT ty (bn:Int) with
      | none=>
        refine gE [.agg #[n8 ty,n6 (bn:Int)]] (fun v=>∃ s,v = .tuple #[nT s,.bool false]∧∀ u,litT ty (bn:Int)=some u→s=u) (fun W hk=>by
         have:=rlit_any ty bn hbn W
         rw [hx] at this ⊢
         exact this.mono fun e w' ⟨s,h1,h2,h3⟩=>⟨_,h1,⟨s,rfl,h2⟩,h3⟩) ?_
        rintro v w2 ⟨s,rfl,hs⟩ hk2
        refine rs [] 60 5 ?_
        have hv:exT (Ex.mk op ty (bn:Int) name kids)=none:=by rw [hE,if_pos c1]
        exact gR (.tuple #[nT (s),.bool false]) (fun W hk=>⟨s,by rw [hv];rfl,(fun t ht=>by rw [hv] at ht;cases ht),(KW W hk).below⟩)
      | some u=>
        refine gE [.agg #[n8 ty,n6 (bn:Int)]] (fun v=>∃ s,v = .tuple #[nT s,.bool true]∧∀ u,litT ty (bn:Int)=some u→s=u) (fun W hk=>by
         have:=rlit_any ty bn hbn W
         rw [hx] at this ⊢
         exact this.mono fun e w' ⟨s,h1,h2,h3⟩=>⟨_,h1,⟨s,rfl,h2⟩,h3⟩) ?_
        rintro v w2 ⟨s,rfl,hs⟩ hk2
        have hs:=hs u hx
        subst hs
        refine rs [] 60 5 ?_
        have hv:exT (Ex.mk op ty (bn:Int) name kids)=none:=by rw [hE,if_pos c1]
        exact gR (.tuple #[nT (s),.bool false]) (fun W hk=>⟨s,by rw [hv];rfl,(fun t ht=>by rw [hv] at ht;cases ht),(KW W hk).below⟩)
     refine kw op 1 c1 ?_
     refine rk ?_
     by_cases c2:op=2
     ·
      refine kz op 2 c2 ?_
      refine rs [] 1 0 ?_
      refine good_draw sy_mixed (by kernel_rfl) ?_
      refine q_run [] 60 ?_
      refine qE ?_
      refine rs [] 60 3 ?_
      have hv:exT (Ex.mk op ty (bn:Int) name kids)=none:=by rw [hE,if_neg c1,if_pos c2]
      exact gR (.tuple #[nT (name),.bool false]) (fun W hk=>⟨name,by rw [hv];rfl,(fun t ht=>by rw [hv] at ht;cases ht),(KW W hk).below⟩)
     refine kw op 2 c2 ?_
     refine rk ?_
     by_cases c3:3≤op∧op≤15
     ·
      have hsg:Sy.bEqL (signT op) []=false:=by rw [← Bool.not_eq_true,bEq_nil];exact signT_ne c3
      refine gX [n8 op] (nT (signT op)) (fun W hk=>rsign_any op W) ?_
      refine rs [89] 60 0 ?_
      refine gS 87 (x := .bool (!(Sy.bEqL (signT op) []))) (.bool true) (by rw [hsg];rfl) ?_
      refine gS 88 (x := .bool (!(Sy.bEqL (signT op) []))) (.bool true) (by rw [hsg];rfl) ?_
      refine rs [112] 60 3 ?_
      refine gF 110 op 16 (by omega) ?_
      refine gF 111 op 16 (by omega) ?_
      refine rs [124] 60 3 ?_
      refine gF 122 op 17 (by omega) ?_
      refine gF 123 op 17 (by omega) ?_
      refine rs [136] 60 3 ?_
      refine gF 134 op 18 (by omega) ?_
      refine gF 135 op 18 (by omega) ?_
      refine rs [149] 60 3 ?_
      refine gF 147 op 19 (by omega) ?_
      refine gF 148 op 19 (by omega) ?_
      refine rs [] 60 9 ?_
      have hv:exT (Ex.mk op ty (bn:Int) name kids)=none:=by rw [hE,if_neg c1,if_neg c2,if_pos c3]
      exact gR (.tuple #[nT ([]),.bool false]) (fun W hk=>⟨[],by rw [hv];rfl,(fun t ht=>by rw [hv] at ht;cases ht),(KW W hk).below⟩)
     refine gX [n8 op] (nT []) (fun W hk=>by have:=rsign_any op W;rw [signT_nil c1 c2 c3] at this;exact this) ?_
     by_cases c16:op=16
     ·
      refine rs [112] 60 3 ?_
      refine gT 110 op 16 c16 ?_
      refine gT 111 op 16 c16 ?_
      refine rs [124] 60 3 ?_
      refine gF 122 op 17 (by omega) ?_
      refine gF 123 op 17 (by omega) ?_
      refine rs [136] 60 3 ?_
      refine gF 134 op 18 (by omega) ?_
      refine gF 135 op 18 (by omega) ?_
      refine rs [149] 60 3 ?_
      refine gF 147 op 19 (by omega) ?_
      refine gF 148 op 19 (by omega) ?_
      refine rs [] 60 9 ?_
      have hv:exT (Ex.mk op ty (bn:Int) name kids)=none:=by rw [hE,if_neg c1,if_neg c2,if_neg c3,if_pos c16]
      exact gR (.tuple #[nT ([]),.bool false]) (fun W hk=>⟨[],by rw [hv];rfl,(fun t ht=>by rw [hv] at ht;cases ht),(KW W hk).below⟩)
     by_cases c17:op=17
     ·
      refine rs [112] 60 3 ?_
      refine gF 110 op 16 (by omega) ?_
      refine gF 111 op 16 (by omega) ?_
      refine rs [124] 60 3 ?_
      refine gT 122 op 17 c17 ?_
      refine gT 123 op 17 c17 ?_
      refine rs [136] 60 3 ?_
      refine gF 134 op 18 (by omega) ?_
      refine gF 135 op 18 (by omega) ?_
      refine rs [149] 60 3 ?_
      refine gF 147 op 19 (by omega) ?_
      refine gF 148 op 19 (by omega) ?_
      refine rs [] 60 9 ?_
      have hv:exT (Ex.mk op ty (bn:Int) name kids)=none:=by rw [hE,if_neg c1,if_neg c2,if_neg c3,if_neg c16,if_pos c17]
      exact gR (.tuple #[nT ([]),.bool false]) (fun W hk=>⟨[],by rw [hv];rfl,(fun t ht=>by rw [hv] at ht;cases ht),(KW W hk).below⟩)
     by_cases c18:op=18
     ·
      refine rs [112] 60 3 ?_
      refine gF 110 op 16 (by omega) ?_
      refine gF 111 op 16 (by omega) ?_
      refine rs [124] 60 3 ?_
      refine gF 122 op 17 (by omega) ?_
      refine gF 123 op 17 (by omega) ?_
      refine rs [136] 60 3 ?_
      refine gT 134 op 18 c18 ?_
      refine gT 135 op 18 c18 ?_
      refine rs [149] 60 3 ?_
      refine gF 147 op 19 (by omega) ?_
      refine gF 148 op 19 (by omega) ?_
      refine rs [] 60 9 ?_
      have hv:exT (Ex.mk op ty (bn:Int) name kids)=none:=by rw [hE,if_neg c1,if_neg c2,if_neg c3,if_neg c16,if_neg c17,if_pos c18]
      exact gR (.tuple #[nT ([]),.bool false]) (fun W hk=>⟨[],by rw [hv];rfl,(fun t ht=>by rw [hv] at ht;cases ht),(KW W hk).below⟩)
     by_cases c19:op=19
     ·
      refine rs [112] 60 3 ?_
      refine gF 110 op 16 (by omega) ?_
      refine gF 111 op 16 (by omega) ?_
      refine rs [124] 60 3 ?_
      refine gF 122 op 17 (by omega) ?_
      refine gF 123 op 17 (by omega) ?_
      refine rs [136] 60 3 ?_
      refine gF 134 op 18 (by omega) ?_
      refine gF 135 op 18 (by omega) ?_
      refine rs [149] 60 3 ?_
      refine gT 147 op 19 c19 ?_
      refine gT 148 op 19 c19 ?_
      refine rs [] 60 9 ?_
      have hv:exT (Ex.mk op ty (bn:Int) name kids)=none:=by rw [hE,if_neg c1,if_neg c2,if_neg c3,if_neg c16,if_neg c17,if_neg c18,if_pos c19]
      exact gR (.tuple #[nT ([]),.bool false]) (fun W hk=>⟨[],by rw [hv];rfl,(fun t ht=>by rw [hv] at ht;cases ht),(KW W hk).below⟩)
     refine rs [112] 60 3 ?_
     refine gF 110 op 16 c16 ?_
     refine gF 111 op 16 c16 ?_
     refine rs [124] 60 3 ?_
     refine gF 122 op 17 c17 ?_
     refine gF 123 op 17 c17 ?_
     refine rs [136] 60 3 ?_
     refine gF 134 op 18 c18 ?_
     refine gF 135 op 18 c18 ?_
     refine rs [149] 60 3 ?_
     refine gF 147 op 19 c19 ?_
     refine gF 148 op 19 c19 ?_
     refine rs [] 60 9 ?_
     have hv:exT (Ex.mk op ty (bn:Int) name kids)=none:=by rw [hE,if_neg c1,if_neg c2,if_neg c3,if_neg c16,if_neg c17,if_neg c18,if_neg c19]
     exact gR (.tuple #[nT ([]),.bool false]) (fun W hk=>⟨[],by rw [hv];rfl,(fun t ht=>by rw [hv] at ht;cases ht),(KW W hk).below⟩)
 | cons x l3=>
   have hin:l1.length<n:=by rw [hn2,List.length_cons];omega
   have hks2:=hks
   rw [hI] at hks2
   obtain ⟨c,hc,hcell⟩:=hks2.at_
   have hcl:=hc.len
   have hw1:wgts kids=wgts l1+wgts (x::l3):=by rw [hI,wgts_app]
   simp only [wgts] at hw1
   have hxR:exR x:=exRs_mem.1 hkR x (by rw [hI];simp)
   refine kx (l1.length:Int) (n:Int) (by omega) ?_
   refine rk ?_
   refine gI 27 29 cap l1.length hsl hin ?_
   refine rk ?_
   have hld:=fun W hk=>load_slA (P:=Tryz.prog) (ty:=29) (m:=5) (cs:=c) hsl (by kernel_rfl) (by kernel_rfl) l1.length 0 hcl hcell (W:=W) hk
   have hcall:=fun W hk=>ihN x c W (by omega) (by rw [hI] at hB;simp only [exBs_app,exBs] at hB;omega) hxR (hc.keep hk (fun k h=>Nat.lt_of_lt_of_le h (Keep.size hk)))
   obtain ⟨op2,ty2,bits2,name2,kids2⟩:=x
   simp only [ExAt] at hc
   obtain ⟨a2,cap2,xs2,rfl,_⟩:=hc
   refine gV (xV op2 ty2 bits2 name2 a2 kids2.length cap2) (S:=Instr.loadAt 29 (.pointer (some ⟨gB a,oB a+l1.length*5+0,none⟩))) (fun W hk=>hld W hk) ?_
   refine rk ?_
   cases hx:exT (Ex.mk op2 ty2 bits2 name2 kids2) with
   | none=>
     refine gE [xV op2 ty2 bits2 name2 a2 kids2.length cap2] (fun v=>∃ s,v = .tuple #[nT s,.bool false]∧∀ u,exT (Ex.mk op2 ty2 bits2 name2 kids2)=some u→s=u) (fun W hk=>by
      have:=hcall W hk
      rw [hx] at this ⊢
      exact this.mono fun e w' ⟨s,h1,h2,h3⟩=>⟨_,h1,⟨s,rfl,h2⟩,h3⟩) ?_
     rintro v w2 ⟨s,rfl,hs⟩ hk2
     refine rs [] 60 3 ?_
     have hno:exT (Ex.mk op ty (bn:Int) name kids)=none:=exT_kid (by rw [hI,exTs_app,hks1];simp only [exTs,hx])
     refine gR (.tuple #[nT [],.bool false]) (fun W hk=>⟨[],by rw [hno];rfl,(fun t ht=>by rw [hno] at ht;cases ht),hk.below⟩)
   | some u=>
     refine gE [xV op2 ty2 bits2 name2 a2 kids2.length cap2] (fun v=>∃ s,v = .tuple #[nT s,.bool true]∧∀ u,exT (Ex.mk op2 ty2 bits2 name2 kids2)=some u→s=u) (fun W hk=>by
      have:=hcall W hk
      rw [hx] at this ⊢
      exact this.mono fun e w' ⟨s,h1,h2,h3⟩=>⟨_,h1,⟨s,rfl,h2⟩,h3⟩) ?_
     rintro v w2 ⟨s,rfl,hs⟩ hk2
     have hs:=hs u hx
     subst hs
     refine rs [51] 60 1 ?_
     refine good_app (t:=30) (e:=9) (.slg (gz+2) 0 1 1) 1 16 (gz+1) l1.length 0 xk X ob [nT s] [4,48] (by kernel_rfl) (by kernel_rfl) (by kernel_rfl) (by kernel_rfl) hrow (by kernel_rfl) (by kernel_rfl) (by kernel_rfl)
      (by unfold maxLen;omega) (by omega) (hγ0 (gz+1) (Nat.le_succ _)) (by kernel_rfl) (by kernel_rfl) (by kernel_rfl) (by kernel_rfl) (by kernel_rfl) (fun X' ob' hrow'=>?_)
     rcases hrow'.2 with ⟨_,_,h0⟩ | ⟨rfl,rfl⟩
     · omega
     refine rk ?_
     refine gS 5 (x:=nI (wrapF .i64 ((l1.length:Int)+1))) (nI ((l1++[(Ex.mk op2 ty2 bits2 name2 kids2)]).length:Nat)) (by rw [wr64 (by omega) (by omega)];congr 1;simp) ?_
     exact gU _ [(1,.ptr gz 0),(4,.slg (gz+1) 0 (l1.length+(0+1)) 1),(5,vI ((l1++[(Ex.mk op2 ty2 bits2 name2 kids2)]).length:Int))] [(gz,bK 29 5 (xA op ty (bn:Int) name a n cap)),(gz+1,some (.row 9 (xk++[nT s])))] (gz+2) (gA hγ0) (ih ⟨l1++[(Ex.mk op2 ty2 bits2 name2 kids2)],l3,xk++[nT s],.slg (gz+1) 0 (l1.length+(0+1)) 1,some (.row 9 (xk++[nT s]))⟩ ⟨by show kids=(l1++[_])++l3;rw [hI];simp,⟨ks++[s],by rw [exTs_app,hks1];simp only [exTs,hx],by rw [hxk];simp⟩,by show RowAt _ 1 (gz+1) (l1++[_]).length _ _ _;rw [List.length_append];exact hrow'⟩ lS1)
end
section
open Go.Sy in
set_option maxRecDepth 100000 in
theorem rexpr_front (N:Nat) (ihN:RexC N) (op ty:Int) (bn:Nat) (name:List UInt8) (kids:List Ex) (a:Option Addr) (n cap:Nat) (xs:List Value) (w:World) (hn:n=kids.length) (hN:wgts kids+1≤N+1) (hB:name.length+5+exBs kids≤1000000000000) (hbn:bn<18446744073709551616) (hkR:exRs kids) (hsl:SlAt (·<w.heap.size) w a n 5 xs) (hks:ExsAt (·<w.heap.size) w kids xs):
  Calls Tryz.prog 43 #[xV op ty (bn:Int) name a n cap] w (fun v w'=>∃ s,v=Ending.returned (.tuple #[nT s,.bool (exT (Ex.mk op ty (bn:Int) name kids)).isSome])∧(∀ t,exT (Ex.mk op ty (bn:Int) name kids)=some t→s=t)∧Below w.heap.size w w'):=by
 refine eN [xV op ty (bn:Int) name a n cap] Tryz.func43 (fun γ0 hγ0=>?_)
 have tail:=rexpr_tail N ihN op ty bn name kids a n cap xs w hn hN hB hbn hkR hsl hks γ0 hγ0
 refine rs [15] 60 0 ?_
 by_cases c1:op=1
 ·
  refine gS 13 (x := .bool (!(intEq op 1))) (.bool false) (by rw [eq_t c1];rfl) ?_
  refine gS 14 (x := .bool (!(intEq op 1))) (.bool false) (by rw [eq_t c1];rfl) ?_
  refine rs [25] 60 0 ?_
  have c2:op≠2:=by omega
  have hz1:¬ (op≠1∧¬ (ty=0∧(bn:Int)=0)):=fun h=>h.1 c1
  refine gS 23 (x := .bool (!(intEq op 2))) (.bool true) (by rw [eq_f c2];rfl) ?_
  refine gS 24 (x := .bool (!(intEq op 2))) (.bool true) (by rw [eq_f c2];rfl) ?_
  refine rk ?_
  by_cases hnm:name=[]
  ·
   have hb:Sy.bEqL name []=true:=(bEq_nil name).2 hnm
   have hz:¬ ((op≠1∧¬ (ty=0∧(bn:Int)=0))∨(op≠2∧name≠[])):=by rintro (h | h);exact hz1 h;exact h.2 hnm
   refine gK false (b:=(!(Sy.bEqL name []))) (by rw [hb];rfl) ?_
   refine rs [] 1 0 ?_
   exact gU [.code (seqR (seqR (Tryz.f43.body.getD .skip)))] [(1,.ptr gz 0)] [(gz,bK 29 5 (xA op ty (bn:Int) name a n cap))] (gz+1) (gA hγ0) (tail hz)
  have hb:Sy.bEqL name []=false:=by rw [← Bool.not_eq_true,bEq_nil];exact hnm
  refine gK true (b:=(!(Sy.bEqL name []))) (by rw [hb];rfl) ?_
  refine rk ?_
  have hno:=exT_no (op:=op) (ty:=ty) (bits:=(bn:Int)) (name:=name) (kids:=kids) (.inr ⟨c2,hnm⟩)
  refine gR (.tuple #[nT [],.bool false]) (fun W hk=>⟨[],by rw [hno];rfl,(fun t ht=>by rw [hno] at ht;cases ht),hk.below⟩)
 refine gS 13 (x := .bool (!(intEq op 1))) (.bool true) (by rw [eq_f c1];rfl) ?_
 refine gS 14 (x := .bool (!(intEq op 1))) (.bool true) (by rw [eq_f c1];rfl) ?_
 refine rs [18] 60 0 ?_
 refine gV (.bool (!(vEq ty bn 0 0))) (S:=(do eqGuard .neq 26 (.tmp 16) (.tmp 17) (.agg #[n8 ty,n6 (bn:Int)]) (.agg #[n8 0,n6 0]);binOp .neq 26 (.agg #[n8 ty,n6 (bn:Int)]) (.agg #[n8 0,n6 0]))) (fun W _=>run_neq_value _ _ _ _ _ _ W) ?_
 refine rs [19] 60 0 ?_
 rcases Bool.eq_false_or_eq_true (vEq ty bn 0 0) with hv | hv
 rotate_left
 ·
  refine gS 18 (x := .bool (!(vEq ty bn 0 0))) (.bool true) (by rw [hv];rfl) ?_
  refine rk ?_
  refine gK true (b:=true) (rfl) ?_
  refine rk ?_
  have hz1:¬ (ty=0∧(bn:Int)=0):=fun h=>by rw [(vEq_zero ty bn).2 h] at hv;cases hv
  have hno:=exT_no (op:=op) (ty:=ty) (bits:=(bn:Int)) (name:=name) (kids:=kids) (.inl ⟨c1,hz1⟩)
  refine gR (.tuple #[nT [],.bool false]) (fun W hk=>⟨[],by rw [hno];rfl,(fun t ht=>by rw [hno] at ht;cases ht),hk.below⟩)
 have hz1:¬ (op≠1∧¬ (ty=0∧(bn:Int)=0)):=fun h=>h.2 ((vEq_zero ty bn).1 hv)
 refine gS 18 (x := .bool (!(vEq ty bn 0 0))) (.bool false) (by rw [hv];rfl) ?_
 refine rs [25] 60 0 ?_
 by_cases c2:op=2
 ·
  refine gS 23 (x := .bool (!(intEq op 2))) (.bool false) (by rw [eq_t c2];rfl) ?_
  refine gS 24 (x := .bool (!(intEq op 2))) (.bool false) (by rw [eq_t c2];rfl) ?_
  refine rk ?_
  have hz:¬ ((op≠1∧¬ (ty=0∧(bn:Int)=0))∨(op≠2∧name≠[])):=by rintro (h | h);exact hz1 h;exact h.1 c2
  refine gK false (b:=false) (rfl) ?_
  refine rs [] 1 0 ?_
  exact gU [.code (seqR (seqR (Tryz.f43.body.getD .skip)))] [(1,.ptr gz 0)] [(gz,bK 29 5 (xA op ty (bn:Int) name a n cap))] (gz+1) (gA hγ0) (tail hz)
 refine gS 23 (x := .bool (!(intEq op 2))) (.bool true) (by rw [eq_f c2];rfl) ?_
 refine gS 24 (x := .bool (!(intEq op 2))) (.bool true) (by rw [eq_f c2];rfl) ?_
 refine rk ?_
 by_cases hnm:name=[]
 ·
  have hb:Sy.bEqL name []=true:=(bEq_nil name).2 hnm
  have hz:¬ ((op≠1∧¬ (ty=0∧(bn:Int)=0))∨(op≠2∧name≠[])):=by rintro (h | h);exact hz1 h;exact h.2 hnm
  refine gK false (b:=(!(Sy.bEqL name []))) (by rw [hb];rfl) ?_
  refine rs [] 1 0 ?_
  exact gU [.code (seqR (seqR (Tryz.f43.body.getD .skip)))] [(1,.ptr gz 0)] [(gz,bK 29 5 (xA op ty (bn:Int) name a n cap))] (gz+1) (gA hγ0) (tail hz)
 have hb:Sy.bEqL name []=false:=by rw [← Bool.not_eq_true,bEq_nil];exact hnm
 refine gK true (b:=(!(Sy.bEqL name []))) (by rw [hb];rfl) ?_
 refine rk ?_
 have hno:=exT_no (op:=op) (ty:=ty) (bits:=(bn:Int)) (name:=name) (kids:=kids) (.inr ⟨c2,hnm⟩)
 refine gR (.tuple #[nT [],.bool false]) (fun W hk=>⟨[],by rw [hno];rfl,(fun t ht=>by rw [hno] at ht;cases ht),hk.below⟩)
theorem rexprC:∀ N,RexC N:=by
 intro N
 induction N with
 | zero=>intro e cs w h;have:=wgt_pos e;omega
 | succ N ihN=>
   intro e cs w hN hB hR hat
   obtain ⟨op,ty,bits,name,kids⟩:=e
   simp only [ExAt] at hat
   obtain ⟨a,cap,xs,rfl,hsl,hks⟩:=hat
   simp only [exR] at hR
   obtain ⟨hop,hty,hbit,hkR⟩:=hR
   obtain ⟨bn,rfl⟩:∃ bn:Nat,bits=(bn:Int):=⟨bits.toNat,by omega⟩
   simp only [wgt] at hN
   simp only [exB] at hB
   exact rexpr_front N ihN op ty bn name kids a kids.length cap xs w rfl hN hB (by omega) hkR hsl hks
end
section
open Go.Sy in
set_option maxRecDepth 100000 in
theorem rExpr_any (e:Ex) (cs:List Value) (w:World) (hbd:wgt e≤1099511627776) (hB:exB e≤1000000000000) (hR:exR e) (hat:ExAt (·<w.heap.size) w e cs):
  CB 20 #[.agg cs.toArray] w (.tuple #[nT (exprS e),nI (exprE e)]):=by
 obtain ⟨op,ty,bits,name,kids⟩:=e
 have hat0:=hat
 simp only [ExAt] at hat0
 obtain ⟨a,cap,xs,rfl,_,_⟩:=hat0
 refine eN [xV op ty bits name a kids.length cap] Tryz.func20 (fun γ0 hγ0=>?_)
 refine rk ?_
 refine gX [xV op ty bits name a kids.length cap] (nI (hgt (Ex.mk op ty bits name kids):Nat)) (fun W hk=>kheight_any _ (Ex.mk op ty bits name kids) (xL op ty bits name a kids.length cap) W (Nat.le_refl _) hbd (hat.keep hk (kU hk))) ?_
 refine rk ?_
 by_cases hh:32<hgt (Ex.mk op ty bits name kids)
 ·
  refine kx 32 ((hgt (Ex.mk op ty bits name kids):Nat):Int) (by omega) ?_
  refine rs [] 60 1 ?_
  have hv:ex32 (Ex.mk op ty bits name kids)=none:=by unfold ex32;rw [if_neg (by omega)]
  exact gR (.tuple #[nT [],nI 2]) (fun W hk=>⟨by unfold exprS exprE;rw [hv],hk.below⟩)
 refine ky 32 ((hgt (Ex.mk op ty bits name kids):Nat):Int) (by omega) ?_
 refine rk ?_
 have he:ex32 (Ex.mk op ty bits name kids)=exT (Ex.mk op ty bits name kids):=by unfold ex32;rw [if_pos (by omega)]
 cases hx:exT (Ex.mk op ty bits name kids) with
 | none=>
   refine gE [xV op ty bits name a kids.length cap] (fun v=>∃ s,v = .tuple #[nT s,.bool false]∧∀ u,exT (Ex.mk op ty bits name kids)=some u→s=u) (fun W hk=>by
    have:=rexprC _ (Ex.mk op ty bits name kids) (xL op ty bits name a kids.length cap) W (Nat.le_refl _) hB hR (hat.keep hk (kU hk))
    rw [hx] at this ⊢
    exact this.mono fun e w' ⟨s,h1,h2,h3⟩=>⟨_,h1,⟨s,rfl,h2⟩,h3⟩) ?_
   rintro v w2 ⟨s,rfl,hs⟩ hk2
   rw [hx] at he
   refine rs [] 60 5 ?_
   exact gR (.tuple #[nT [],nI 2]) (fun W hk=>⟨by unfold exprS exprE;rw [he],hk.below⟩)
 | some u=>
   refine gE [xV op ty bits name a kids.length cap] (fun v=>∃ s,v = .tuple #[nT s,.bool true]∧∀ u,exT (Ex.mk op ty bits name kids)=some u→s=u) (fun W hk=>by
    have:=rexprC _ (Ex.mk op ty bits name kids) (xL op ty bits name a kids.length cap) W (Nat.le_refl _) hB hR (hat.keep hk (kU hk))
    rw [hx] at this ⊢
    exact this.mono fun e w' ⟨s,h1,h2,h3⟩=>⟨_,h1,⟨s,rfl,h2⟩,h3⟩) ?_
   rintro v w2 ⟨s,rfl,hs⟩ hk2
   rw [hx] at he
   have hs:=hs u hx
   subst hs
   refine rs [] 60 5 ?_
   exact gR (.tuple #[nT s,nI 0]) (fun W hk=>⟨by unfold exprS exprE;rw [he],hk.below⟩)
end
section
theorem valT_len {ty:Int} {n:Nat} {t:List UInt8} (hn:n<18446744073709551616) (h:valT ty (n:Int)=some t):t.length≤1048601:=by
 by_cases h1:ty=1
 · subst h1
   by_cases hz:9223372036854775808<n
   · obtain ⟨m,hm⟩:∃ m:Nat,(m:Int)=18446744073709551616 - (n:Int):=⟨18446744073709551616 - n,by omega⟩
     rw [valT_neg hz hm] at h
     injection h with h
     have:=decDigits_len20 (n:=m) (by omega)
     rw [← h]
     simp
     omega
   · rw [valT_one hz] at h
     have:=lit_len hn h
     omega
 by_cases h3:ty=3
 · subst h3
   by_cases hz:n<9223372036854775808
   · rw [valT_real hz] at h
     have:=lit_len hn h
     omega
   · obtain ⟨m,hm⟩:∃ m:Nat,(m:Int)=(n:Int) - signBits:=⟨n - 9223372036854775808,by unfold signBits;omega⟩
     have hm2:(m:Int)=(n:Int) - 9223372036854775808:=hm
     by_cases hq:(m:Int)=nanBits
     · rw [valT_rnan hz hm hq] at h
       cases h
     · rw [valT_rneg hz hm hq,Option.map_eq_some_iff] at h
       obtain ⟨s,hs,rfl⟩:=h
       have:=lit_len (n:=m) (by omega) hs
       simp
       omega
 rw [valT_other h1 h3] at h
 have:=lit_len hn h
 omega
theorem vrT_len {wd:List UInt8} (hwd:wd.length≤100) {v:Vr} (hR:vrR v) {t:List UInt8} (h:vrT wd v=some t):t.length≤1048900*vrB v:=by
 obtain ⟨_,h1,h2⟩:=hR
 unfold vrT at h
 split at h
 rotate_left
 · cases h
 rw [Option.map_eq_some_iff] at h
 obtain ⟨s,hs,rfl⟩:=h
 obtain ⟨n,hn⟩:∃ n:Nat,v.bits=(n:Int):=⟨v.bits.toNat,by omega⟩
 rw [hn] at hs
 have:=valT_len (by omega) hs
 have h4:(typT v.ty).length≤4:=by
  unfold typT
  by_cases c:v.ty=2
  · rw [if_pos c];decide
  · rw [if_neg c]
    by_cases d:v.ty=3
    · rw [if_pos d];decide
    · rw [if_neg d];decide
 unfold vrB
 simp only [List.length_append,List.length_cons,List.length_nil]
 omega
theorem varsT_len {wd:List UInt8} (hwd:wd.length≤100):∀ {l:List Vr} {t:List UInt8},(∀ v∈l,vrR v)→allT (vrT wd) l=some t→t.length≤1048900*sumN vrB l
 | [],t,_,h=>by
   simp only [allT,Option.some.injEq] at h
   subst h
   simp
 | v::l,t,hR,h=>by
   simp only [allT] at h
   split at h
   · cases h
   rename_i a ha
   split at h
   · cases h
   rename_i b hb
   injection h with h
   have h1:=vrT_len hwd (hR v (by simp)) ha
   have h2:=varsT_len hwd (fun x hx=>hR x (by simp [hx])) hb
   rw [← h]
   simp only [sumN,List.length_append]
   omega
end
section
mutual
theorem stT_len:∀ (x:St) {deep:Nat} {t:List UInt8},deep≤32→stR x→stT deep x=some t→t.length≤1048900*stB x
 | .mk kind name e body els,deep,t,hd,hR,h=>by
   obtain ⟨_,hRe,hRb,hRl⟩:=hR
   simp only [stB]
   have hm:=margT_len deep
   rcases stT_inv h with ⟨rfl,te,hte,rfl⟩ | ⟨rfl,rfl⟩ | ⟨rfl,rfl⟩ | ⟨rfl,te,hte,rfl⟩ | ⟨rfl,rfl⟩ | ⟨rfl,te,tb,tl,hte,htb,htl,rfl⟩ | ⟨rfl,te,tb,tl,hte,htb,htl,rfl⟩
   · have:=exT_len e hRe hte
     simp only [List.length_append,List.length_cons,List.length_nil]
     omega
   · simp only [List.length_append,List.length_cons,List.length_nil]
     omega
   · simp only [List.length_append,List.length_cons,List.length_nil]
     omega
   · have:=exT_len e hRe hte
     simp only [List.length_append,List.length_cons,List.length_nil]
     omega
   · simp only [List.length_append,List.length_cons,List.length_nil]
     omega
   all_goals
    have h1:=exT_len e hRe hte
    have h2:=stsT_len body hRb htb
    have h3:=stsT_len els hRl htl
    have hw5:(wdT 5).length=2:=rfl
    have hw6:(wdT 6).length=5:=rfl
    unfold nsT
    by_cases hz:0<els.length
    · rw [if_pos hz]
      simp only [List.length_append,List.length_cons,List.length_nil]
      omega
    · rw [if_neg hz]
      simp only [List.length_append,List.length_cons,List.length_nil]
      omega
theorem stsT_len:∀ (L:List St) {deep:Nat} {t:List UInt8},stRs L→stsT deep L=some t→t.length≤1048900*stBs L
 | [],deep,t,_,h=>by
   simp only [stsT,Option.some.injEq] at h
   subst h
   simp
 | x::l,deep,t,hR,h=>by
   simp only [stsT] at h
   split at h
   · cases h
   split at h
   · cases h
   rename_i hd _ a ha
   split at h
   · cases h
   rename_i b hb
   injection h with h
   simp only [stRs] at hR
   have h1:=stT_len x (by omega) hR.1 ha
   have h2:=stsT_len l hR.2 hb
   rw [← h]
   simp only [stBs,List.length_append]
   omega
end
end
section
theorem allT_len {α:Type} {f:α→Option (List UInt8)} {μ:α→Nat}:∀ {l:List α} {t:List UInt8},(∀ x∈l,∀ u,f x=some u→u.length≤1048900*μ x)→allT f l=some t→t.length≤1048900*sumN μ l
 | [],t,_,h=>by
   simp only [allT,Option.some.injEq] at h
   subst h
   simp
 | x::l,t,hf,h=>by
   simp only [allT] at h
   split at h
   · cases h
   rename_i a ha
   split at h
   · cases h
   rename_i b hb
   injection h with h
   have h1:=hf x (by simp) a ha
   have h2:=allT_len (fun y hy=>hf y (by simp [hy])) hb
   rw [← h]
   simp only [sumN,List.length_append]
   omega
theorem mxT_len {m t:List UInt8} (h:mxT m=some t):t.length≤1048900*txB m:=by
 rw [mxT_inv h]
 unfold txB
 simp only [List.length_append,List.length_cons,List.length_nil]
 omega
theorem thT_len {x:Th} {t:List UInt8} (hR:thR x) (h:thT x=some t):t.length≤1048900*thB x:=by
 obtain ⟨a,b,ha,hb,rfl⟩:=thT_inv h
 have h1:=varsT_len (by decide) hR.1 ha
 have h2:=stsT_len x.body hR.2 hb
 unfold thB
 simp only [List.length_append,List.length_cons,List.length_nil]
 omega
theorem pgT_len {p:Pg} {t:List UInt8} (hR:pgR p) (h:pgT p=some t):t.length≤1048900*pgB p:=by
 obtain ⟨a,b,c,ha,hb,hc,rfl⟩:=pgT_inv h
 have h1:=varsT_len (by decide) hR.1 ha
 have h2:=allT_len (μ:=txB) (fun m _ u hu=>mxT_len hu) hb
 have h3:=allT_len (μ:=thB) (fun x hx u hu=>thT_len (hR.2 x hx) hu) hc
 unfold pgB
 simp only [List.length_append]
 omega
end
section
set_option maxRecDepth 100000
noncomputable def okD (p:Pg):Bool:=!(Sy.intEq (printE p) 2)
theorem okD_some (p:Pg):okD p=(pgT p).isSome:=by
 unfold okD printE
 cases h:pgT p with
 | none=>rw [eq_t rfl];rfl
 | some t=>
   simp only
   split <;> rw [eq_f (by decide)] <;> rfl
open Go.Sy
theorem cprinted_any (p:Pg) {pa pb pd:Option Addr} {vn qm qt qc qd qe:Nat} (w:World) (ht:Tab w) (hB:pgB p≤100000000) (hR:pgR p) (hp:PgAt (·<w.heap.size) w p [.slice pa vn qc,.slice pb qm qd,.slice pd qt qe]):
  CB 74 #[.agg #[.slice pa vn qc,.slice pb qm qd,.slice pd qt qe]] w (.bool (okD p)):=by
 have hB0:=hB
 have hB:pgB p≤400000000000:=by omega
 refine eN [.agg #[.slice pa vn qc,.slice pb qm qd,.slice pd qt qe]] Tryz.func74 (fun γ0 hγ0=>?_)
 refine rk ?_
 refine gX [.agg #[.slice pa vn qc,.slice pb qm qd,.slice pd qt qe]] (.tuple #[nT (printS p),nI (printE p)]) (fun W hk=>tPrint_any p [.slice pa vn qc,.slice pb qm qd,.slice pd qt qe] W hB hR (ht.below hk.below) (fun t h=>by have:=pgT_len hR h;omega) (hp.keep hk (kU hk))) ?_
 refine rk ?_
 exact gR (.bool (!(intEq (printE p) 2))) (fun W hk=>⟨by unfold okD;rfl,hk.below⟩)
def alS:St→St
 | .mk k n e b l => .mk k n e (if k=5∨k=6 then [] else b) (if k=5 then [] else l)
def onePg (s:St):Pg:=⟨[],[],[⟨[116],[],[s]⟩]⟩
theorem sl_nil (F:Nat→Prop) (w:World) (a:Option Addr) (sz:Nat):Sy.SlAt F w a 0 sz []:=⟨by simp,.inl rfl⟩
theorem pg_one {F:Nat→Prop} {w:World} {s:St} {c:List Value} {k1 k2:Option Addr} {cap1 cap2:Nat} (hs:StAt F w s c) (h1:Sy.SlAt F w k1 1 9 c) (h2:Sy.SlAt F w k2 1 3 [.string (str [116]),.slice none 0 0,.slice k1 1 cap1]):
  PgAt F w (onePg s) [.slice none 0 0,.slice none 0 0,.slice k2 1 cap2]:=by
 refine ⟨none,0,[],none,0,[],k2,cap2,_,rfl,sl_nil _ _ _ _,rfl,sl_nil _ _ _ _,rfl,h2,_,[],(List.append_nil _).symm,⟨none,0,[],k1,cap1,c,rfl,sl_nil _ _ _ _,rfl,h1,?_⟩,rfl⟩
 exact ⟨c,[],(List.append_nil _).symm,hs,rfl⟩
theorem calone_any0 (us:List UInt8) (uK:Int) (k5:¬ uK=5) (k6:¬ uK=6) (uo ut uv:Int) (un:List UInt8) (uk:List Ex) (uB uL:List St) (uj ui uf:Option Addr) (uh uw ug:Nat) (ubx ulx:List Value) (w:World) (ht:Tab w)
  (uhe:ExAt (·<w.heap.size) w (Ex.mk uo ut uv un uk) (xL uo ut uv un uf uk.length ug)) (uhbs:SlAt (·<w.heap.size) w uj uB.length 9 ubx) (uhbt:StsAt (·<w.heap.size) w uB ubx) (uhls:SlAt (·<w.heap.size) w ui uL.length 9 ulx) (uhlt:StsAt (·<w.heap.size) w uL ulx)
  (hBd:pgB (onePg (alS (.mk uK us (Ex.mk uo ut uv un uk) uB uL)))≤100000000) (hRR:pgR (onePg (alS (.mk uK us (Ex.mk uo ut uv un uk) uB uL)))):
  CB 36 #[yV uK us uo ut uv un uf uk.length ug uj uB.length uh ui uL.length uw] w (.bool (okD (onePg (alS (.mk uK us (Ex.mk uo ut uv un uk) uB uL))))):=by
 refine eN [yV uK us uo ut uv un uf uk.length ug uj uB.length uh ui uL.length uw] Tryz.func36 (fun γ0 hγ0=>?_)
 refine rs [6] 60 0 ?_
 refine gF 5 uK 5 k5 ?_
 refine rk ?_
 refine kw uK 6 k6 ?_
 refine rk ?_
 refine kw uK 5 k5 ?_
 refine rs [18] 60 0 ?_
 refine good_giveC 17 (gz+1) 91 9 1 (yL uK us uo ut uv un uf uk.length ug uj uB.length uh ui uL.length uw) (by kernel_rfl) (by kernel_rfl) rfl (fun k1 cap1 w1 B1 hk1 hB01 hB1 hs1=>?_)
 refine rs [20] 60 0 ?_
 refine good_giveC 19 (gz+2) 55 3 1 [nT [116],.slice none 0 0,.slice (some ⟨k1,0,none⟩) 1 cap1] (by kernel_rfl) (by kernel_rfl) rfl (fun k2 cap2 w2 B2 hk2 hB12 hB2 hs2=>?_)
 have hk02:Keep (·<w.heap.size) w w2:=hk1.trans (hk2.mono hB01)
 have hB02:∀ k,k<w.heap.size→B2 k:=fun k h=>hB12 k (hB01 k h)
 have hs1:=(hs1.keep hk2).mono hB12
 have hst:StAt B2 w2 (alS (.mk uK us (Ex.mk uo ut uv un uk) uB uL)) (yL uK us uo ut uv un uf uk.length ug uj uB.length uh ui uL.length uw):=by
  have e:alS (.mk uK us (Ex.mk uo ut uv un uk) uB uL) = .mk uK us (Ex.mk uo ut uv un uk) uB uL:=by simp only [alS];rw [if_neg (fun h=>h.elim k5 k6),if_neg k5]
  rw [e]
  exact ⟨_,uj,uh,ubx,ui,uw,ulx,rfl,uhe.keep hk02 hB02,(uhbs.keep hk02).mono hB02,StsAt_ls.2 ((StsAt_ls.1 uhbt).imp fun _ _ h=>h.keep hk02 hB02),(uhls.keep hk02).mono hB02,StsAt_ls.2 ((StsAt_ls.1 uhlt).imp fun _ _ h=>h.keep hk02 hB02)⟩
 have hpg:=pg_one hst hs1 hs2 (cap2:=cap2)
 refine rk ?_
 refine gX [.agg #[.slice none 0 0,.slice none 0 0,.slice (some ⟨k2,0,none⟩) 1 cap2]] (.bool (okD (onePg (alS (.mk uK us (Ex.mk uo ut uv un uk) uB uL))))) (fun W hk=>cprinted_any _ W (ht.below (hk02.trans (hk.mono hB02)).below) hBd hRR (hpg.keep hk fun k h=>Nat.lt_of_lt_of_le (hB2 k h) hk.size)) ?_
 refine rs [] 60 2 ?_
 exact gR (.bool (okD (onePg (alS (.mk uK us (Ex.mk uo ut uv un uk) uB uL))))) (fun W hk=>⟨rfl,(hk02.trans (hk.mono hB02)).below⟩)
end
section
mutual
def nmE:Ex→List (List UInt8)
 | .mk op _ _ name kids=>(if op=2 then [name] else [])++nmEs kids
def nmEs:List Ex→List (List UInt8)
 | []=>[]
 | e::l=>nmE e++nmEs l
end
section
variable {φ:List UInt8→List UInt8} {nu:List UInt8}
section
variable {th th':Thg}
end
end
section
variable {φ:List UInt8→List UInt8}
end
end
section
structure WkI (w:World) (B:Nat→Prop) (w1:World):Prop where
 keep:Sy.Keep (·<w.heap.size) w w1
 old:∀ k,k<w.heap.size→B k
 lt:∀ k,B k→k<w1.heap.size
theorem WkI.refl (w:World):WkI w (·<w.heap.size) w:=⟨Sy.Keep.refl _ _,fun k h=>h,fun k h=>h⟩
theorem WkI.step {w:World} {B B':Nat→Prop} {w1 w2:World} (h:WkI w B w1) (hk:Sy.Keep B w1 w2) (hB:∀ k,B k→B' k) (hB':∀ k,B' k→k<w2.heap.size):WkI w B' w2:=⟨h.keep.trans (hk.mono h.old),fun k hk=>hB k (h.old k hk),hB'⟩
theorem WkI.to {w:World} {B:Nat→Prop} {w1 V:World} (h:WkI w B w1) (hk:Sy.Keep B w1 V):Sy.Keep (·<w.heap.size) w V:=h.keep.trans (hk.mono h.old)
theorem WkI.up {w:World} {B:Nat→Prop} {w1 V:World} (h:WkI w B w1) (hk:Sy.Keep B w1 V) (k:Nat) (hb:k<w.heap.size):k<V.heap.size:=Nat.lt_of_lt_of_le hb (h.to hk).size
end
section
def strsV (l:List (List UInt8)):List Value:=l.map fun s => .string (str s)
theorem strsV_app (l r:List (List UInt8)):strsV (l++r)=strsV l++strsV r:=List.map_append
theorem strsV_len (l:List (List UInt8)):(strsV l).length=l.length:=List.length_map _
theorem strsV_one (l:List (List UInt8)):(strsV l).all (fun v=>v.oneCell')=true:=by
 rw [List.all_eq_true]
 intro v hv
 obtain ⟨s,_,rfl⟩:=List.mem_map.1 hv
 rfl
def NmPr (l:List (List UInt8)) (w:World) (v:Value) (w':World):Prop:=∃ a cap,v = .slice a l.length cap∧Sy.SlAt (NewIn w w') w' a l.length 1 (strsV l)
theorem nmEs_app:∀ (l r:List Ex),nmEs (l++r)=nmEs l++nmEs r
 | [],r=>rfl
 | e::l,r=>by simp only [List.cons_append,nmEs];rw [nmEs_app l r,List.append_assoc]
mutual
theorem nmE_len:∀ e:Ex,(nmE e).length≤wgt e
 | .mk op ty bits name kids=>by
   have:=nmEs_len kids
   simp only [nmE,wgt,List.length_append]
   split <;> simp <;> omega
theorem nmEs_len:∀ l:List Ex,(nmEs l).length≤wgts l
 | []=>Nat.le_refl _
 | e::l=>by
   have h1:=nmE_len e
   have h2:=nmEs_len l
   simp only [nmEs,wgts,List.length_append]
   omega
end
open Go.Sy in
set_option maxRecDepth 100000 in
theorem dnames_any:∀ (N:Nat) (e:Ex) (cs:List Value) (w:World),wgt e≤N→wgt e≤1000000000000→ExAt (·<w.heap.size) w e cs→
  Calls Tryz.prog 22 #[.agg cs.toArray] w fun r w'=>∃ v,r = .returned v∧NmPr (nmE e) w v w'∧Below w.heap.size w w':=by
 intro N
 induction N with
 | zero=>intro e cs w h;have:=wgt_pos e;omega
 | succ N ihN=>
   intro e cs w hN hbd he
   obtain ⟨op,ty,bits,name,kids⟩:=e
   simp only [ExAt] at he
   obtain ⟨a,cap,xs,rfl,hsl,hks⟩:=he
   obtain ⟨n,hn⟩:∃ n,n=kids.length:=⟨_,rfl⟩
   rw [← hn] at hsl ⊢
   simp only [wgt] at hN hbd
   have hkl:=wgts_len kids
   obtain ⟨own,hown⟩:∃ own:List (List UInt8),own=if op=2 then [name] else []:=⟨_,rfl⟩
   have hol:own.length≤1:=by rw [hown];split <;> simp
   have hnm:nmE (.mk op ty bits name kids)=own++nmEs kids:=by simp only [nmE];rw [hown]
   have tail:∀ (γ0:Gm),(∀ b,gz≤b→γ0 b=none)→∀ (X:AV) (ob:Option Blk),RowAt 9 1 (gz+1) own.length (strsV own) X ob→
     Go.Sy.Good Tryz.prog (·<w.heap.size) w γ0 Tryz.f22.ntmps (bodyPostD Tryz.prog Tryz.f22 (fun r w'=>∃ v,r = .returned v∧NmPr (nmE (.mk op ty bits name kids)) w v w'∧Below w.heap.size w w')) ⟨[.code (seqR (seqR (seqR (Tryz.f22.body.getD .skip))))],⟨mkT [(1,.ptr gz 0),(3,X)],mkH [(gz,bK 29 5 (xA op ty bits name a n cap)),((gz+1),ob)],gz+2,[]⟩⟩:=by
    intro γ0 hγ0 X0 ob0 hrow0
    refine rk ?_
    refine good_toLp ?_
    refine good_loopB (fun i:CI Ex=>i.l2.length) (fun i B w1=>kids=i.l1++i.l2∧i.xs=strsV (own++nmEs i.l1)∧RowAt 9 1 (gz+1) (own++nmEs i.l1).length i.xs i.X i.ob∧WkI w B w1) (fun i=>⟨mkT [(1,.ptr gz 0),(3,i.X),(4,vI (i.l1.length:Int))],mkH [(gz,bK 29 5 (xA op ty bits name a n cap)),((gz+1),i.ob)],gz+2,[]⟩)
     ⟨[],kids,strsV own,X0,ob0⟩ ⟨rfl,by simp [nmEs],by simpa [nmEs] using hrow0,.refl w⟩ (by kernel_rfl)
     (fun h=>good_sub _ [(1,.ptr gz 0),(3,X0),(4,vI (([]:List Ex).length:Int))] [(gz,bK 29 5 (xA op ty bits name a n cap)),((gz+1),ob0)] (gz+2) rfl (by kernel_rfl) (by kernel_rfl) (allLtT_cons (by kernel_rfl) (allLtT_cons (hrow0.lt (by omega)) (allLtT_cons (by kernel_rfl) rfl))) (by kernel_rfl) (allLtH_cons (by kernel_rfl) (by kernel_rfl) (allLtH_row (by kernel_rfl) hrow0 rfl)) (fun b hb=>hγ0 b (by omega)) (by kernel_rfl) h) ?_
    rintro ⟨l1,l2,xk,X,ob⟩ B5 w5 ⟨hsp,hxk,hrow,hN0⟩ ih
    simp only at hsp hxk hrow
    have hN:WkI w B5 w5:=hN0
    clear hN0
    subst hxk
    have hn2:n=l1.length+l2.length:=by rw [hn,hsp,List.length_append]
    have hw1:wgts kids=wgts l1+wgts l2:=by rw [hsp,wgts_app]
    refine rk ?_
    cases l2 with
    | nil=>
      have hn3:n=l1.length:=by rw [hn2];simp
      have hl1:l1=kids:=by rw [hsp];simp
      refine ky (l1.length:Int) (n:Int) (by omega) ?_
      refine rk ?_
      exact good_endRow (base:=w.heap.size) hrow (by kernel_rfl) (by kernel_rfl) hN.old (fun W a' cap' hk hsl=>⟨_,rfl,⟨a',cap',by rw [hnm,← hl1],by rw [hnm,← hl1];exact hsl⟩,(hN.to hk).below⟩)
    | cons s l3=>
      have hin:l1.length<n:=by rw [hn2,List.length_cons];omega
      have hks2:=ExsAt_ls.1 hks
      rw [hsp] at hks2
      obtain ⟨c,hc,hcell⟩:=hks2.at_ (fun _ _ h=>h.len)
      have hsl0:=(hsl.keep hN.keep).mono hN.old
      have hcn:=hc.keep hN.keep hN.old
      simp only [wgts] at hw1
      have hnl:=nmE_len s
      have hnl1:=nmEs_len l1
      have hc0:=hc
      obtain ⟨op2,ty2,bits2,name2,kids2⟩:=s
      simp only [ExAt] at hc
      obtain ⟨a2,cap2,xs2,rfl,_⟩:=hc
      refine kx (l1.length:Int) (n:Int) (by omega) ?_
      refine rk ?_
      refine gI 27 29 cap l1.length hsl0 hin ?_
      refine rk ?_
      refine gD 29 5 (xL op2 ty2 bits2 name2 a2 kids2.length cap2) l1.length 0 hsl0 rfl hcell ?_
      refine rk ?_
      refine gM [xV op2 ty2 bits2 name2 a2 kids2.length cap2] (fun W hk=>ihN (Ex.mk op2 ty2 bits2 name2 kids2) (xL op2 ty2 bits2 name2 a2 kids2.length cap2) W (by omega) (by omega) (hc0.keep (hN.to hk) (hN.up hk))) ?_
      rintro V r V' B6 hkV ⟨a6,cap6,rfl,hsl6⟩ hbl6 hk56 hB56 hBn6 hB6
      have hN6:=hN.step hk56 hB56 hB6
      refine rs [27] 60 0 ?_
      refine good_appS (t:=30) (e:=9) 1 16 (gz+1) (own++nmEs l1).length (nmE (Ex.mk op2 ty2 bits2 name2 kids2)).length (strsV (own++nmEs l1)) X ob a6 cap6 (strsV (nmE (Ex.mk op2 ty2 bits2 name2 kids2))) [3,20] (by kernel_rfl) (by kernel_rfl) (by kernel_rfl) (by kernel_rfl) (by kernel_rfl) hrow (by kernel_rfl) hsl6 (fun k h=>hBn6 k h.1 h.2) (fun k h=>h.2) (strsV_one _) (by rw [List.length_append];omega) (hγ0 _ (by omega)) (by kernel_rfl) (by kernel_rfl) (by kernel_rfl) (by kernel_rfl) (by kernel_rfl) (fun X2 ob2 hrow2=>?_)
      refine rk ?_
      refine gJ 4 l1 (Ex.mk op2 ty2 bits2 name2 kids2) (by omega) ?_
      have e1:own++nmEs (l1++[(Ex.mk op2 ty2 bits2 name2 kids2)])=own++nmEs l1++nmE (Ex.mk op2 ty2 bits2 name2 kids2):=by rw [nmEs_app];simp [nmEs]
      have hr2:RowAt 9 1 (gz+1) (own++nmEs (l1++[(Ex.mk op2 ty2 bits2 name2 kids2)])).length (strsV (own++nmEs (l1++[(Ex.mk op2 ty2 bits2 name2 kids2)]))) X2 ob2:=by rw [e1,strsV_app,List.length_append];exact hrow2
      exact good_sub _ [(1,.ptr gz 0),(3,X2),(4,vI ((l1++[(Ex.mk op2 ty2 bits2 name2 kids2)]).length:Int))] [(gz,bK 29 5 (xA op ty bits name a n cap)),((gz+1),ob2)] (gz+2) (by kernel_rfl) (by kernel_rfl) (by kernel_rfl) (allLtT_cons (by kernel_rfl) (allLtT_cons (hr2.lt (by omega)) (allLtT_cons (by kernel_rfl) rfl))) (by kernel_rfl) (allLtH_cons (by kernel_rfl) (by kernel_rfl) (allLtH_row (by kernel_rfl) hr2 rfl)) (fun b hb=>hγ0 b (by omega)) (by kernel_rfl) (ih ⟨l1++[(Ex.mk op2 ty2 bits2 name2 kids2)],l3,_,X2,ob2⟩ B6 V' ⟨by show kids=(l1++[_])++l3;rw [hsp];simp,rfl,hr2,hN6⟩ lS1)
   refine eN [xV op ty bits name a n cap] Tryz.func22 (fun γ0 hγ0=>?_)
   have hγ0:∀ b,gz≤b→γ0 b=none:=hγ0
   refine rk ?_
   by_cases ho:op=2
   ·
    refine kz op 2 ho ?_
    have hown1:own=[name]:=by rw [hown,if_pos ho]
    subst hown1
    refine good_sub _ [(1,.ptr gz 0),(3,vL none 0 0)] [(gz,bK 29 5 (xA op ty bits name a n cap))] (gz+2) rfl (by kernel_rfl) (by kernel_rfl) (by kernel_rfl) (by kernel_rfl) (by kernel_rfl) (fun b hb=>hγ0 b (by omega)) (by kernel_rfl) ?_
    refine rs [12] 60 0 ?_
    refine good_app (t:=30) (e:=9) (.slg (gz+2) 0 1 1) 1 16 (gz+1) 0 0 [] (vL none 0 0) none [nT name] [3,8] (by kernel_rfl) (by kernel_rfl) (by kernel_rfl) (by kernel_rfl) (RowAt.nil _ _ _) (by kernel_rfl) (by kernel_rfl) (by kernel_rfl)
     (by unfold maxLen;omega) (by omega) (hγ0 _ (by omega)) (by kernel_rfl) (by kernel_rfl) (by kernel_rfl) (by kernel_rfl) (by kernel_rfl) (fun X2 ob2 hrow2=>?_)
    rcases hrow2.2 with ⟨_,_,h0⟩ | ⟨rfl,rfl⟩
    · omega
    refine rs [] 2 0 ?_
    exact good_sub [.code (seqR (seqR (seqR (Tryz.f22.body.getD .skip))))] [(1,.ptr gz 0),(3,.slg (gz+1) 0 (0+(0+1)) 1)] [(gz,bK 29 5 (xA op ty bits name a n cap)),((gz+1),some (.row 9 ([]++[Value.string (str name)])))] (gz+2) (by kernel_rfl) (by kernel_rfl) (by kernel_rfl) (allLtT_cons (by kernel_rfl) (allLtT_cons (by kernel_rfl) rfl)) (by kernel_rfl) (allLtH_cons (by kernel_rfl) (by kernel_rfl) (allLtH_cons (by kernel_rfl) (by kernel_rfl) rfl)) (fun b hb=>hγ0 b (by omega)) (by kernel_rfl) (tail γ0 hγ0 (.slg (gz+1) 0 (0+(0+1)) 1) (some (.row 9 ([]++[Value.string (str name)]))) (show RowAt 9 1 (gz+1) (0+(0+1)) ([]++[Value.string (str name)]) _ _ from hrow2))
   refine kw op 2 ho ?_
   have hown1:own=[]:=by rw [hown,if_neg ho]
   subst hown1
   refine rs [] 1 0 ?_
   exact good_sub [.code (seqR (seqR (seqR (Tryz.f22.body.getD .skip))))] [(1,.ptr gz 0),(3,vL none 0 0)] [(gz,bK 29 5 (xA op ty bits name a n cap)),((gz+1),none)] (gz+2) (by kernel_rfl) (by kernel_rfl) (by kernel_rfl) (allLtT_cons (by kernel_rfl) (allLtT_cons (by kernel_rfl) rfl)) (by kernel_rfl) (allLtH_cons (by kernel_rfl) (by kernel_rfl) (allLtH_cons (by kernel_rfl) (by kernel_rfl) rfl)) (fun b hb=>hγ0 b (by omega)) (by kernel_rfl) (tail γ0 hγ0 _ _ (RowAt.nil _ _ _))
end
section
theorem sl_of {w:World} {a:Option Addr} {n sz:Nat} {xs:List Value} (h:Sy.SlAt (·<w.heap.size) w a n sz xs):Sl w sz a n xs:=by
 refine ⟨h.len,fun hn=>?_⟩
 rcases h.place with h1 | ⟨h1,h2,h3⟩
 · omega
 rw [h1]
 refine ⟨_,rfl,h2,fun j u hu=>?_⟩
 have:=h3 j u hu
 cases j with
 | zero=>simpa [Addr.add] using this
 | succ j=>simpa [Addr.add] using this
def lentW:List UInt8:=[108,101,110,116]
def lentS:List (List UInt8):=[lentW,lentW,lentW]
def lentT (l:List (List UInt8)) (j:Nat):List (List UInt8):=l++(lentS.take j++List.replicate (3 - j) [])
theorem lentT_set {l:List (List UInt8)} {n j:Nat} (hl:l.length=n) (hj:j<3):(lentT l j).set (n+j) lentW=lentT l (j+1):=by
 unfold lentT
 rw [List.set_append_right _ _ (by omega),show n+j - l.length=j by omega]
 congr 1
 rcases (show j=0∨j=1∨j=2 by omega) with rfl | rfl | rfl <;> rfl
theorem lentT_len (l:List (List UInt8)) (j:Nat) (hj:j≤3):(lentT l j).length=l.length+3:=by
 unfold lentT
 rw [List.length_append,List.length_append,List.length_take,List.length_replicate]
 simp [lentS];omega
theorem strsV_set (l:List (List UInt8)) (k:Nat) (s:List UInt8):(strsV l).toArray.setIfInBounds k (.string (str s))=(strsV (l.set k s)).toArray:=by
 apply Array.ext'
 simp [strsV,List.map_set]
theorem strsV_drop (l:List (List UInt8)) (k:Nat):(strsV l).drop k=strsV (l.drop k):=by simp [strsV]
theorem strsV_oneU (l:List (List UInt8)):∀ u∈strsV l,u.oneCell'=true:=List.all_eq_true.1 (strsV_one l)
theorem made_strs (n:Nat):madeCells (Value.string (str [])).cells (n*1)=(strsV (List.replicate n [])).toArray:=by
 apply Array.ext'
 rw [show (Value.string (str [])).cells=#[.string (str [])] from rfl,toList_madeCells_one,Nat.mul_one]
 simp [strsV]
theorem splice_lentT {l:List (List UInt8)} {n:Nat} (hl:l.length=n):splice (strsV (List.replicate (n+3) [])) 0 (strsV l)=strsV (lentT l 0):=by
 simp only [splice,List.take_zero,List.nil_append,Nat.zero_add,strsV_len,strsV_drop,← strsV_app]
 congr 1
 unfold lentT
 simp [hl]
theorem strInfo:(Tryz.prog.info? 9).map (fun i=>(i.zero,i.size,i.bytes))=some (some (.string (str [])),1,16):=by kernel_rfl
set_option maxRecDepth 100000 in
set_option maxHeartbeats 1600000 in
theorem lentT_any (A:Option Addr) (n c:Nat) (l:List (List UInt8)) (w:World) (ha:Sl w 1 A n (strsV l)) (hn:n≤1048576):
  Calls Tryz.prog 6 #[.slice A n c] w fun e w'=>e = .returned (.slice (some ⟨w.heap.size,0,none⟩) n (n+3))∧Blk w' w.heap.size 9 (strsV (l++lentS)).toArray∧Below w.heap.size w w':=by
 have hl:l.length=n:=by have:=ha.len1;simpa [strsV] using this
 have hmk:∀ W,(Instr.makeSlice 30 (.int .i64 ((n:Int)+3)) (.int .i64 ((n:Int)+3))).run Tryz.prog W = .ok (.slice (some ⟨W.heap.size,0,none⟩) (n+3) (n+3)) (W.alloc (.cells (strsV (List.replicate (n+3) [])).toArray 9)):=by
  intro W
  have:=run_make_zero (P:=Tryz.prog) 30 9 _ 1 16 Tryz.underlying30 strInfo .i64 .i64 (n+3) (by omega) (by omega) W
  rw [made_strs] at this
  exact this
 have HA:=Lib.hid ha
 have HL:=Lib.hid hl
 have hsz1:(Tryz.prog.info? 9).map (·.size)=some 1:=by kernel_rfl
 have HZ:=Lib.hid hsz1
 clear ha hl hsz1
 have hrun:=run_slice_hi (P:=Tryz.prog) 30 9 _ 1 16 Tryz.underlying30 strInfo (some ⟨w.heap.size,0,none⟩) (n+3) (n+3) .i64 (n:Int) (by omega) (by omega)
 rw [show ((n:Int)).toNat=n by omega] at hrun
 go_enter Tryz.func6,Tryz.ntmps6
 go_wp2_with (first | (refine wpList_copy_splice rfl _ _ _ _ rfl 9 Tryz.underlying30 HZ.out (some ⟨w.heap.size,0,none⟩) A (n+3) (n+3) n c rfl rfl w.heap.size 0 (strsV (List.replicate (n+3) [])) 9 (heap_alloc_new w _) (strsV l) (by rw [strsV_len,HL.out];exact (Nat.min_eq_left (by omega)).symm) (fun h0=>⟨rfl,by (rw [strsV_len,HL.out] at h0;obtain ⟨ad,e,-,hc⟩:=(HA.out.below ((Below.refl w.heap.size w).alloc (Nat.le_refl _) (.cells (strsV (List.replicate (n+3) [])).toArray 9))).2 h0;exact ⟨ad,e,hc⟩)⟩) (by rw [strsV_len,strsV_len,HL.out,List.length_replicate];omega) (strsV_oneU l) w.heap.size w ((Below.refl w.heap.size w).alloc (Nat.le_refl _) _) (Nat.le_refl _) ?_;intro w2 hg2 hb2;have HG2:=Lib.hid (show Blk w2 w.heap.size 9 (strsV (lentT l 0)).toArray∧Below w.heap.size w w2 from ⟨by have:=hg2.out;rw [splice_lentT HL.out] at this;exact this,hb2⟩);clear hg2 hb2))
 go_loopw [4] (fun i wr=>∃ j:Nat,j≤3∧i = .int .i64 (n+j:Nat)∧Blk wr w.heap.size 9 (strsV (lentT l j)).toArray∧Below w.heap.size w wr) (fun i _=>n+3 - (intOf i).toNat)
 case atStart=>exact ⟨0,by omega,by simp,HG2.out.1,HG2.out.2⟩
 case round=>
  clear HG2
  obtain ⟨j,hj,rfl,hblk,hb⟩:=hrel
  have HB:=Lib.hid (And.intro hblk hb)
  clear hblk hb
  by_cases hlt:j<3
  · have hc:(wr.cell? ⟨w.heap.size,n+j,none⟩).isSome=true:=by
     rw [HB.out.1.cell]
     simp [strsV,lentT_len l j hj,HL.out];omega
    obtain ⟨u,hu⟩:=Option.isSome_iff_exists.1 hc
    have hf:=HB.out.1.frozen (n+j)
    clear hc
    go_wp2_with fail
    have hset:=HB.out.1.set_ (n+j) (.string (str lentW))
    rw [strsV_set,lentT_set HL.out hlt] at hset
    exact ⟨⟨j+1,by omega,by go_num,hset,HB.out.2.setCell (p:=⟨w.heap.size,n+j,none⟩) (Nat.le_refl _) _⟩,by simp [intOf];omega⟩
  · obtain rfl:j=3:=by omega
    go_wp2_with fail
    go_ret
    exact ⟨rfl,HB.out.1,HB.out.2⟩
end
section
theorem strs_ls:∀ {L:List (List UInt8)} {xs:List Value},LsAt TxAt L xs↔xs=strsV L
 | [],xs=>by simp [LsAt,strsV]
 | s::L,xs=>by
   constructor
   · rintro ⟨c,r,rfl,hc,hr⟩
     rw [strs_ls.1 hr]
     have hc:c=_:=hc
     subst hc
     rfl
   · rintro rfl
     exact ⟨[.string (str s)],strsV L,rfl,rfl,strs_ls.2 rfl⟩
def VlAt (v:Int×Int) (cs:List Value):Prop:=cs=[.int .u8 v.1,.int .u64 v.2]
theorem VlAt.len {v:Int×Int} {cs:List Value} (h:VlAt v cs):cs.length=2:=by unfold VlAt at h;subst h;rfl
def vlR (v:Int×Int):Prop:=(0≤v.1∧v.1<256)∧(0≤v.2∧v.2<18446744073709551616)
def vlB (_:Int×Int):Nat:=3
section
variable {H:Type} {enc:TypeId×Value→H} {w:World} {held:Bool}
theorem ex_openA {n:Nat} {cs:List Value} {d:DataW H} {p:List MemPlace} (h:DataW.trod enc Tryz.prog w 0 (fun _=>true) held n 29 cs=some (d,p)):
  ∃ e,(ExAt (·<w.heap.size) w e cs∧exR e)∧exB e≤Rows.uptoBulk d:=
 let ⟨e,h1,h2,h3⟩:=ex_open _ (Nat.lt_succ_self _) h
 ⟨e,⟨h1,h2⟩,h3⟩
theorem strs_openL {n:Nat} {A:Option Addr} {m c:Nat} {d:DataW H} {p:List MemPlace} (h:DataW.trod enc Tryz.prog w 0 (fun _=>true) held n 30 [.slice A m c]=some (d,p)):
  ∃ x:List (List UInt8),(x.length=m∧m≤c∧c≤maxLen∧Sy.SlAt (·<w.heap.size) w A m 1 (strsV x))∧sumN txB x+1≤Rows.uptoBulk d:=by
 obtain ⟨a',n2',c',xs',L',r1,r2,r3,r4,r5,r6,r7⟩:=open_ls TxAt txB Tryz.underlying30 cell1.2.2.2.1 (by omega) h (fun n cs d' p' hlt hl5 ht=>by
  obtain ⟨l,g1,g2⟩:=str_open ht
  exact ⟨l,g1,by unfold txB;omega⟩)
 injection r1 with r1 r0
 injection r1 with r1 r2' r3'
 subst r1 r2' r3'
 rw [strs_ls.1 r6] at r5
 exact ⟨L',⟨r4,r2,r3,r5⟩,r7⟩
theorem vals_openL {n:Nat} {A:Option Addr} {m c:Nat} {d:DataW H} {p:List MemPlace} (h:DataW.trod enc Tryz.prog w 0 (fun _=>true) held n 31 [.slice A m c]=some (d,p)):
  ∃ x:List (Int×Int),(x.length=m∧m≤c∧c≤maxLen∧(∃ xs,Sy.SlAt (·<w.heap.size) w A m 2 xs∧LsAt VlAt x xs)∧∀ v∈x,vlR v)∧sumN vlB x+1≤Rows.uptoBulk d:=by
 obtain ⟨a',n2',c',xs',L',r1,r2,r3,r4,r5,r6,r7⟩:=open_ls (fun v cs=>VlAt v cs∧vlR v) vlB Tryz.underlying31 cell2.1 (by omega) h (fun n cs d' p' hlt hl5 ht=>by
  obtain ⟨ty,bits,g1,g2,g3,g4⟩:=val_open ht
  exact ⟨(ty,bits),⟨g1,g2,g3⟩,by unfold vlB;omega⟩)
 injection r1 with r1 r0
 injection r1 with r1 r2' r3'
 subst r1 r2' r3'
 obtain ⟨k1,k2⟩:=LsAt.both r6
 exact ⟨L',⟨r4,r2,r3,⟨xs',r5,k1⟩,k2⟩,r7⟩
end
end
section
theorem rdBox {F:Nat→Prop} {w:World} {k ty n:Nat} {vals:List Value} (h:w.heap[k]?=some (.cells vals.toArray ty (0,0))) (hF:F k) (hn:vals.length=n):Sy.SlAt F w (some ⟨k,0,none⟩) 1 n vals:=
 ⟨by omega,.inr ⟨rfl,hF,fun j v hv=>by
  simp only [World.cell?,Sy.gB,Sy.oB,Nat.zero_add]
  rw [h]
  simpa using hv⟩⟩
theorem ldB {F:Nat→Prop} {w:World} {b o sz:Nat} {xs:List Value} {ty:TypeId} (h:Sy.SlAt F w (some ⟨b,o,none⟩) 1 sz xs) (hb:Sy.aggB Tryz.prog ty=some false) (j:Nat) {v:Value} (hv:xs[j]?=some v) {W:World} (hk:Sy.Keep F w W):
  (Instr.loadAt ty (.pointer (some ⟨b,o+j,none⟩))).run Tryz.prog W = .ok v W:=by
 have:=Sy.load_sl h hb 0 j (by simpa using hv) hk
 simpa [Sy.gB,Sy.oB] using this
theorem putB {ty e:TypeId} {w:World} {b:Nat} {vals:List Value} (hb:w.heap[b]?=some (.cells vals.toArray e (0,0))) (hz:Sy.szB Tryz.prog ty=some 1) (j:Nat) (hj:j<vals.length) {v:Value} (hv:v.cells=#[v]) (h1:v.oneCell'=true):
  ∃ w',(Instr.storeAt ty (.pointer (some ⟨b,0+j,none⟩)) v).run Tryz.prog w = .ok () w'∧w'.heap[b]?=some (.cells (vals.set j v).toArray e (0,0))∧Sy.Keep (fun k=>k<w.heap.size∧¬ k=b) w w':=by
 have hst:=run_storeCells_at (P:=Tryz.prog) b (0+j) e [v] 0 vals.toArray w hb (by simp;omega) (fun x hx=>by rw [List.mem_singleton] at hx;rw [hx];exact h1)
 have hl:(vals.toArray.toList.take (0+j+0)++[v]++vals.toArray.toList.drop (0+j+0+[v].length))=vals.set j v:=by
  simp only [Nat.zero_add,Nat.add_zero,List.length_singleton]
  rw [List.set_eq_take_append_cons_drop,if_pos hj]
  simp
 rw [hl] at hst
 refine ⟨w.setRow b (vals.set j v).toArray,?_,setRow_heap _ _ _ _ _ _ hb,⟨rfl,rfl,rfl,by simp,fun k hk=>setRow_other _ _ _ _ (fun e=>hk.2 e)⟩⟩
 simp only [Instr.storeAt,Instr.sureAddr,Sem.run_bind,Sem.run_pure,Result.andThen_ok,storeVar,Sy.szB_ok hz,hv]
 simpa using hst
end
section
set_option maxRecDepth 100000
def WkAt (w:World) (b:Nat) (lo:Value) (n:Int):Prop:=w.heap[b]?=some (.cells #[lo,.int .i64 n] 102 (0,0))
def trapV (n:Int):Value := .iface 103 (.int .i64 n)
def boVal (b:Bool):Value := .agg #[.int .u8 2,.int .u64 (if b then 1 else 0)]
def ordB (x y:Int) (o:Ordering):Bool:=FloatKind.f64.format.order x.toNat y.toNat==some o
open Go.Sy
theorem truth_any (c:Bool) (w:World):CB 78 #[.bool c] w (boVal c):=by
 cases c
 ·
  refine eN [.bool false] Tryz.func78 (fun γ0 hγ0=>?_)
  refine rs [] 60 2 ?_
  exact gR (boVal false) (fun W hk=>⟨rfl,hk.below⟩)
 ·
  refine eN [.bool true] Tryz.func78 (fun γ0 hγ0=>?_)
  refine rs [] 60 2 ?_
  exact gR (boVal true) (fun W hk=>⟨rfl,hk.below⟩)
theorem ieq_any (b:Nat) (x y:Int) (w:World):CB 300 #[.agg #[nP b,nI x,nI y]] w (.bool (intEq x y)):=by
 refine eN [.agg #[nP b,nI x,nI y]] Tryz.func300 (fun γ0 hγ0=>?_)
 refine rk ?_
 exact gR (.bool (intEq x y)) (fun W hk=>⟨rfl,hk.below⟩)
theorem ilt_any (b:Nat) (x y:Int) (w:World):CB 301 #[.agg #[nP b,nI x,nI y]] w (.bool (intLt x y)):=by
 refine eN [.agg #[nP b,nI x,nI y]] Tryz.func301 (fun γ0 hγ0=>?_)
 refine rk ?_
 exact gR (.bool (intLt x y)) (fun W hk=>⟨rfl,hk.below⟩)
theorem req_any (x y:Int) (w:World):CB 302 #[.agg #[n6 x,n6 y]] w (.bool (ordB x y .eq)):=by
 refine eN [.agg #[n6 x,n6 y]] Tryz.func302 (fun γ0 hγ0=>?_)
 refine rk ?_
 refine gP [n6 x,n6 y] (.bool (ordB x y .eq)) (fun W hk=>pequal_any x y W) ?_
 refine rk ?_
 exact gR (.bool (ordB x y .eq)) (fun W hk=>⟨rfl,hk.below⟩)
theorem rlt_any (x y:Int) (w:World):CB 303 #[.agg #[n6 x,n6 y]] w (.bool (ordB x y .lt)):=by
 refine eN [.agg #[n6 x,n6 y]] Tryz.func303 (fun γ0 hγ0=>?_)
 refine rk ?_
 refine gP [n6 x,n6 y] (.bool (ordB x y .lt)) (fun W hk=>pless_any x y W) ?_
 refine rk ?_
 exact gR (.bool (ordB x y .lt)) (fun W hk=>⟨rfl,hk.below⟩)
theorem beq_any (x y:Int) (w:World):CB 306 #[.agg #[n6 x,n6 y]] w (.bool (intEq x y)):=by
 refine eN [.agg #[n6 x,n6 y]] Tryz.func306 (fun γ0 hγ0=>?_)
 refine rk ?_
 exact gR (.bool (intEq x y)) (fun W hk=>⟨rfl,hk.below⟩)
theorem turnI_any (b:Nat) (x y:Int) (w:World):CB 131 #[.iface 155 (.agg #[nP b,nI x,nI y])] w (.iface 155 (.agg #[nP b,nI y,nI x])):=by
 refine eN [.iface 155 (.agg #[nP b,nI x,nI y])] Tryz.func131 (fun γ0 hγ0=>?_)
 refine rs [] 60 3 ?_
 exact good_end (av:=norm (.iface 155 (.agg #[nP b,nI y,nI x]))) (by kernel_rfl) (fun γ W v _ hv _ hk=>by rw [norm_uniq _ _ hv];exact ⟨rfl,hk.below⟩)
theorem turnR_any (x y:Int) (w:World):CB 131 #[.iface 159 (.agg #[n6 x,n6 y])] w (.iface 159 (.agg #[n6 y,n6 x])):=by
 refine eN [.iface 159 (.agg #[n6 x,n6 y])] Tryz.func131 (fun γ0 hγ0=>?_)
 refine rs [] 60 3 ?_
 exact good_end (av:=norm (.iface 159 (.agg #[n6 y,n6 x]))) (by kernel_rfl) (fun γ W v _ hv _ hk=>by rw [norm_uniq _ _ hv];exact ⟨rfl,hk.below⟩)
theorem rdBox2 {F:Nat→Prop} {w:World} {b:Nat} {lo:Value} {n:Int} (h:WkAt w b lo n) (hF:F b):Sy.SlAt F w (some ⟨b,0,none⟩) 1 2 [lo,.int .i64 n]:=rdBox (vals:=[lo,.int .i64 n]) h hF rfl
theorem traps_any (b:Nat) (lo:Value) (n:Int) (w:World) (hb:WkAt w b lo n):Calls Tryz.prog 81 #[nP b] w fun e w'=>e = .panicked [{ v:=trapV n,recovered:=false }]∧Below w.heap.size w w':=by
 have hblt:b<w.heap.size:=(Array.getElem?_eq_some_iff.1 hb).1
 have hat:=rdBox2 (F:=(·<w.heap.size)) hb hblt
 refine eN [nP b] Tryz.func81 (fun γ0 hγ0=>?_)
 refine rk ?_
 refine gV (nI n) (S:=Instr.loadAt 3 (.pointer (some ⟨b,0+1,none⟩))) (fun W hk=>ldB hat (by kernel_rfl) 1 rfl hk) ?_
 refine rk ?_
 refine good_panics (sy_cx _ _) 0 (by kernel_rfl) ?_
 exact goodP_endV (trapV n) (by kernel_rfl) (by kernel_rfl) (fun W hk=>⟨rfl,hk.below⟩)
theorem inum_add (b:Nat) (x y:Int) (w:World):CB 132 #[.agg #[nP b,nI x,nI y],n8 11] w (nI (wrapF .i64 (x+y))):=by
 refine eN [.agg #[nP b,nI x,nI y],n8 11] Tryz.func132 (fun γ0 hγ0=>?_)
 refine rs [] 60 1 ?_
 exact gR (nI (wrapF .i64 (x+y))) (fun W hk=>⟨rfl,hk.below⟩)
theorem inum_sub (b:Nat) (x y:Int) (w:World):CB 132 #[.agg #[nP b,nI x,nI y],n8 12] w (nI (wrapF .i64 (x - y))):=by
 refine eN [.agg #[nP b,nI x,nI y],n8 12] Tryz.func132 (fun γ0 hγ0=>?_)
 refine rs [] 60 2 ?_
 exact gR (nI (wrapF .i64 (x - y))) (fun W hk=>⟨rfl,hk.below⟩)
theorem inum_mul (b:Nat) (x y:Int) (w:World):CB 132 #[.agg #[nP b,nI x,nI y],n8 13] w (nI (wrapF .i64 (x*y))):=by
 refine eN [.agg #[nP b,nI x,nI y],n8 13] Tryz.func132 (fun γ0 hγ0=>?_)
 refine rs [] 60 3 ?_
 exact gR (nI (wrapF .i64 (x*y))) (fun W hk=>⟨rfl,hk.below⟩)
theorem inum_neg (b:Nat) (x y:Int) (w:World):CB 132 #[.agg #[nP b,nI x,nI y],n8 16] w (nI (IntKind.i64.wrap (0 - x))):=by
 refine eN [.agg #[nP b,nI x,nI y],n8 16] Tryz.func132 (fun γ0 hγ0=>?_)
 refine rs [] 60 4 ?_
 exact gR (nI (IntKind.i64.wrap (0 - x))) (fun W hk=>⟨rfl,hk.below⟩)
theorem run_quoI (a c:Operand) (x y:Int) (hy:¬ y=0) (w:World):((do eqGuard .quo 2 a c (.int .i64 x) (.int .i64 y);binOp .quo 2 (.int .i64 x) (.int .i64 y)):Sem Value).run Tryz.prog w = .ok (.int .i64 (Sy.wrapF .i64 (Int.tdiv x y))) w:=by
 have e:(eqGuard .quo 2 a c (.int .i64 x) (.int .i64 y)).run Tryz.prog w = .ok () w:=rfl
 simp only [Sem.run_bind,e,Result.andThen_ok]
 simp [binOp,Op.intArith,Op.intDiv,hy,Sy.wrapF_eq]
theorem run_remI (a c:Operand) (x y:Int) (hy:¬ y=0) (w:World):((do eqGuard .rem 2 a c (.int .i64 x) (.int .i64 y);binOp .rem 2 (.int .i64 x) (.int .i64 y)):Sem Value).run Tryz.prog w = .ok (.int .i64 (Int.tmod x y)) w:=by
 have e:(eqGuard .rem 2 a c (.int .i64 x) (.int .i64 y)).run Tryz.prog w = .ok () w:=rfl
 simp only [Sem.run_bind,e,Result.andThen_ok]
 simp [binOp,Op.intArith,Op.intDiv,hy,Sy.wrapF_eq]
theorem inum_div (b:Nat) (x y:Int) (hy:¬ y=0) (w:World):CB 132 #[.agg #[nP b,nI x,nI y],n8 14] w (nI (wrapF .i64 (Int.tdiv x y))):=by
 refine eN [.agg #[nP b,nI x,nI y],n8 14] Tryz.func132 (fun γ0 hγ0=>?_)
 refine rs [] 60 4 ?_
 refine kw y 0 hy ?_
 refine rs [49] 60 5 ?_
 refine gV (nI (wrapF .i64 (Int.tdiv x y))) (S:=(do eqGuard .quo 2 (.tmp 46) (.tmp 48) (nI x) (nI y);binOp .quo 2 (nI x) (nI y))) (fun W _=>run_quoI _ _ x y hy W) ?_
 refine rk ?_
 exact gR (nI (wrapF .i64 (Int.tdiv x y))) (fun W hk=>⟨rfl,hk.below⟩)
theorem inum_mod (b:Nat) (x y:Int) (hy:¬ y=0) (w:World):CB 132 #[.agg #[nP b,nI x,nI y],n8 15] w (nI (Int.tmod x y)):=by
 refine eN [.agg #[nP b,nI x,nI y],n8 15] Tryz.func132 (fun γ0 hγ0=>?_)
 refine rs [] 60 4 ?_
 refine kw y 0 hy ?_
 refine rs [44] 60 6 ?_
 refine gV (nI (Int.tmod x y)) (S:=(do eqGuard .rem 2 (.tmp 41) (.tmp 43) (nI x) (nI y);binOp .rem 2 (nI x) (nI y))) (fun W _=>run_remI _ _ x y hy W) ?_
 refine rk ?_
 exact gR (nI (Int.tmod x y)) (fun W hk=>⟨rfl,hk.below⟩)
theorem inum_div0 (b:Nat) (lo:Value) (n x:Int) (w:World) (hb:WkAt w b lo n):Calls Tryz.prog 132 #[.agg #[nP b,nI x,nI 0],n8 14] w fun e w'=>e = .panicked [{ v:=trapV n,recovered:=false }]∧Below w.heap.size w w':=by
 have hblt:b<w.heap.size:=(Array.getElem?_eq_some_iff.1 hb).1
 have hbl:∀ W,Keep (·<w.heap.size) w W→WkAt W b lo n:=fun W hk=>(hk.block b hblt).trans hb
 refine eN [.agg #[nP b,nI x,nI 0],n8 14] Tryz.func132 (fun γ0 hγ0=>?_)
 refine rs [] 60 5 ?_
 refine good_callP0 (sy_cx _ _) [nP b] (fun _=>False) (Pr:=fun _ _ _=>False) (Pp:=fun _ v _=>v=trapV n) (by kernel_rfl) (by kernel_rfl) (fun γ vs hl=>closeLL_eq (by kernel_rfl) hl) (by kernel_rfl) (fun k h=>h.elim) (fun W hk=>(traps_any b lo n W (hbl W hk)).mono fun en w' ⟨h1,h2⟩ => .inr ⟨_,h1,rfl,(Keep.of_below h2 (fun k h=>h)).mono fun k h=>h.1⟩) (fun _ _ _ _ _ h=>h.elim) ?_
 rintro W2 v w2 B2 hk2 rfl hkW2 hk12 hB12 hBn2 hB2
 exact goodP_endV (trapV n) (by kernel_rfl) (by kernel_rfl) (fun W3 hk3=>⟨rfl,((hk12.mono fun k h=>⟨h,fun h=>h⟩).trans (hk3.mono fun k h=>hB12 k h)).below⟩)
theorem inum_mod0 (b:Nat) (lo:Value) (n x:Int) (w:World) (hb:WkAt w b lo n):Calls Tryz.prog 132 #[.agg #[nP b,nI x,nI 0],n8 15] w fun e w'=>e = .panicked [{ v:=trapV n,recovered:=false }]∧Below w.heap.size w w':=by
 have hblt:b<w.heap.size:=(Array.getElem?_eq_some_iff.1 hb).1
 have hbl:∀ W,Keep (·<w.heap.size) w W→WkAt W b lo n:=fun W hk=>(hk.block b hblt).trans hb
 refine eN [.agg #[nP b,nI x,nI 0],n8 15] Tryz.func132 (fun γ0 hγ0=>?_)
 refine rs [] 60 5 ?_
 refine good_callP0 (sy_cx _ _) [nP b] (fun _=>False) (Pr:=fun _ _ _=>False) (Pp:=fun _ v _=>v=trapV n) (by kernel_rfl) (by kernel_rfl) (fun γ vs hl=>closeLL_eq (by kernel_rfl) hl) (by kernel_rfl) (fun k h=>h.elim) (fun W hk=>(traps_any b lo n W (hbl W hk)).mono fun en w' ⟨h1,h2⟩ => .inr ⟨_,h1,rfl,(Keep.of_below h2 (fun k h=>h)).mono fun k h=>h.1⟩) (fun _ _ _ _ _ h=>h.elim) ?_
 rintro W2 v w2 B2 hk2 rfl hkW2 hk12 hB12 hBn2 hB2
 exact goodP_endV (trapV n) (by kernel_rfl) (by kernel_rfl) (fun W3 hk3=>⟨rfl,((hk12.mono fun k h=>⟨h,fun h=>h⟩).trans (hk3.mono fun k h=>hB12 k h)).below⟩)
theorem rnum_add (x y:Int) (w:World):CB 133 #[.agg #[n6 x,n6 y],n8 11] w (n6 (arN .add x.toNat y.toNat:Int)):=by
 refine eN [.agg #[n6 x,n6 y],n8 11] Tryz.func133 (fun γ0 hγ0=>?_)
 refine rs [] 60 1 ?_
 refine gX [n6 x,n6 y] (n6 (arN .add x.toNat y.toNat:Int)) (fun W hk=>(padd_any x y W).mono fun e w' ⟨h1,q,h2⟩=>⟨h1,by rw [h2];exact below_drewN (Below.refl _ _) _⟩) ?_
 refine rk ?_
 exact gR (n6 (arN .add x.toNat y.toNat:Int)) (fun W hk=>⟨rfl,hk.below⟩)
theorem rnum_sub (x y:Int) (w:World):CB 133 #[.agg #[n6 x,n6 y],n8 12] w (n6 (arN .sub x.toNat y.toNat:Int)):=by
 refine eN [.agg #[n6 x,n6 y],n8 12] Tryz.func133 (fun γ0 hγ0=>?_)
 refine rs [] 60 2 ?_
 refine gX [n6 x,n6 y] (n6 (arN .sub x.toNat y.toNat:Int)) (fun W hk=>(psub_any x y W).mono fun e w' ⟨h1,q,h2⟩=>⟨h1,by rw [h2];exact below_drewN (Below.refl _ _) _⟩) ?_
 refine rk ?_
 exact gR (n6 (arN .sub x.toNat y.toNat:Int)) (fun W hk=>⟨rfl,hk.below⟩)
theorem rnum_mul (x y:Int) (w:World):CB 133 #[.agg #[n6 x,n6 y],n8 13] w (n6 (arN .mul x.toNat y.toNat:Int)):=by
 refine eN [.agg #[n6 x,n6 y],n8 13] Tryz.func133 (fun γ0 hγ0=>?_)
 refine rs [] 60 3 ?_
 refine gX [n6 x,n6 y] (n6 (arN .mul x.toNat y.toNat:Int)) (fun W hk=>(pmul_any x y W).mono fun e w' ⟨h1,q,h2⟩=>⟨h1,by rw [h2];exact below_drewN (Below.refl _ _) _⟩) ?_
 refine rk ?_
 exact gR (n6 (arN .mul x.toNat y.toNat:Int)) (fun W hk=>⟨rfl,hk.below⟩)
theorem rnum_quo (x y:Int) (w:World):CB 133 #[.agg #[n6 x,n6 y],n8 14] w (n6 (arN .quo x.toNat y.toNat:Int)):=by
 refine eN [.agg #[n6 x,n6 y],n8 14] Tryz.func133 (fun γ0 hγ0=>?_)
 refine rs [] 60 4 ?_
 refine gX [n6 x,n6 y] (n6 (arN .quo x.toNat y.toNat:Int)) (fun W hk=>(pquo_any x y W).mono fun e w' ⟨h1,q,h2⟩=>⟨h1,by rw [h2];exact below_drewN (Below.refl _ _) _⟩) ?_
 refine rk ?_
 exact gR (n6 (arN .quo x.toNat y.toNat:Int)) (fun W hk=>⟨rfl,hk.below⟩)
theorem rnum_neg (x y:Int) (w:World):CB 133 #[.agg #[n6 x,n6 y],n8 16] w (n6 (ngN x)):=by
 refine eN [.agg #[n6 x,n6 y],n8 16] Tryz.func133 (fun γ0 hγ0=>?_)
 refine rs [] 60 4 ?_
 refine gP [n6 x] (n6 (ngN x)) (fun W hk=>pneg_any x W) ?_
 refine rk ?_
 exact gR (n6 (ngN x)) (fun W hk=>⟨rfl,hk.below⟩)
end
section
set_option maxRecDepth 100000
theorem run_hiS {a:Option Addr} {n c m:Nat} (hm:m≤c) (w:World):
  (Instr.sliceAt 30 (.slice a n c) none (some (.int .i64 (m:Int))) none).run Tryz.prog w = .ok (.slice a m c) w:=by
 have h:=run_slice_hi (P:=Tryz.prog) 30 9 _ 1 16 Tryz.underlying30 strInfo a n c .i64 (m:Int) (by omega) (by omega) w
 simpa [Instr.sliceAt,run_underlying Tryz.underlying30] using h
theorem sl_blk {F:Nat→Prop} {w:World} {g ty n:Nat} {vals:List Value} (h:Blk w g ty vals.toArray) (hF:F g) (hn:vals.length=n):Sy.SlAt F w (some ⟨g,0,none⟩) n 1 vals:=
 ⟨by omega,.inr ⟨rfl,hF,fun j v hv=>by
  unfold Blk at h
  simp only [World.cell?,Sy.gB,Sy.oB,Nat.zero_add]
  rw [h]
  simpa using hv⟩⟩
theorem lentS_len (ns:List (List UInt8)):(strsV (ns++lentS)).length=ns.length+3:=by rw [strsV_len,List.length_append];rfl
open Go.Sy
theorem kept_any (ns:List (List UInt8)) (b:Option Addr) (g n d:Nat) (w:World) (hn:n=ns.length) (hbd:n≤1000000) (ha:SlAt (·<w.heap.size) w (some ⟨g,0,none⟩) (n+3) 1 (strsV (ns++lentS))) (hb:SlAt (·<w.heap.size) w b n 1 (strsV ns)):
  CB 10 #[.slice (some ⟨g,0,none⟩) n (n+3),.slice b n d] w (.bool true):=by
 refine eN [.slice (some ⟨g,0,none⟩) n (n+3),.slice b n d] Tryz.func10 (fun γ0 hγ0=>?_)
 refine rs [] 5 0 ?_
 have hL:∀ b,hasNat b []=true→∃ p,γ0 b=some p∧p.1<w.heap.size:=fun b hb=>by cases hb
 refine good_plan sy_mixed (.take 0 (.take 1 (.take 2 (.take 3 (.take 4 (.take 5 (.take 6 (.take 7 (.take 8 (.take 9 (.take 10 (.take 12 (.take 13 (.take 14 (.run 11 (.take 15 (.run 16 (.take 17 .done)))))))))))))))))) 18 (by kernel_rfl) ?_
 refine p_takes [] 5 (Bs:=(·<w.heap.size)) (ws:=w) (by kernel_rfl) (fun _ h=>h) hL ?_
 refine gS 9 (x := .bool (intEq (n:Int) (n:Int))) (.bool true) (by rw [eq_t rfl]) ?_
 refine p_takes [] 4 (Bs:=(·<w.heap.size)) (ws:=w) (by kernel_rfl) (fun _ h=>h) hL ?_
 refine p_val (.slice (some ⟨g,0,none⟩) (n+3) (n+3)) (S:=Instr.sliceAt 30 (.slice (some ⟨g,0,none⟩) n (n+3)) none (some (nI ((n+3:Nat):Int))) none) (by kernel_rfl) (Bs:=(·<w.heap.size)) (ws:=w) (by kernel_rfl) (fun _ h=>h) (fun W _=>run_hiS (Nat.le_refl _) W) ?_
 refine p_takes [] 4 (Bs:=(·<w.heap.size)) (ws:=w) (by kernel_rfl) (fun _ h=>h) hL ?_
 refine gS 19 (x:=nI (wrapF .i64 ((n:Int)+3))) (nI ((n+3:Nat):Int)) (by rw [wr64 (by omega) (by omega)];rfl) ?_
 refine pR (Keep (·<w.heap.size) w) (fun _ h=>h) ?_
 refine good_callM (sy_cx _ _) [.slice b n d] (by kernel_rfl) (by kernel_rfl) (by kernel_rfl) (Pr:=fun W v W'=>v = .slice (some ⟨W.heap.size,0,none⟩) n (n+3)∧Blk W' W.heap.size 9 (strsV (ns++lentS)).toArray) (fun W hk=>(lentT_any b n d ns W (sl_of ((hb.keep hk).mono (kU hk))) (by omega)).mono fun e w' ⟨h1,h2,h3⟩=>⟨_,h1,⟨rfl,h2⟩,h3⟩) ?_
 rintro V r w1 B1 hkV ⟨rfl,hblk⟩ hbl1 hk01 hB01 hBn1 hB1
 obtain ⟨g2,hg2⟩:∃ g2,g2=V.heap.size:=⟨_,rfl⟩
 rw [← hg2] at hblk ⊢
 have hg2B:B1 g2:=hBn1 g2 (by omega) hblk.lt
 have hs2:SlAt B1 w1 (some ⟨g2,0,none⟩) (n+3) 1 (strsV (ns++lentS)):=sl_blk hblk hg2B (by rw [lentS_len,hn])
 have hs1:SlAt B1 w1 (some ⟨g,0,none⟩) (n+3) 1 (strsV (ns++lentS)):=(ha.keep hk01).mono hB01
 have hS1:∀ W,Keep B1 w1 W→Keep (·<w.heap.size) w W:=fun W hk=>hk01.trans (hk.mono hB01)
 refine rk ?_
 refine p_val (.slice (some ⟨g2,0,none⟩) (n+3) (n+3)) (S:=Instr.sliceAt 30 (.slice (some ⟨g2,0,none⟩) n (n+3)) none (some (nI ((n+3:Nat):Int))) none) (by kernel_rfl) (Bs:=(·<w.heap.size)) (ws:=w) (by kernel_rfl) hS1 (fun W _=>run_hiS (Nat.le_refl _) W) ?_
 refine pR (Keep (·<w.heap.size) w) hS1 ?_
 refine gX [.slice (some ⟨g,0,none⟩) (n+3) (n+3),.slice (some ⟨g2,0,none⟩) (n+3) (n+3)] (.bool true) (fun W hk=>by
  have up:∀ j,B1 j→j<W.heap.size:=fun j h=>Nat.lt_of_lt_of_le (hB1 j h) hk.size
  have h:=sameTexts_any (ns++lentS) (ns++lentS) (some ⟨g,0,none⟩) (some ⟨g2,0,none⟩) (n+3) (n+3) (n+3) (n+3) _ _ W (by rw [List.length_append,hn];rfl) (by rw [List.length_append,hn];rfl) (by omega) ((hs1.keep hk).mono up) ((hs2.keep hk).mono up) (strs_ls.2 rfl) (strs_ls.2 rfl)
  rw [sameB_t.2 rfl] at h
  exact h) ?_
 refine rk ?_
 refine p_takes [] 1 (Bs:=(·<w.heap.size)) (ws:=w) (by kernel_rfl) hS1 hL ?_
 refine p_done (by kernel_rfl) ?_ (Keep (·<w.heap.size) w) (by kernel_rfl) hS1
 refine rk ?_
 exact gR (.bool true) (fun W hk=>⟨rfl,(hk01.trans (hk.mono hB01)).below⟩)
theorem vEq_rfl (a b:Int):vEq a b a b=true:=by unfold vEq;rw [eq_t rfl,eq_t rfl];rfl
theorem vEq_eq {x y:Int×Int} (h:vEq x.1 x.2 y.1 y.2=true):x=y:=by
 unfold vEq at h
 rw [Sy.intEq_eq,Sy.intEq_eq] at h
 simp at h
 exact Prod.ext h.1 h.2
theorem sameValues_any (L M:List (Int×Int)) (a1 a2:Option Addr) (n1 n2 cap1 cap2:Nat) (xs1 xs2:List Value) (w:World) (hn1:n1=L.length) (hn2:n2=M.length) (hbd:n1≤1099511627776)
  (hsl1:Sy.SlAt (·<w.heap.size) w a1 n1 2 xs1) (hsl2:Sy.SlAt (·<w.heap.size) w a2 n2 2 xs2) (hks1:LsAt VlAt L xs1) (hks2:LsAt VlAt M xs2):
  CB 11 #[.slice a1 n1 cap1,.slice a2 n2 cap2] w (.bool (sameB L M)):=by
 refine eN [.slice a1 n1 cap1,.slice a2 n2 cap2] Tryz.func11 (fun γ0 hγ0=>?_)
 refine rk ?_
 refine good_cond (b:=!(intEq (n1:Int) (n2:Int))) (by kernel_rfl) (fun hnn=>?_) (fun hnn=>?_)
 ·
  refine rs [] 60 2 ?_
  refine gR (.bool false) (fun W hk=>⟨?_,hk.below⟩)
  rw [sameB_f]
  intro h
  rw [intEq_eq] at hnn;simp_all
 have hnn1:n1=n2:=by rw [intEq_eq] at hnn;have:(n1:Int)=(n2:Int):=(by simpa using hnn);omega
 refine rk ?_
 refine good_toLp ?_
 refine good_loopI (fun i:List (Int×Int)×List (Int×Int)×List (Int×Int)=>i.2.1.length) (fun i=>L=i.1++i.2.1∧M=i.1++i.2.2) (fun i=>⟨mkT [(0,vL a1 n1 cap1),(1,vL a2 n2 cap2),(5,vI (i.1.length:Int))],mkH [],gz,[]⟩)
  ([],L,M) ⟨rfl,rfl⟩ (by kernel_rfl)
  (fun h=>gU _ [(0,vL a1 n1 cap1),(1,vL a2 n2 cap2),(5,vI (([]:List (Int×Int)).length:Int))] [] gz (fun b hb=>hγ0 b hb) h) ?_
 rintro ⟨l1,l2,m2⟩ ⟨hI1,hI2⟩ ih
 simp only at hI1 hI2
 have hq1:n1=l1.length+l2.length:=by rw [hn1,hI1,List.length_append]
 have hq2:n2=l1.length+m2.length:=by rw [hn2,hI2,List.length_append]
 refine rk ?_
 cases l2 with
 | nil=>
   obtain rfl:m2=[]:=List.eq_nil_of_length_eq_zero (by simp only [List.length_nil] at hq1;omega)
   refine ky (l1.length:Int) (n1:Int) (by rw [hq1];simp) ?_
   refine rk ?_
   refine gR (.bool true) (fun W hk=>⟨?_,hk.below⟩)
   rw [sameB_t.2 (by rw [hI1,hI2])]
 | cons x l3=>
   obtain ⟨y,m3,rfl⟩:∃ y m3,m2=y::m3:=by
    cases m2 with
    | nil=>simp only [List.length_nil,List.length_cons] at hq1 hq2;omega
    | cons a b=>exact ⟨a,b,rfl⟩
   have hin1:l1.length<n1:=by rw [hq1,List.length_cons];omega
   have hin2:l1.length<n2:=by omega
   have hks1':=hks1
   have hks2':=hks2
   rw [hI1] at hks1'
   rw [hI2] at hks2'
   obtain ⟨c1,hc1,hcell1⟩:=hks1'.at_ (fun _ _ h=>VlAt.len h)
   obtain ⟨c2,hc2,hcell2⟩:=hks2'.at_ (fun _ _ h=>VlAt.len h)
   refine kx (l1.length:Int) (n1:Int) (by omega) ?_
   refine rk ?_
   obtain rfl:c1=[n8 x.1,n6 x.2]:=hc1
   obtain rfl:c2=[n8 y.1,n6 y.2]:=hc2
   refine good_draw sy_mixed (by kernel_rfl) ?_
   refine q_run [] 60 ?_
   refine qI 31 26 cap1 l1.length hsl1 hin1 ?_
   refine q_run [] 60 ?_
   refine qD 26 2 [n8 x.1,n6 x.2] l1.length 0 hsl1 rfl hcell1 ?_
   refine q_run [] 60 ?_
   refine qI 31 26 cap2 l1.length hsl2 hin2 ?_
   refine q_run [] 60 ?_
   refine qD 26 2 [n8 y.1,n6 y.2] l1.length 0 hsl2 rfl hcell2 ?_
   refine q_run [25] 60 ?_
   refine qV (.bool (!(vEq x.1 x.2 y.1 y.2))) (S:=do eqGuard .neq 26 (.tmp 20) (.tmp 24) (.agg #[n8 x.1,n6 x.2]) (.agg #[n8 y.1,n6 y.2]);binOp .neq 26 (.agg #[n8 x.1,n6 x.2]) (.agg #[n8 y.1,n6 y.2])) (fun W _=>run_neq_value _ _ _ _ _ _ W) ?_
   refine q_run [] 60 ?_
   refine qE ?_
   refine rk ?_
   refine good_cond (b:=!(vEq x.1 x.2 y.1 y.2)) (by kernel_rfl) (fun hss=>?_) (fun hss=>?_)
   ·
    have hne:x≠y:=fun h=>by rw [h,vEq_rfl] at hss;cases hss
    refine rs [] 60 2 ?_
    refine gR (.bool false) (fun W hk=>⟨?_,hk.below⟩)
    rw [sameB_f]
    intro h
    rw [hI1,hI2] at h
    have h2:=(List.cons.inj (List.append_cancel_left h)).1
    exact hne h2
   ·
    have hxy:x=y:=vEq_eq (by simpa using hss)
    refine rs [] 60 2 ?_
    refine gJ 5 l1 x (by omega) ?_
    exact gU _ [(0,vL a1 n1 cap1),(1,vL a2 n2 cap2),(5,vI ((l1++[x]).length:Int))] [] gz (fun b hb=>hγ0 b hb) (ih (l1++[x],l3,m3) ⟨(by show L=(l1++[_])++l3;rw [hI1];simp),(by show M=(l1++[_])++m3;rw [hI2,← hxy];simp)⟩ lS1)
end
end Go.Proofs.YtinjiigdijbjeaaGreatDoor
