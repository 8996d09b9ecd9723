/- Texts of this proof, one behind the other. Conditions: those in each theorem. -/
import Derived.Test.YtiacalnkmnckjaaGreatDoorTapQ7
import Derived.Test.YtiacalnkmnckjaaGreatDoorTapQ1
import Derived.Test.YtiacalnkmnckjaaGreatDoorTapQ2
import Derived.Deep.Slices
import Derived.Handy
set_option linter.unusedVariables false
set_option linter.unusedSimpArgs false
section
namespace Go.Proofs.YtiacalnkmnckjaaGreatDoor
open Go.RowKit Go.As
noncomputable def sameEx (a b:Ex):Bool:=@decide (a=b) (Classical.propDecidable _)
theorem sameEx_t {a b:Ex}:sameEx a b=true↔a=b:=by unfold sameEx;exact @decide_eq_true_iff _ (Classical.propDecidable _)
theorem sameEx_f {a b:Ex} (h:a≠b):sameEx a b=false:=by rw [← Bool.not_eq_true,sameEx_t];exact h
theorem valueGuard:Tryz.prog.eqGuardType Tryz.prog.depth 31=false:=by kernel_rfl
def vEq (a b c d:Int):Bool:=Sy.intEq a c&&Sy.intEq b d
theorem run_eqi_value (a b c d:Int) (k:Nat) (w:World):
  (Op.equalIn (k+2) 31 (.agg #[.int .u8 a,.int .u64 b]) (.agg #[.int .u8 c,.int .u64 d])).run Tryz.prog w = .ok (vEq a b c d) w:=by
 have h0:Tryz.prog.underlying 31=some (.struct (Tryz.prog.fieldsOf 31)):=by rw [Program.fieldsOf,Tryz.underlying31]
 rw [run_equalIn_agg w (k+1) _ _ _ h0 (by kernel_rfl)]
 have h1:=run_equalIn_int (P:=Tryz.prog) w k 28 .u8 .u8 a c Tryz.underlying28
 have h2:=run_equalIn_int (P:=Tryz.prog) w k 29 .u64 .u64 b d Tryz.underlying29
 rw [Program.fieldsOf,Tryz.underlying31]
 unfold vEq
 rw [Sy.intEq_eq,Sy.intEq_eq]
 go_simp
 by_cases ha:a=c <;> by_cases hb:b=d <;> simp [ha,hb]
theorem _root_.Go.Sy.eqG2 {P:Program} {w:World} {m:Sem Unit} {n:Sem Value} {r:Value} (h1:m.run P w = .ok () w) (h2:n.run P w = .ok r w):(do m;n:Sem Value).run P w = .ok r w:=by
 rw [Sem.run_bind,h1]
 exact h2
theorem run_neq_value (ox oy:Operand) (a b c d:Int) (w:World):
  (do eqGuard .neq 31 ox oy (.agg #[.int .u8 a,.int .u64 b]) (.agg #[.int .u8 c,.int .u64 d]);binOp .neq 31 (.agg #[.int .u8 a,.int .u64 b]) (.agg #[.int .u8 c,.int .u64 d]):Sem Value).run Tryz.prog w = .ok (.bool (!(vEq a b c d))) w:=by
 have h1:(eqGuard .neq 31 ox oy (.agg #[.int .u8 a,.int .u64 b]) (.agg #[.int .u8 c,.int .u64 d])).run Tryz.prog w = .ok () w:=by
  unfold eqGuard
  go_simp
 have h2:(binOp .neq 31 (.agg #[.int .u8 a,.int .u64 b]) (.agg #[.int .u8 c,.int .u64 d])).run Tryz.prog w = .ok (.bool (!(vEq a b c d))) w:=by
  rw [run_neq_struct,run_eqi_value]
  rfl
 exact Sy.eqG2 h1 h2
open Go.Sy in
set_option maxRecDepth 100000 in
theorem sameExpr_any:∀ (N:Nat) (e1 e2:Ex) (cs1 cs2:List Value) (w:World),wgt e1≤N→wgt e1≤1099511627776→ExAt (·<w.heap.size) w e1 cs1→ExAt (·<w.heap.size) w e2 cs2→
  Calls Tryz.prog 23 #[.agg cs1.toArray,.agg cs2.toArray] w fun r w'=>r = .returned (.bool (sameEx e1 e2))∧Below w.heap.size w w':=by
 intro N
 induction N with
 | zero=>intro e1 e2 cs1 cs2 w h;have:=wgt_pos e1;omega
 | succ N ihN=>
   intro e1 e2 cs1 cs2 w hN hbd hat1 hat2
   obtain ⟨op1,ty1,bits1,name1,kids1⟩:=e1
   obtain ⟨op2,ty2,bits2,name2,kids2⟩:=e2
   simp only [ExAt] at hat1 hat2
   obtain ⟨a1,cap1,xs1,rfl,hsl1,hks1⟩:=hat1
   obtain ⟨a2,cap2,xs2,rfl,hsl2,hks2⟩:=hat2
   simp only [wgt] at hN hbd
   obtain ⟨n1,hn1⟩:∃ n,n=kids1.length:=⟨_,rfl⟩
   obtain ⟨n2,hn2⟩:∃ n,n=kids2.length:=⟨_,rfl⟩
   have hnl:=wgts_len kids1
   rw [← hn1] at hsl1 hnl ⊢
   rw [← hn2] at hsl2 ⊢
   refine Sy.enter (vs:=[.agg #[.int .u8 op1,.int .u8 ty1,.int .u64 bits1,.string (str name1),.slice a1 n1 cap1],.agg #[.int .u8 op2,.int .u8 ty2,.int .u64 bits2,.string (str name2),.slice a2 n2 cap2]]) sy_fine Tryz.func23 rfl (fun γ=>norms_LR _) rfl (fun γ0 hγ0=>?_)
   refine rs [12] 60 0 ?_
   rcases Bool.eq_false_or_eq_true (intEq op1 op2) with hop | hop
   rotate_left
   · refine gS 10 (x := .bool (!(intEq op1 op2))) (.bool true) (by rw [hop];rfl) ?_
     refine gS 11 (x := .bool (!(intEq op1 op2))) (.bool true) (by rw [hop];rfl) ?_
     refine rs [] 60 2 ?_
     refine gR (.bool false) (fun W hk=>⟨?_,hk.below⟩)
     rw [sameEx_f]
     intro h
     injection h
     rw [intEq_eq] at hop;simp_all
   refine gS 10 (x := .bool (!(intEq op1 op2))) (.bool false) (by rw [hop];rfl) ?_
   refine gS 11 (x := .bool (!(intEq op1 op2))) (.bool false) (by rw [hop];rfl) ?_
   refine rs [16] 60 0 ?_
   refine gV (.bool (!(vEq ty1 bits1 ty2 bits2))) (S:=(do eqGuard .neq 31 (.tmp 13) (.tmp 15) (.agg #[.int .u8 ty1,.int .u64 bits1]) (.agg #[.int .u8 ty2,.int .u64 bits2]);binOp .neq 31 (.agg #[.int .u8 ty1,.int .u64 bits1]) (.agg #[.int .u8 ty2,.int .u64 bits2]))) (fun W _=>run_neq_value _ _ _ _ _ _ W) ?_
   refine rs [19] 60 0 ?_
   rcases Bool.eq_false_or_eq_true (vEq ty1 bits1 ty2 bits2) with hva | hva
   rotate_left
   · refine gS 16 (x := .bool (!(vEq ty1 bits1 ty2 bits2))) (.bool true) (by rw [hva];rfl) ?_
     refine gS 17 (x := .bool (!(vEq ty1 bits1 ty2 bits2))) (.bool true) (by rw [hva];rfl) ?_
     refine gS 18 (x := .bool (!(vEq ty1 bits1 ty2 bits2))) (.bool true) (by rw [hva];rfl) ?_
     refine rs [] 60 2 ?_
     refine gR (.bool false) (fun W hk=>⟨?_,hk.below⟩)
     rw [sameEx_f]
     intro h
     injection h
     simp only [vEq,intEq_eq] at hva;simp_all
   refine gS 16 (x := .bool (!(vEq ty1 bits1 ty2 bits2))) (.bool false) (by rw [hva];rfl) ?_
   refine gS 17 (x := .bool (!(vEq ty1 bits1 ty2 bits2))) (.bool false) (by rw [hva];rfl) ?_
   refine gS 18 (x := .bool (!(vEq ty1 bits1 ty2 bits2))) (.bool false) (by rw [hva];rfl) ?_
   refine rs [26] 60 0 ?_
   rcases Bool.eq_false_or_eq_true (bEqL name1 name2) with hna | hna
   rotate_left
   · refine gS 23 (x := .bool (!(bEqL name1 name2))) (.bool true) (by rw [hna];rfl) ?_
     refine gS 24 (x := .bool (!(bEqL name1 name2))) (.bool true) (by rw [hna];rfl) ?_
     refine gS 25 (x := .bool (!(bEqL name1 name2))) (.bool true) (by rw [hna];rfl) ?_
     refine rs [] 60 2 ?_
     refine gR (.bool false) (fun W hk=>⟨?_,hk.below⟩)
     rw [sameEx_f]
     intro h
     injection h
     rw [bEqL_eq] at hna;simp_all
   refine gS 23 (x := .bool (!(bEqL name1 name2))) (.bool false) (by rw [hna];rfl) ?_
   refine gS 24 (x := .bool (!(bEqL name1 name2))) (.bool false) (by rw [hna];rfl) ?_
   refine gS 25 (x := .bool (!(bEqL name1 name2))) (.bool false) (by rw [hna];rfl) ?_
   refine rk ?_
   refine good_cond (b:=!(intEq (n1:Int) (n2:Int))) (by kernel_rfl) (fun hnn=>?_) (fun hnn=>?_)
   · refine rs [] 60 2 ?_
     refine gR (.bool false) (fun W hk=>⟨?_,hk.below⟩)
     rw [sameEx_f]
     intro h
     injection h
     rw [intEq_eq] at hnn;simp_all
   have hnn1:n1=n2:=by rw [intEq_eq] at hnn;have:(n1:Int)=(n2:Int):=(by simpa using hnn);omega
   have hop1:op1=op2:=by rw [intEq_eq] at hop;simpa using hop
   have ⟨hty1,hbi1⟩:ty1=ty2∧bits1=bits2:=by simp only [vEq,intEq_eq] at hva;simpa using hva
   have hna1:name1=name2:=by rw [bEqL_eq] at hna;simpa using hna
   refine rk ?_
   refine good_toLp ?_
   refine good_loopI (fun i:List Ex×List Ex×List Ex=>i.2.1.length) (fun i=>kids1=i.1++i.2.1∧kids2=i.1++i.2.2) (fun i=>⟨mkT [(2,.ptr gz 0),(3,.ptr (gz+1) 0),(5,.v (.int .i64 (i.1.length:Int)))],mkH [(gz,some (.cells 34 true true true 5 (putL .leaf 0 [.v (.int .u8 op1),.v (.int .u8 ty1),.v (.int .u64 bits1),.v (.string (str name1)),.v (.slice a1 n1 cap1)]))),(gz+1,some (.cells 34 true true true 5 (putL .leaf 0 [.v (.int .u8 op2),.v (.int .u8 ty2),.v (.int .u64 bits2),.v (.string (str name2)),.v (.slice a2 n2 cap2)])))],gz+2,[]⟩)
    ([],kids1,kids2) ⟨rfl,rfl⟩ (by kernel_rfl)
    (fun h=>good_sub _ [(2,.ptr gz 0),(3,.ptr (gz+1) 0),(5,.v (.int .i64 (([]:List Ex).length:Int)))] [(gz,some (.cells 34 true true true 5 (putL .leaf 0 [.v (.int .u8 op1),.v (.int .u8 ty1),.v (.int .u64 bits1),.v (.string (str name1)),.v (.slice a1 n1 cap1)]))),(gz+1,some (.cells 34 true true true 5 (putL .leaf 0 [.v (.int .u8 op2),.v (.int .u8 ty2),.v (.int .u64 bits2),.v (.string (str name2)),.v (.slice a2 n2 cap2)])))] (gz+2) rfl (by kernel_rfl) (by kernel_rfl) (by kernel_rfl) (by kernel_rfl) (by kernel_rfl) (fun b hb=>hγ0 b (Nat.le_trans (Nat.le_add_right _ 2) hb)) (by kernel_rfl) h) ?_
   rintro ⟨l1,l2,m2⟩ ⟨hI1,hI2⟩ ih
   simp only at hI1 hI2
   have hq1:n1=l1.length+l2.length:=by rw [hn1,hI1,List.length_append]
   have hq2:n2=l1.length+m2.length:=by rw [hn2,hI2,List.length_append]
   have hw1:wgts kids1=wgts l1+wgts l2:=by rw [hI1,wgts_app]
   refine rk ?_
   cases l2 with
   | nil=>
     obtain rfl:m2=[]:=List.eq_nil_of_length_eq_zero (by simp only [List.length_nil] at hq1;omega)
     refine gK false (b:=intLt (l1.length:Int) (n1:Int)) (lt_f (by rw [hq1];simp)) ?_
     refine rk ?_
     refine gR (.bool true) (fun W hk=>⟨?_,hk.below⟩)
     rw [sameEx_t.2 (by rw [hI1,hI2,hop1,hty1,hbi1,hna1])]
   | cons e1 l3=>
     obtain ⟨e2,m3,rfl⟩:∃ e2 m3,m2=e2::m3:=by
      cases m2 with
      | nil=>simp only [List.length_nil,List.length_cons] at hq1 hq2;omega
      | cons a b=>exact ⟨a,b,rfl⟩
     have hin1:l1.length<n1:=by rw [hq1,List.length_cons];omega
     have hin2:l1.length<n2:=by omega
     have hks1':=hks1
     have hks2':=hks2
     rw [hI1] at hks1'
     rw [hI2] at hks2'
     obtain ⟨c1,hc1,hcell1⟩:=hks1'.at_
     obtain ⟨c2,hc2,hcell2⟩:=hks2'.at_
     have hcl1:=hc1.len
     have hcl2:=hc2.len
     simp only [wgts] at hw1
     refine gK true (b:=intLt (l1.length:Int) (n1:Int)) (lt_t (by omega)) ?_
     refine rk ?_
     refine good_draw sy_mixed (by kernel_rfl) ?_
     refine q_run [] 60 ?_
     refine qV (.pointer (some ⟨gB a1,oB a1+l1.length*5,none⟩)) (S:=Instr.indexAt 32 (.slice a1 n1 cap1) (.int .i64 (l1.length:Int))) (fun W _=>idx_sl (e:=34) hsl1 (by kernel_rfl) (by kernel_rfl) hin1 W) ?_
     have hld1:=fun W hk=>load_slA (P:=Tryz.prog) (ty:=34) (m:=5) (cs:=c1) hsl1 (by kernel_rfl) (by kernel_rfl) l1.length 0 hcl1 hcell1 (W:=W) hk
     have hld2:=fun W hk=>load_slA (P:=Tryz.prog) (ty:=34) (m:=5) (cs:=c2) hsl2 (by kernel_rfl) (by kernel_rfl) l1.length 0 hcl2 hcell2 (W:=W) hk
     have hcall:=fun W hk=>ihN e1 e2 c1 c2 W (by omega) (by omega) (hc1.keep hk (fun k h=>Nat.lt_of_lt_of_le h hk.size)) (hc2.keep hk (fun k h=>Nat.lt_of_lt_of_le h hk.size))
     obtain ⟨op3,ty3,bits3,name3,kids3⟩:=e1
     obtain ⟨op4,ty4,bits4,name4,kids4⟩:=e2
     simp only [ExAt] at hc1 hc2
     obtain ⟨a3,cap3,xs3,rfl,_⟩:=hc1
     obtain ⟨a4,cap4,xs4,rfl,_⟩:=hc2
     refine q_run [] 60 ?_
     refine qV (.agg #[.int .u8 op3,.int .u8 ty3,.int .u64 bits3,.string (str name3),.slice a3 kids3.length cap3]) (S:=Instr.loadAt 34 (.pointer (some ⟨gB a1,oB a1+l1.length*5+0,none⟩))) (fun W hk=>hld1 W hk) ?_
     refine q_run [] 60 ?_
     refine qV (.pointer (some ⟨gB a2,oB a2+l1.length*5,none⟩)) (S:=Instr.indexAt 32 (.slice a2 n2 cap2) (.int .i64 (l1.length:Int))) (fun W _=>idx_sl (e:=34) hsl2 (by kernel_rfl) (by kernel_rfl) hin2 W) ?_
     refine q_run [] 60 ?_
     refine qV (.agg #[.int .u8 op4,.int .u8 ty4,.int .u64 bits4,.string (str name4),.slice a4 kids4.length cap4]) (S:=Instr.loadAt 34 (.pointer (some ⟨gB a2,oB a2+l1.length*5+0,none⟩))) (fun W hk=>hld2 W hk) ?_
     refine q_run [] 60 ?_
     refine qB [.agg #[.int .u8 op3,.int .u8 ty3,.int .u64 bits3,.string (str name3),.slice a3 kids3.length cap3],.agg #[.int .u8 op4,.int .u8 ty4,.int .u64 bits4,.string (str name4),.slice a4 kids4.length cap4]] (.bool (sameEx (Ex.mk op3 ty3 bits3 name3 kids3) (Ex.mk op4 ty4 bits4 name4 kids4))) (fun W hk=>hcall W hk) ?_
     refine q_run [] 60 ?_
     refine qE ?_
     refine rk ?_
     refine good_cond (b:=!(sameEx (Ex.mk op3 ty3 bits3 name3 kids3) (Ex.mk op4 ty4 bits4 name4 kids4))) (by kernel_rfl) (fun hss=>?_) (fun hss=>?_)
     · refine rs [] 60 2 ?_
       refine gR (.bool false) (fun W hk=>⟨?_,hk.below⟩)
       rw [sameEx_f]
       intro h
       injection h with _ _ _ _ h
       rw [hI1,hI2] at h
       have h2:=(List.cons.inj (List.append_cancel_left h)).1
       rw [sameEx_t.2 h2] at hss
       cases hss
     · have hss1:=sameEx_t.1 (show sameEx (Ex.mk op3 ty3 bits3 name3 kids3) (Ex.mk op4 ty4 bits4 name4 kids4)=true by simpa using hss)
       refine rs [] 60 2 ?_
       refine gS 5 (x := .int .i64 (wrapF .i64 ((l1.length:Int)+1))) (.int .i64 ((l1++[(Ex.mk op3 ty3 bits3 name3 kids3)]).length:Nat)) (by rw [wr64 (by omega) (by omega)];congr 1;simp) ?_
       exact gU _ [(2,.ptr gz 0),(3,.ptr (gz+1) 0),(5,.v (.int .i64 ((l1++[(Ex.mk op3 ty3 bits3 name3 kids3)]).length:Int)))] [(gz,some (.cells 34 true true true 5 (putL .leaf 0 [.v (.int .u8 op1),.v (.int .u8 ty1),.v (.int .u64 bits1),.v (.string (str name1)),.v (.slice a1 n1 cap1)]))),(gz+1,some (.cells 34 true true true 5 (putL .leaf 0 [.v (.int .u8 op2),.v (.int .u8 ty2),.v (.int .u64 bits2),.v (.string (str name2)),.v (.slice a2 n2 cap2)])))] (gz+2) (fun b hb=>hγ0 b (Nat.le_trans (Nat.le_add_right _ 2) hb))
        (ih (l1++[(Ex.mk op3 ty3 bits3 name3 kids3)],l3,m3) (by
         constructor
         · show kids1=(l1++[_])++l3;rw [hI1];simp
         · show kids2=(l1++[_])++m3;rw [hI2,hss1];simp) (by show l3.length<(_::l3).length;simp))
end Go.Proofs.YtiacalnkmnckjaaGreatDoor
end
section
namespace Go.Proofs.YtiacalnkmnckjaaGreatDoor
open Go.RowKit Go.As
def LsAt {α:Type} (A:α→List Value→Prop):List α→List Value→Prop
 | [],xs=>xs=[]
 | e::l,xs=>∃ c r,xs=c++r∧A e c∧LsAt A l r
theorem LsAt.imp {α:Type} {A A':α→List Value→Prop} (h:∀ e c,A e c→A' e c):∀ {l:List α} {xs:List Value},LsAt A l xs→LsAt A' l xs
 | [],xs,hx=>hx
 | e::l,xs,⟨c,r,h1,h2,h3⟩=>⟨c,r,h1,h e c h2,LsAt.imp h h3⟩
theorem LsAt.snoc {α:Type} {A:α→List Value→Prop} {e:α} {c:List Value}:∀ {l:List α} {xs:List Value},LsAt A l xs→A e c→LsAt A (l++[e]) (xs++c)
 | [],xs,h,hc=>by
   obtain rfl:xs=[]:=h
   exact ⟨c,[],by simp,hc,rfl⟩
 | x::l,xs,⟨c1,r,h1,h2,h3⟩,hc=>⟨c1,r++c,by rw [h1];simp,h2,LsAt.snoc h3 hc⟩
theorem LsAt.at_ {α:Type} {A:α→List Value→Prop} {k:Nat} (hk:∀ e c,A e c→c.length=k):∀ {l1:List α} {e:α} {l3:List α} {xs:List Value},LsAt A (l1++e::l3) xs→∃ c,A e c∧∀ j v,c[j]?=some v→xs[l1.length*k+j]?=some v
 | [],e,l3,xs,⟨c,r,h1,h2,h3⟩=>by
   subst h1
   refine ⟨c,h2,fun j v hv=>?_⟩
   rw [List.length_nil,Nat.zero_mul,Nat.zero_add,List.getElem?_append_left (List.getElem?_eq_some_iff.1 hv).1]
   exact hv
 | x::l1,e,l3,xs,⟨c,r,h1,h2,h3⟩=>by
   subst h1
   obtain ⟨c',h4,h5⟩:=LsAt.at_ hk h3
   refine ⟨c',h4,fun j v hv=>?_⟩
   have hl:=hk _ _ h2
   rw [List.length_cons,Nat.succ_mul,List.getElem?_append_right (by omega),show l1.length*k+k+j - c.length=l1.length*k+j by omega]
   exact h5 j v hv
theorem cell_part {c xs:List Value} {b:Nat} (h:∀ j v,c[j]?=some v→xs[b+j]?=some v) (o:Nat) {m:List Value} (hm:∀ j v,m[j]?=some v→c[o+j]?=some v):∀ j v,m[j]?=some v→xs[b+o+j]?=some v:=fun j v hv=>by
 rw [Nat.add_assoc]
 exact h _ _ (hm j v hv)
theorem mid_get (p m q:List Value):∀ j v,m[j]?=some v→(p++m++q)[p.length+j]?=some v:=fun j v hv=>by
 have hj:=(List.getElem?_eq_some_iff.1 hv).1
 rw [List.append_assoc,List.getElem?_append_right (by omega),show p.length+j - p.length=j by omega,List.getElem?_append_left hj]
 exact hv
inductive St where
 | mk (kind:Int) (name:List UInt8) (e:Ex) (body els:List St)
mutual
def swt:St→Nat
 | .mk _ _ e b l=>1+wgt e+swts b+swts l
def swts:List St→Nat
 | []=>0
 | s::l=>swt s+swts l
end
theorem swts_app:∀ (l r:List St),swts (l++r)=swts l+swts r
 | [],r=>by simp [swts]
 | e::l,r=>by
   rw [List.cons_append]
   simp only [swts]
   rw [swts_app l r]
   omega
theorem swt_pos (s:St):0<swt s:=by cases s;simp only [swt];omega
theorem swts_len:∀ (l:List St),l.length≤swts l
 | []=>Nat.zero_le _
 | e::l=>by
   have:=swts_len l
   have:=swt_pos e
   simp only [swts,List.length_cons]
   omega
mutual
def StAt (F:Nat→Prop) (w:World):St→List Value→Prop
 | .mk kind name e body els,cs=>∃ ec a cap xs b cap2 ys,cs = .int .i64 kind :: .string (str name)::(ec++[.slice a body.length cap,.slice b els.length cap2])∧ExAt F w e ec∧Sy.SlAt F w a body.length 9 xs∧StsAt F w body xs∧Sy.SlAt F w b els.length 9 ys∧StsAt F w els ys
def StsAt (F:Nat→Prop) (w:World):List St→List Value→Prop
 | [],xs=>xs=[]
 | e::l,xs=>∃ c r,xs=c++r∧StAt F w e c∧StsAt F w l r
end
theorem StsAt_ls {F:Nat→Prop} {w:World}:∀ {l:List St} {xs:List Value},StsAt F w l xs↔LsAt (StAt F w) l xs
 | [],xs=>by simp only [StsAt,LsAt]
 | e::l,xs=>by
   simp only [StsAt,LsAt]
   exact ⟨fun ⟨c,r,h1,h2,h3⟩=>⟨c,r,h1,h2,StsAt_ls.1 h3⟩,fun ⟨c,r,h1,h2,h3⟩=>⟨c,r,h1,h2,StsAt_ls.2 h3⟩⟩
theorem ExsAt_ls {F:Nat→Prop} {w:World}:∀ {l:List Ex} {xs:List Value},ExsAt F w l xs↔LsAt (ExAt F w) l xs
 | [],xs=>by simp only [ExsAt,LsAt]
 | e::l,xs=>by
   simp only [ExsAt,LsAt]
   exact ⟨fun ⟨c,r,h1,h2,h3⟩=>⟨c,r,h1,h2,ExsAt_ls.1 h3⟩,fun ⟨c,r,h1,h2,h3⟩=>⟨c,r,h1,h2,ExsAt_ls.2 h3⟩⟩
theorem StAt.len {F:Nat→Prop} {w:World} {s:St} {cs:List Value} (h:StAt F w s cs):cs.length=9:=by
 cases s
 simp only [StAt] at h
 obtain ⟨ec,a,cap,xs,b,cap2,ys,rfl,h2,_⟩:=h
 have:=h2.len
 simp [this]
mutual
theorem StAt.keep {F F':Nat→Prop} {w w':World} (hk:Sy.Keep F w w') (hF:∀ k,F k→F' k):∀ {s:St} {cs:List Value},StAt F w s cs→StAt F' w' s cs
 | .mk kind name e body els,cs,h=>by
   simp only [StAt] at h ⊢
   obtain ⟨ec,a,cap,xs,b,cap2,ys,h1,h2,h3,h4,h5,h6⟩:=h
   exact ⟨ec,a,cap,xs,b,cap2,ys,h1,h2.keep hk hF,(h3.keep hk).mono hF,StsAt.keep hk hF h4,(h5.keep hk).mono hF,StsAt.keep hk hF h6⟩
theorem StsAt.keep {F F':Nat→Prop} {w w':World} (hk:Sy.Keep F w w') (hF:∀ k,F k→F' k):∀ {l:List St} {xs:List Value},StsAt F w l xs→StsAt F' w' l xs
 | [],xs,h=>by simp only [StsAt] at h ⊢;exact h
 | e::l,xs,h=>by
   simp only [StsAt] at h ⊢
   obtain ⟨c,r,h1,h2,h3⟩:=h
   exact ⟨c,r,h1,StAt.keep hk hF h2,StsAt.keep hk hF h3⟩
end
theorem StsAt.at_ {F:Nat→Prop} {w:World} {l1:List St} {e:St} {l3:List St} {xs:List Value} (h:StsAt F w (l1++e::l3) xs):∃ c,StAt F w e c∧∀ j v,c[j]?=some v→xs[l1.length*9+j]?=some v:=
 LsAt.at_ (fun _ _ h=>h.len) (StsAt_ls.1 h)
structure Vr where
 name:List UInt8
 ty:Int
 bits:Int
def VrAt (v:Vr) (cs:List Value):Prop:=cs=[.string (str v.name),.int .u8 v.ty,.int .u64 v.bits]
theorem VrAt.len {v:Vr} {cs:List Value} (h:VrAt v cs):cs.length=3:=by rw [h];rfl
def TxAt (s:List UInt8) (cs:List Value):Prop:=cs=[.string (str s)]
theorem TxAt.len {v:List UInt8} {cs:List Value} (h:TxAt v cs):cs.length=1:=by rw [h];rfl
structure Th where
 name:List UInt8
 locals:List Vr
 body:List St
def ThAt (F:Nat→Prop) (w:World) (t:Th) (cs:List Value):Prop:=
 ∃ a cap xs b cap2 ys,cs=[.string (str t.name),.slice a t.locals.length cap,.slice b t.body.length cap2]∧Sy.SlAt F w a t.locals.length 3 xs∧LsAt VrAt t.locals xs∧Sy.SlAt F w b t.body.length 9 ys∧StsAt F w t.body ys
theorem ThAt.len {F:Nat→Prop} {w:World} {t:Th} {cs:List Value} (h:ThAt F w t cs):cs.length=3:=by
 obtain ⟨a,cap,xs,b,cap2,ys,rfl,_⟩:=h;rfl
theorem ThAt.keep {F F':Nat→Prop} {w w':World} (hk:Sy.Keep F w w') (hF:∀ k,F k→F' k) {t:Th} {cs:List Value} (h:ThAt F w t cs):ThAt F' w' t cs:=by
 obtain ⟨a,cap,xs,b,cap2,ys,h1,h2,h3,h4,h5⟩:=h
 exact ⟨a,cap,xs,b,cap2,ys,h1,(h2.keep hk).mono hF,h3,(h4.keep hk).mono hF,h5.keep hk hF⟩
structure Pg where
 shared:List Vr
 mutexes:List (List UInt8)
 threads:List Th
def PgAt (F:Nat→Prop) (w:World) (p:Pg) (cs:List Value):Prop:=
 ∃ a cap xs b cap2 ys d cap3 zs,cs=[.slice a p.shared.length cap,.slice b p.mutexes.length cap2,.slice d p.threads.length cap3]∧Sy.SlAt F w a p.shared.length 3 xs∧LsAt VrAt p.shared xs∧Sy.SlAt F w b p.mutexes.length 1 ys∧LsAt TxAt p.mutexes ys∧Sy.SlAt F w d p.threads.length 3 zs∧LsAt (ThAt F w) p.threads zs
theorem PgAt.keep {F F':Nat→Prop} {w w':World} (hk:Sy.Keep F w w') (hF:∀ k,F k→F' k) {p:Pg} {cs:List Value} (h:PgAt F w p cs):PgAt F' w' p cs:=by
 obtain ⟨a,cap,xs,b,cap2,ys,d,cap3,zs,h1,h2,h3,h4,h5,h6,h7⟩:=h
 exact ⟨a,cap,xs,b,cap2,ys,d,cap3,zs,h1,(h2.keep hk).mono hF,h3,(h4.keep hk).mono hF,h5,(h6.keep hk).mono hF,h7.imp (fun _ _ h=>h.keep hk hF)⟩
def thw (t:Th):Nat:=1+t.locals.length+swts t.body
def thws:List Th→Nat
 | []=>0
 | t::l=>thw t+thws l
theorem thws_app:∀ (l r:List Th),thws (l++r)=thws l+thws r
 | [],r=>by simp [thws]
 | e::l,r=>by
   rw [List.cons_append]
   simp only [thws]
   rw [thws_app l r]
   omega
theorem thws_len:∀ (l:List Th),l.length≤thws l
 | []=>Nat.zero_le _
 | e::l=>by
   have:=thws_len l
   simp only [thws,List.length_cons,thw]
   omega
def pwt (p:Pg):Nat:=p.shared.length+p.mutexes.length+thws p.threads
end Go.Proofs.YtiacalnkmnckjaaGreatDoor
end
section
namespace Go.Proofs.YtiacalnkmnckjaaGreatDoor
open Go.RowKit Go.As
noncomputable def realP (b:Nat):Option (List UInt8):=open Classical in if h:∃ t,PSpec (toN b) t 0 then some h.choose else none
theorem realP_ok {b:Nat} {t:List UInt8} (h:PSpec (toN b) t 0):realP b=some t:=by
 unfold realP
 have hx:∃ t,PSpec (toN b) t 0:=⟨t,h⟩
 rw [dif_pos hx]
 exact congrArg some (hx.choose_spec.uniq h).1
theorem realP_no {b:Nat} {t:List UInt8} {z:Int} (h:PSpec (toN b) t z) (hz:z≠0):realP b=none:=by
 unfold realP
 rw [dif_neg]
 rintro ⟨s,hs⟩
 exact hz (hs.uniq h).2.symm
def nanBits:Int:=9221120237041090560
def infBits:Int:=9218868437227405312
def signBits:Int:=9223372036854775808
noncomputable def litT (ty bits:Int):Option (List UInt8):=
 if ty=1 then (if bits<signBits then some (Lib.decDigits bits.toNat) else none)
 else if ty=2 then (if bits=1 then some [116,114,117,101] else if bits=0 then some [102,97,108,115,101] else none)
 else if ty=3 then (if bits=nanBits then some [110,97,110] else if bits=infBits then some [105,110,102] else if bits<signBits then realP bits.toNat else none)
 else none
noncomputable def valT (ty bits:Int):Option (List UInt8):=
 if ty=1 then (if bits<signBits then some (Lib.decDigits bits.toNat) else if bits=signBits then none else some (45::Lib.decDigits (18446744073709551616 - bits).toNat))
 else if ty=3 then (if bits<signBits then litT 3 bits else if bits - signBits=nanBits then none else (litT 3 (bits - signBits)).map (45::·))
 else litT ty bits
def signT (op:Int):List UInt8:=
 if op=3 then [124,124] else if op=4 then [38,38] else if op=5 then [61,61] else if op=6 then [33,61] else if op=7 then [60] else if op=8 then [60,61] else if op=9 then [62] else if op=10 then [62,61]
 else if op=11 then [43] else if op=12 then [45] else if op=13 then [42] else if op=14 then [47] else if op=15 then [37] else []
mutual
noncomputable def exT:Ex→Option (List UInt8)
 | .mk op ty bits name kids=>
   if (op≠1∧¬ (ty=0∧bits=0))∨(op≠2∧name≠[]) then none
   else match exTs kids with
    | none=>none
    | some ks=>
      if op=1 then (match ks with | []=>litT ty bits | _=>none)
      else if op=2 then (match ks with | []=>if nameB name=true then some name else none | _=>none)
      else if 3≤op∧op≤15 then (match ks with | [a,b]=>some (40::(a++(32::(signT op++(32::(b++[41])))))) | _=>none)
      else if op=16 then (match ks with | [a]=>some (45::a) | _=>none)
      else if op=17 then (match ks with | [a]=>some (33::a) | _=>none)
      else if op=18 then (match ks with | [a]=>some ([105,110,116,40]++(a++[41])) | _=>none)
      else if op=19 then (match ks with | [a]=>some ([114,101,97,108,40]++(a++[41])) | _=>none)
      else none
noncomputable def exTs:List Ex→Option (List (List UInt8))
 | []=>some []
 | e::l=>match exT e with
   | none=>none
   | some t=>match exTs l with
     | none=>none
     | some ts=>some (t::ts)
end
noncomputable def ex32 (e:Ex):Option (List UInt8):=if hgt e≤32 then exT e else none
def exNone:Ex→Bool
 | .mk op ty bits name kids=>decide (op=0∧ty=0∧bits=0∧name=[]∧kids.length=0)
def margT (deep:Nat):List UInt8:=(List.replicate (deep+1) [32,32]).flatten
mutual
noncomputable def stT (deep:Nat):St→Option (List UInt8)
 | .mk kind name e body els=>
   if kind=1 then (if nameB name=true∧body.length=0∧els.length=0 then (ex32 e).map fun t=>margT deep++(name++([32,61,32]++(t++[59,10]))) else none)
   else if kind=2 then (if nameB name=true∧exNone e=true∧body.length=0∧els.length=0 then some (margT deep++([108,111,99,107,32]++(name++[59,10]))) else none)
   else if kind=3 then (if nameB name=true∧exNone e=true∧body.length=0∧els.length=0 then some (margT deep++([117,110,108,111,99,107,32]++(name++[59,10]))) else none)
   else if kind=4 then (if name=[]∧body.length=0∧els.length=0 then (ex32 e).map fun t=>margT deep++([97,115,115,101,114,116,32]++(t++[59,10])) else none)
   else if kind=7 then (if name=[]∧exNone e=true∧body.length=0∧els.length=0 then some (margT deep++[115,107,105,112,59,10]) else none)
   else if kind=5∨kind=6 then
    match stsT (deep+1) body,stsT (deep+1) els,ex32 e with
    | some b,some l,some t=>
      if name≠[]∨(kind=6∧0<els.length) then none
      else if kind=6 then some (margT deep++([119,104,105,108,101,32]++(t++([32,123,10]++(b++(margT deep++[125,10]))))))
      else if 0<els.length then some (margT deep++([105,102,32]++(t++([32,123,10]++(b++(margT deep++([125,32,101,108,115,101,32,123,10]++(l++(margT deep++[125,10])))))))))
      else some (margT deep++([105,102,32]++(t++([32,123,10]++(b++(margT deep++[125,10]))))))
    | _,_,_=>none
   else none
noncomputable def stsT (deep:Nat):List St→Option (List UInt8)
 | []=>some []
 | s::l=>if 32<deep then none else match stT deep s with
   | none=>none
   | some t=>match stsT deep l with
     | none=>none
     | some ts=>some (t++ts)
end
def typT (ty:Int):List UInt8:=if ty=2 then [98,111,111,108] else if ty=3 then [114,101,97,108] else [105,110,116]
noncomputable def vrT (word:List UInt8) (v:Vr):Option (List UInt8):=
 if nameB v.name=true then (valT v.ty v.bits).map fun t=>word++(32::(v.name++(32::(typT v.ty++([32,61,32]++(t++[59,10]))))) ) else none
def allT {α:Type} (f:α→Option (List UInt8)):List α→Option (List UInt8)
 | []=>some []
 | x::l=>match f x with
   | none=>none
   | some t=>match allT f l with
     | none=>none
     | some ts=>some (t++ts)
def mxT (m:List UInt8):Option (List UInt8):=if nameB m=true then some ([109,117,116,101,120,32]++(m++[59,10])) else none
noncomputable def thT (t:Th):Option (List UInt8):=
 match allT (vrT [32,32,108,111,99,97,108]) t.locals,stsT 0 t.body with
 | some a,some b=>if nameB t.name=true then some ([116,104,114,101,97,100,32]++(t.name++([32,123,10]++(a++(b++[125,10]))))) else none
 | _,_=>none
noncomputable def pgT (p:Pg):Option (List UInt8):=
 match allT (vrT [115,104,97,114,101,100]) p.shared,allT mxT p.mutexes,allT thT p.threads with
 | some a,some b,some c=>some (a++(b++c))
 | _,_,_=>none
noncomputable def printS (p:Pg):List UInt8:=match pgT p with
 | none=>[]
 | some t=>if 16384<t.length then [] else t
noncomputable def printE (p:Pg):Int:=match pgT p with
 | none=>2
 | some t=>if 16384<t.length then 3 else 0
theorem allT_app {α:Type} (f:α→Option (List UInt8)):∀ (l r:List α),allT f (l++r)=match allT f l,allT f r with
  | some a,some b=>some (a++b)
  | _,_=>none
 | [],r=>by
   simp only [List.nil_append,allT]
   cases allT f r <;> simp
 | x::l,r=>by
   simp only [List.cons_append,allT]
   rw [allT_app f l r]
   cases f x with
   | none=>rfl
   | some a=>
     cases allT f l with
     | none=>rfl
     | some b=>
       cases allT f r with
       | none=>rfl
       | some c=>simp
theorem stsT_all (deep:Nat):∀ (l:List St),stsT deep l=if 32<deep∧0<l.length then none else allT (stT deep) l
 | []=>by simp [stsT,allT]
 | s::l=>by
   simp only [stsT,allT]
   rw [stsT_all deep l]
   by_cases h:32<deep
   · simp [h]
   · simp [h]
theorem exTs_len:∀ {l:List Ex} {ks:List (List UInt8)},exTs l=some ks→ks.length=l.length
 | [],ks,h=>by
   simp only [exTs,Option.some.injEq] at h
   subst h
   rfl
 | e::l,ks,h=>by
   simp only [exTs] at h
   split at h
   · cases h
   split at h
   · cases h
   rename_i h1
   injection h with h
   subst h
   simp [exTs_len h1]
end Go.Proofs.YtiacalnkmnckjaaGreatDoor
end
section
namespace Go.Proofs.YtiacalnkmnckjaaGreatDoor
open Go.RowKit Go.As
def kidsN (op:Int):Int:=if op=1∨op=2 then 0 else if 3≤op∧op≤15 then 2 else if 16≤op∧op≤19 then 1 else -1
theorem kids_any (op:Int) (w:World):Calls Tryz.prog 130 #[.int .u8 op] w fun e w'=>e = .returned (.int .i64 (kidsN op))∧w=w':=by
 go_enter Tryz.func130,Tryz.ntmps130
 go_wp2
 all_goals
  go_ret
  refine ⟨ret_int ?_,rfl⟩
  simp only [kidsN]
  (try simp only [decide_eq_true_eq,decide_eq_false_iff_not,beq_iff_eq,bne_iff_ne,Bool.not_eq_true,beq_eq_false_iff_ne] at *)
  repeat' split
  all_goals first | omega | simp_all
def psignT (op:Int):List UInt8:=if op=16 then [45] else if op=17 then [33] else signT op
open Go.Sy in
set_option maxRecDepth 100000 in
theorem psign_any (op:Int) (w:World):Calls Tryz.prog 133 #[.int .u8 op] w fun e w'=>e = .returned (.string (str (psignT op)))∧Below w.heap.size w w':=by
 refine Sy.enter (vs:=[.int .u8 op]) sy_fine Tryz.func133 rfl (fun γ=>norms_LR _) rfl (fun γ0 hγ0=>?_)
 refine rk ?_
 by_cases h3:op=3
 ·
  refine gK true (b:=intEq op 3) (eq_t h3) ?_
  refine rs [] 60 3 ?_
  refine gR (.string (str [124,124])) (fun W hk=>⟨?_,hk.below⟩)
  subst h3
  rfl
 refine gK false (b:=intEq op 3) (eq_f h3) ?_
 refine rk ?_
 by_cases h4:op=4
 ·
  refine gK true (b:=intEq op 4) (eq_t h4) ?_
  refine rs [] 60 3 ?_
  refine gR (.string (str [38,38])) (fun W hk=>⟨?_,hk.below⟩)
  subst h4
  rfl
 refine gK false (b:=intEq op 4) (eq_f h4) ?_
 refine rk ?_
 by_cases h5:op=5
 ·
  refine gK true (b:=intEq op 5) (eq_t h5) ?_
  refine rs [] 60 3 ?_
  refine gR (.string (str [61,61])) (fun W hk=>⟨?_,hk.below⟩)
  subst h5
  rfl
 refine gK false (b:=intEq op 5) (eq_f h5) ?_
 refine rk ?_
 by_cases h6:op=6
 ·
  refine gK true (b:=intEq op 6) (eq_t h6) ?_
  refine rs [] 60 3 ?_
  refine gR (.string (str [33,61])) (fun W hk=>⟨?_,hk.below⟩)
  subst h6
  rfl
 refine gK false (b:=intEq op 6) (eq_f h6) ?_
 refine rk ?_
 by_cases h7:op=7
 ·
  refine gK true (b:=intEq op 7) (eq_t h7) ?_
  refine rs [] 60 3 ?_
  refine gR (.string (str [60])) (fun W hk=>⟨?_,hk.below⟩)
  subst h7
  rfl
 refine gK false (b:=intEq op 7) (eq_f h7) ?_
 refine rk ?_
 by_cases h8:op=8
 ·
  refine gK true (b:=intEq op 8) (eq_t h8) ?_
  refine rs [] 60 3 ?_
  refine gR (.string (str [60,61])) (fun W hk=>⟨?_,hk.below⟩)
  subst h8
  rfl
 refine gK false (b:=intEq op 8) (eq_f h8) ?_
 refine rk ?_
 by_cases h9:op=9
 ·
  refine gK true (b:=intEq op 9) (eq_t h9) ?_
  refine rs [] 60 3 ?_
  refine gR (.string (str [62])) (fun W hk=>⟨?_,hk.below⟩)
  subst h9
  rfl
 refine gK false (b:=intEq op 9) (eq_f h9) ?_
 refine rk ?_
 by_cases h10:op=10
 ·
  refine gK true (b:=intEq op 10) (eq_t h10) ?_
  refine rs [] 60 3 ?_
  refine gR (.string (str [62,61])) (fun W hk=>⟨?_,hk.below⟩)
  subst h10
  rfl
 refine gK false (b:=intEq op 10) (eq_f h10) ?_
 refine rk ?_
 by_cases h11:op=11
 ·
  refine gK true (b:=intEq op 11) (eq_t h11) ?_
  refine rs [] 60 3 ?_
  refine gR (.string (str [43])) (fun W hk=>⟨?_,hk.below⟩)
  subst h11
  rfl
 refine gK false (b:=intEq op 11) (eq_f h11) ?_
 refine rk ?_
 by_cases h12:op=12
 ·
  refine gK true (b:=intEq op 12) (eq_t h12) ?_
  refine rk ?_
  refine gK true (b:=intEq op 12) (eq_t h12) ?_
  refine rs [] 60 3 ?_
  refine gR (.string (str [45])) (fun W hk=>⟨?_,hk.below⟩)
  subst h12
  rfl
 refine gK false (b:=intEq op 12) (eq_f h12) ?_
 refine rk ?_
 by_cases h16:op=16
 ·
  refine gK true (b:=intEq op 16) (eq_t h16) ?_
  refine rs [] 60 3 ?_
  refine gR (.string (str [45])) (fun W hk=>⟨?_,hk.below⟩)
  subst h16
  rfl
 refine gK false (b:=intEq op 16) (eq_f h16) ?_
 refine rk ?_
 by_cases h13:op=13
 ·
  refine gK true (b:=intEq op 13) (eq_t h13) ?_
  refine rs [] 60 3 ?_
  refine gR (.string (str [42])) (fun W hk=>⟨?_,hk.below⟩)
  subst h13
  rfl
 refine gK false (b:=intEq op 13) (eq_f h13) ?_
 refine rk ?_
 by_cases h14:op=14
 ·
  refine gK true (b:=intEq op 14) (eq_t h14) ?_
  refine rs [] 60 3 ?_
  refine gR (.string (str [47])) (fun W hk=>⟨?_,hk.below⟩)
  subst h14
  rfl
 refine gK false (b:=intEq op 14) (eq_f h14) ?_
 refine rk ?_
 by_cases h15:op=15
 ·
  refine gK true (b:=intEq op 15) (eq_t h15) ?_
  refine rs [] 60 3 ?_
  refine gR (.string (str [37])) (fun W hk=>⟨?_,hk.below⟩)
  subst h15
  rfl
 refine gK false (b:=intEq op 15) (eq_f h15) ?_
 refine rk ?_
 by_cases h17:op=17
 ·
  refine gK true (b:=intEq op 17) (eq_t h17) ?_
  refine rs [] 60 3 ?_
  refine gR (.string (str [33])) (fun W hk=>⟨?_,hk.below⟩)
  subst h17
  rfl
 refine gK false (b:=intEq op 17) (eq_f h17) ?_
 refine rk ?_
 refine gR (.string (str [])) (fun W hk=>⟨?_,hk.below⟩)
 simp [psignT,signT,h3,h4,h5,h6,h7,h8,h9,h10,h11,h12,h16,h13,h14,h15,h17]
def ptypT (ty:Int):List UInt8:=if ty=1 then [105,110,116] else if ty=2 then [98,111,111,108] else [114,101,97,108]
open Go.Sy in
set_option maxRecDepth 100000 in
theorem ptype_any (ty:Int) (w:World):Calls Tryz.prog 124 #[.int .u8 ty] w fun e w'=>e = .returned (.string (str (ptypT ty)))∧Below w.heap.size w w':=by
 refine Sy.enter (vs:=[.int .u8 ty]) sy_fine Tryz.func124 rfl (fun γ=>norms_LR _) rfl (fun γ0 hγ0=>?_)
 refine rk ?_
 by_cases h1:ty=1
 ·
  refine gK true (b:=intEq ty 1) (eq_t h1) ?_
  refine rs [] 60 3 ?_
  refine gR (.string (str [105,110,116])) (fun W hk=>⟨?_,hk.below⟩)
  subst h1
  rfl
 refine gK false (b:=intEq ty 1) (eq_f h1) ?_
 refine rk ?_
 by_cases h2:ty=2
 ·
  refine gK true (b:=intEq ty 2) (eq_t h2) ?_
  refine rs [] 60 3 ?_
  refine gR (.string (str [98,111,111,108])) (fun W hk=>⟨?_,hk.below⟩)
  subst h2
  rfl
 refine gK false (b:=intEq ty 2) (eq_f h2) ?_
 refine rk ?_
 refine gR (.string (str [114,101,97,108])) (fun W hk=>⟨?_,hk.below⟩)
 simp [ptypT,h1,h2]
end Go.Proofs.YtiacalnkmnckjaaGreatDoor
end
section
namespace Go.Proofs.YtiacalnkmnckjaaGreatDoor
open Go.RowKit Go.As
theorem rprint_P (b:Nat) (hb:b<18446744073709551616) (w:World) (ht:Tab w):
  Calls Tryz.prog 200 #[.int .u64 (b:Int)] w fun e w'=>e = .returned (.tuple #[.string (str ((realP b).getD [])),.int .i64 (if (realP b).isSome then 0 else 2)])∧Below w.heap.size w w':=by
 refine (rprint_any b hb w ht).mono ?_
 rintro e w' ⟨s,y,rfl,hp,hbl⟩
 refine ⟨?_,hbl⟩
 rcases hp with ⟨h1,h2⟩ | ⟨h1,h2,h3⟩
 · subst h1
   rw [realP_ok (.inl ⟨rfl,h2⟩)]
   rfl
 · subst h1 h2
   rw [realP_no (.inr ⟨rfl,rfl,h3⟩) (by decide)]
   rfl
theorem realP_bound {b:Nat} {t:List UInt8} (h:realP b=some t):toN b=b∧b<9223372036854775808∧PSpec b t 0:=by
 have hx:PSpec (toN b) t 0:=by
  rcases PSpec.total (toN b) with ⟨s,hs⟩ | hs
  · rw [realP_ok hs] at h
    injection h with h
    subst h
    exact hs
  · rw [realP_no hs (by decide)] at h
    cases h
 have hb:∃ k n,LitIs (toN b) k n:=by
  rcases hx with ⟨_,k,n,h1,_⟩ | ⟨h1,_⟩
  · exact ⟨k,n,h1⟩
  · cases h1
 obtain ⟨k,n,hl⟩:=hb
 obtain ⟨_,h2,h3⟩:=hl.bound
 rcases toN_cases b with ⟨_,h4⟩ | ⟨_,h4⟩
 · rw [h4] at h3 hx
   exact ⟨h4,h3,hx⟩
 · rw [h4] at h2
   exact absurd h2 (by decide)
noncomputable def numB (n:Nat):Bool:=decide ((n:Int)=nanBits) || (decide ((n:Int)=infBits) || (realP n).isSome)
theorem ge_pos {n:Nat} (hn:n<18446744073709551616):(!(Sy.intLt (IntKind.wrap .i64 (n:Int)) 0))=decide (n<9223372036854775808):=by
 rw [Sy.intLt_eq,IntKind.wrap_i64]
 by_cases h:n<9223372036854775808
 · rw [decide_eq_true h,decide_eq_false (by omega)]
   rfl
 · rw [decide_eq_false h,decide_eq_true (by omega)]
   rfl
theorem le_one {n:Nat}:(!(Sy.intLt 1 (n:Int)))=decide (n≤1):=by
 rw [Sy.intLt_eq]
 by_cases h:n≤1
 · rw [decide_eq_true h,decide_eq_false (by omega)]
   rfl
 · rw [decide_eq_false h,decide_eq_true (by omega)]
   rfl
theorem and_off {b:Nat} (h:b<18446744073709551616):(b &&& 9223372036854775807)=b % 9223372036854775808:=by
 have:=Nat.and_two_pow_sub_one_eq_mod b 63
 simpa using this
theorem bits_off {b:Nat} (h:b<18446744073709551616):Go.bits .andNot .u64 (b:Int) 9223372036854775808=((b % 9223372036854775808:Nat):Int):=by
 have e:(BitVec.ofInt 64 (b:Int) &&& ~~~(BitVec.ofInt 64 9223372036854775808)).toNat=b % 9223372036854775808:=by
  rw [BitVec.toNat_and]
  have h1:(BitVec.ofInt 64 (b:Int)).toNat=b:=by rw [BitVec.toNat_ofInt];omega
  have h2:(~~~(BitVec.ofInt 64 9223372036854775808)).toNat=9223372036854775807:=by decide
  rw [h1,h2,and_off h]
 show IntKind.u64.wrap _=_
 have e3:∀ n:Int,IntKind.u64.wrap n=n % 18446744073709551616:=fun n=>rfl
 rw [e3]
 have e4:((BitVec.ofInt IntKind.u64.bits (b:Int) &&& ~~~(BitVec.ofInt IntKind.u64.bits 9223372036854775808)).toNat:Nat)=b % 9223372036854775808:=e
 rw [e4]
 omega
theorem cat_str (x y:Operand) (a b:List UInt8) (h:a.length+b.length≤9223372036854775807) (w:World):
  ((do eqGuard .add 9 x y (.string (str a)) (.string (str b));binOp .add 9 (.string (str a)) (.string (str b))):Sem Value).run Tryz.prog w = .ok (.string (str (a++b))) w:=by
 have e:(eqGuard .add 9 x y (.string (str a)) (.string (str b))).run Tryz.prog w = .ok () w:=rfl
 rw [Sem.run_bind,e,← str_append]
 show (Op.stringOp .add (str a) (str b)).run Tryz.prog w=_
 exact run_string_add_sum w (str a) (str b) (by rw [str_size,str_size];exact h)
noncomputable def rTp (n:Nat):List UInt8:=if (n:Int)=9221120237041090560 then [110,97,110] else if (n:Int)=9218868437227405312 then [105,110,102] else (realP n).getD []
noncomputable def rTx (n:Nat):List UInt8:=if n<9223372036854775808 then rTp n else 45::rTp (n - 9223372036854775808)
theorem rTp_len (n:Nat):(rTp n).length≤1048576:=by
 unfold rTp
 split
 · decide
 split
 · decide
 cases h:realP n with
 | none=>decide
 | some t=>exact (realP_bound h).2.2.len
theorem shr_top (n:Nat) (hn:n<18446744073709551616):Int.fdiv (n:Int) (2 ^ min (Int.toNat 63) IntKind.u64.bits)=if n<9223372036854775808 then 0 else 1:=by
 have e:(2:Int) ^ min (Int.toNat 63) IntKind.u64.bits=9223372036854775808:=by decide
 rw [e,Int.fdiv_eq_ediv_of_nonneg _ (by omega)]
 split <;> omega
open Go.Sy in
set_option maxRecDepth 100000 in
theorem number_any (n:Nat) (hn:n<18446744073709551616) (w:World) (ht:Tab w):
  Calls Tryz.prog 136 #[.int .u64 (n:Int)] w fun e w'=>e = .returned (.bool (numB n))∧Below w.heap.size w w':=by
 refine Sy.enter (vs:=[.int .u64 (n:Int)]) sy_fine Tryz.func136 rfl (fun γ=>norms_LR _) rfl (fun γ0 hγ0=>?_)
 refine rs [8] 60 0 ?_
 by_cases h1:(n:Int)=9221120237041090560
 ·
  refine gS 6 (x := .bool (intEq (n:Int) 9221120237041090560)) (.bool true) (by rw [eq_t h1]) ?_
  refine gS 7 (x := .bool (intEq (n:Int) 9221120237041090560)) (.bool true) (by rw [eq_t h1]) ?_
  refine rs [] 60 3 ?_
  refine gR (.bool true) (fun W hk=>⟨?_,hk.below⟩)
  simp [numB,nanBits,h1]
 refine gS 6 (x := .bool (intEq (n:Int) 9221120237041090560)) (.bool false) (by rw [eq_f h1]) ?_
 refine gS 7 (x := .bool (intEq (n:Int) 9221120237041090560)) (.bool false) (by rw [eq_f h1]) ?_
 refine rk ?_
 by_cases h2:(n:Int)=9218868437227405312
 ·
  refine gK true (b:=intEq (n:Int) 9218868437227405312) (eq_t h2) ?_
  refine rk ?_
  refine gR (.bool true) (fun W hk=>⟨?_,hk.below⟩)
  simp [numB,infBits,h2]
 refine gK false (b:=intEq (n:Int) 9218868437227405312) (eq_f h2) ?_
 refine rk ?_
 have hp:=fun W (hk:Keep (·<w.heap.size) w W)=>rprint_P n hn W (ht.below hk.below)
 cases h3:realP n with
 | none=>
   refine gX [.int .u64 (n:Int)] (.tuple #[.string (str []),.int .i64 2]) (fun W hk=>by have:=hp W hk;rw [h3] at this;exact this) ?_
   refine rs [] 60 3 ?_
   refine gR (.bool false) (fun W hk=>⟨?_,hk.below⟩)
   simp [numB,nanBits,infBits,h1,h2,h3]
 | some t=>
   refine gX [.int .u64 (n:Int)] (.tuple #[.string (str t),.int .i64 0]) (fun W hk=>by have:=hp W hk;rw [h3] at this;exact this) ?_
   refine rs [] 60 3 ?_
   refine gP [.int .u64 (n:Int)] (.bool true) (fun W hk=>kmay W (realP_bound h3).1) ?_
   refine rs [] 60 3 ?_
   refine gR (.bool true) (fun W hk=>⟨?_,hk.below⟩)
   simp [numB,h3]
noncomputable def litB (ty:Int) (n:Nat):Bool:=if ty=1 then decide (n<9223372036854775808) else if ty=2 then decide (n≤1) else if ty=3 then numB n else false
open Go.Sy in
set_option maxRecDepth 100000 in
theorem tliteral_any (ty:Int) (n:Nat) (hn:n<18446744073709551616) (w:World) (ht:Tab w):
  Calls Tryz.prog 132 #[.agg #[.int .u8 ty,.int .u64 (n:Int)]] w fun e w'=>e = .returned (.bool (litB ty n))∧Below w.heap.size w w':=by
 refine Sy.enter (vs:=[.agg #[.int .u8 ty,.int .u64 (n:Int)]]) sy_fine Tryz.func132 rfl (fun γ=>norms_LR _) rfl (fun γ0 hγ0=>?_)
 refine rk ?_
 by_cases h1:ty=1
 ·
  refine gK true (b:=intEq ty 1) (eq_t h1) ?_
  refine rs [] 60 3 ?_
  refine gR (.bool (!(intLt (IntKind.wrap .i64 (n:Int)) 0))) (fun W hk=>⟨?_,hk.below⟩)
  rw [litB,if_pos h1,ge_pos hn]
 refine gK false (b:=intEq ty 1) (eq_f h1) ?_
 refine rk ?_
 by_cases h2:ty=2
 ·
  refine gK true (b:=intEq ty 2) (eq_t h2) ?_
  refine rs [] 60 3 ?_
  refine gR (.bool (!(intLt 1 (n:Int)))) (fun W hk=>⟨?_,hk.below⟩)
  rw [litB,if_neg h1,if_pos h2,le_one]
 refine gK false (b:=intEq ty 2) (eq_f h2) ?_
 refine rk ?_
 by_cases h3:ty=3
 ·
  refine gK true (b:=intEq ty 3) (eq_t h3) ?_
  refine rs [] 60 3 ?_
  refine gX [.int .u64 (n:Int)] (.bool (numB n)) (fun W hk=>number_any n hn W (ht.below hk.below)) ?_
  refine rs [] 60 3 ?_
  refine gR (.bool (numB n)) (fun W hk=>⟨?_,hk.below⟩)
  rw [litB,if_neg h1,if_neg h2,if_pos h3]
 refine gK false (b:=intEq ty 3) (eq_f h3) ?_
 refine rs [] 60 3 ?_
 refine gR (.bool false) (fun W hk=>⟨?_,hk.below⟩)
 simp [litB,h1,h2,h3]
open Classical in
noncomputable def firB (ty:Int) (n:Nat):Bool:=if ty=1 then !decide ((n:Int)=9223372036854775808) else if ty=2 then decide (n≤1) else if ty=3 then (if (n:Int)=9221120237041090560 then true else if toN n=n then numB (n % 9223372036854775808) else false) else false
open Go.Sy in
set_option maxRecDepth 100000 in
theorem tfirst_any (ty:Int) (n:Nat) (hn:n<18446744073709551616) (w:World) (ht:Tab w):
  Calls Tryz.prog 62 #[.agg #[.int .u8 ty,.int .u64 (n:Int)]] w fun e w'=>e = .returned (.bool (firB ty n))∧Below w.heap.size w w':=by
 refine Sy.enter (vs:=[.agg #[.int .u8 ty,.int .u64 (n:Int)]]) sy_fine Tryz.func62 rfl (fun γ=>norms_LR _) rfl (fun γ0 hγ0=>?_)
 refine rk ?_
 by_cases h1:ty=1
 ·
  refine gK true (b:=intEq ty 1) (eq_t h1) ?_
  refine rs [] 60 3 ?_
  refine gR (.bool (!(intEq (n:Int) 9223372036854775808))) (fun W hk=>⟨?_,hk.below⟩)
  rw [firB,if_pos h1,intEq_eq]
 refine gK false (b:=intEq ty 1) (eq_f h1) ?_
 refine rk ?_
 by_cases h2:ty=2
 ·
  refine gK true (b:=intEq ty 2) (eq_t h2) ?_
  refine rs [] 60 3 ?_
  refine gR (.bool (!(intLt 1 (n:Int)))) (fun W hk=>⟨?_,hk.below⟩)
  rw [firB,if_neg h1,if_pos h2,le_one]
 refine gK false (b:=intEq ty 2) (eq_f h2) ?_
 refine rk ?_
 by_cases h3:ty=3
 rotate_left
 ·
  refine gK false (b:=intEq ty 3) (eq_f h3) ?_
  refine rs [] 60 3 ?_
  refine gR (.bool false) (fun W hk=>⟨?_,hk.below⟩)
  simp [firB,h1,h2,h3]
 refine gK true (b:=intEq ty 3) (eq_t h3) ?_
 refine rk ?_
 by_cases h4:(n:Int)=9221120237041090560
 ·
  refine gK true (b:=intEq (n:Int) 9221120237041090560) (eq_t h4) ?_
  refine rs [] 60 3 ?_
  refine gR (.bool true) (fun W hk=>⟨?_,hk.below⟩)
  rw [firB,if_neg h1,if_neg h2,if_pos h3,if_pos h4]
 refine gK false (b:=intEq (n:Int) 9221120237041090560) (eq_f h4) ?_
 refine rk ?_
 by_cases h5:toN n=n
 rotate_left
 ·
  refine gP [.int .u64 (n:Int)] (.bool false) (fun W hk=>by have:=pmay_any (n:Int) W;rw [Int.toNat_natCast,beq_false_of_ne (fun h=>h5 (by omega))] at this;exact this) ?_
  refine rs [] 60 3 ?_
  refine gR (.bool false) (fun W hk=>⟨?_,hk.below⟩)
  rw [firB,if_neg h1,if_neg h2,if_pos h3,if_neg h4,if_neg h5]
 refine gP [.int .u64 (n:Int)] (.bool true) (fun W hk=>kmay W h5) ?_
 refine rs [27] 60 3 ?_
 refine gS 26 (x := .int .u64 (Go.bits .andNot .u64 (n:Int) 9223372036854775808)) (.int .u64 ((n % 9223372036854775808:Nat):Int)) (by rw [bits_off hn]) ?_
 refine rs [] 60 3 ?_
 refine gX [.int .u64 ((n % 9223372036854775808:Nat):Int)] (.bool (numB (n % 9223372036854775808))) (fun W hk=>number_any _ (by omega) W (ht.below hk.below)) ?_
 refine rs [] 60 3 ?_
 refine gR (.bool (numB (n % 9223372036854775808))) (fun W hk=>⟨?_,hk.below⟩)
 rw [firB,if_neg h1,if_neg h2,if_pos h3,if_neg h4,if_pos h5]
open Go.Sy in
set_option maxRecDepth 100000 in
theorem realTextP_any (n:Nat) (hp:n<9223372036854775808) (w:World) (ht:Tab w):
  Calls Tryz.prog 139 #[.int .u64 (n:Int)] w fun e w'=>e = .returned (.string (str (rTp n)))∧Below w.heap.size w w':=by
 refine Sy.enter (vs:=[.int .u64 (n:Int)]) sy_fine Tryz.func139 rfl (fun γ=>norms_LR _) rfl (fun γ0 hγ0=>?_)
 refine rk ?_
 by_cases h1:(n:Int)=9221120237041090560
 ·
  refine gK true (b:=intEq (n:Int) 9221120237041090560) (eq_t h1) ?_
  refine rs [] 60 3 ?_
  refine gR (.string (str [110,97,110])) (fun W hk=>⟨?_,hk.below⟩)
  rw [rTp,if_pos h1]
 refine gK false (b:=intEq (n:Int) 9221120237041090560) (eq_f h1) ?_
 refine rk ?_
 by_cases h2:(n:Int)=9218868437227405312
 ·
  refine gK true (b:=intEq (n:Int) 9218868437227405312) (eq_t h2) ?_
  refine rs [] 60 3 ?_
  refine gR (.string (str [105,110,102])) (fun W hk=>⟨?_,hk.below⟩)
  rw [rTp,if_neg h1,if_pos h2]
 refine gK false (b:=intEq (n:Int) 9218868437227405312) (eq_f h2) ?_
 refine rs [12] 60 0 ?_
 refine gS 11 (x := .int .u64 (Int.fdiv (n:Int) (2 ^ min (Int.toNat 63) IntKind.u64.bits))) (.int .u64 0) (by rw [shr_top n (by omega),if_pos hp]) ?_
 refine rs [] 60 1 ?_
 refine gX [.int .u64 (n:Int)] (.tuple #[.string (str ((realP n).getD [])),.int .i64 (if (realP n).isSome then 0 else 2)]) (fun W hk=>rprint_P n (by omega) W (ht.below hk.below)) ?_
 refine rs [] 60 1 ?_
 refine gR (.string (str ((realP n).getD []))) (fun W hk=>⟨?_,hk.below⟩)
 rw [rTp,if_neg h1,if_neg h2]
open Go.Sy in
set_option maxRecDepth 100000 in
theorem realTextN_any (n:Nat) (hn:n<18446744073709551616) (hp:9223372036854775808≤n) (w:World) (ht:Tab w):
  Calls Tryz.prog 139 #[.int .u64 (n:Int)] w fun e w'=>e = .returned (.string (str (rTx n)))∧Below w.heap.size w w':=by
 refine Sy.enter (vs:=[.int .u64 (n:Int)]) sy_fine Tryz.func139 rfl (fun γ=>norms_LR _) rfl (fun γ0 hγ0=>?_)
 refine rk ?_
 have h1:¬ (n:Int)=9221120237041090560:=by omega
 refine gK false (b:=intEq (n:Int) 9221120237041090560) (eq_f h1) ?_
 refine rk ?_
 have h2:¬ (n:Int)=9218868437227405312:=by omega
 refine gK false (b:=intEq (n:Int) 9218868437227405312) (eq_f h2) ?_
 refine rs [12] 60 0 ?_
 refine gS 11 (x := .int .u64 (Int.fdiv (n:Int) (2 ^ min (Int.toNat 63) IntKind.u64.bits))) (.int .u64 1) (by rw [shr_top n (by omega),if_neg (by omega)]) ?_
 refine rs [] 60 1 ?_
 obtain ⟨m,hm⟩:∃ m,m=n - 9223372036854775808:=⟨_,rfl⟩
 have e14:Go.bits .xor .u64 (n:Int) 9223372036854775808=(m:Int):=by rw [bits_neg hn,negW,if_neg (by omega),hm]
 refine gX [.int .u64 (Go.bits .xor .u64 (n:Int) 9223372036854775808)] (.string (str (rTp m))) (fun W hk=>by rw [e14];exact realTextP_any m (by omega) W (ht.below hk.below)) ?_
 refine rs [16] 60 1 ?_
 refine gC [45] (rTp m) (by have:=rTp_len m;simp;omega) ?_
 refine rs [] 60 1 ?_
 refine gR (.string (str ([45]++rTp m))) (fun W hk=>⟨?_,hk.below⟩)
 rw [rTx,if_neg (by omega),← hm]
 rfl
open Go.Sy in
set_option maxRecDepth 100000 in
theorem ifbool_any (b:Bool) (w:World):Calls Tryz.prog 202 #[.bool b] w fun e w'=>e = .returned (.string (str (if b then [116,114,117,101] else [102,97,108,115,101])))∧Below w.heap.size w w':=by
 cases b
 ·
  refine Sy.enter (vs:=[.bool false]) sy_fine Tryz.func202 rfl (fun γ=>norms_LR _) rfl (fun γ0 hγ0=>?_)
  refine rs [] 60 3 ?_
  refine gR (.string (str [102,97,108,115,101])) (fun W hk=>⟨rfl,hk.below⟩)
 ·
  refine Sy.enter (vs:=[.bool true]) sy_fine Tryz.func202 rfl (fun γ=>norms_LR _) rfl (fun γ0 hγ0=>?_)
  refine rs [] 60 3 ?_
  refine gR (.string (str [116,114,117,101])) (fun W hk=>⟨rfl,hk.below⟩)
open Go.Sy in
set_option maxRecDepth 100000 in
theorem fbool_any (b:Bool) (w:World):Calls Tryz.prog 138 #[.bool b] w fun e w'=>e = .returned (.string (str (if b then [116,114,117,101] else [102,97,108,115,101])))∧Below w.heap.size w w':=by
 cases b
 ·
  refine Sy.enter (vs:=[.bool false]) sy_fine Tryz.func138 rfl (fun γ=>norms_LR _) rfl (fun γ0 hγ0=>?_)
  refine rs [] 60 3 ?_
  refine gX [.bool false] (.string (str [102,97,108,115,101])) (fun W hk=>ifbool_any false W) ?_
  refine rs [] 60 3 ?_
  refine gR (.string (str [102,97,108,115,101])) (fun W hk=>⟨rfl,hk.below⟩)
 ·
  refine Sy.enter (vs:=[.bool true]) sy_fine Tryz.func138 rfl (fun γ=>norms_LR _) rfl (fun γ0 hγ0=>?_)
  refine rs [] 60 3 ?_
  refine gX [.bool true] (.string (str [116,114,117,101])) (fun W hk=>ifbool_any true W) ?_
  refine rs [] 60 3 ?_
  refine gR (.string (str [116,114,117,101])) (fun W hk=>⟨rfl,hk.below⟩)
theorem realText_any (n:Nat) (hn:n<18446744073709551616) (w:World) (ht:Tab w):
  Calls Tryz.prog 139 #[.int .u64 (n:Int)] w fun e w'=>e = .returned (.string (str (rTx n)))∧Below w.heap.size w w':=by
 by_cases hp:n<9223372036854775808
 · have:=realTextP_any n hp w ht
   unfold rTx
   rw [if_pos hp]
   exact this
 · exact realTextN_any n hn (by omega) w ht
noncomputable def vTx (ty:Int) (n:Nat):List UInt8:=if ty=1 then Lib.itoa (IntKind.wrap .i64 (n:Int)) else if ty=2 then (if (n:Int)=1 then [116,114,117,101] else [102,97,108,115,101]) else rTx n
open Go.Sy in
set_option maxRecDepth 100000 in
theorem tvalue_any (ty:Int) (n:Nat) (hn:n<18446744073709551616) (w:World) (ht:Tab w):
  Calls Tryz.prog 63 #[.agg #[.int .u8 ty,.int .u64 (n:Int)]] w fun e w'=>e = .returned (.string (str (vTx ty n)))∧Below w.heap.size w w':=by
 refine Sy.enter (vs:=[.agg #[.int .u8 ty,.int .u64 (n:Int)]]) sy_fine Tryz.func63 rfl (fun γ=>norms_LR _) rfl (fun γ0 hγ0=>?_)
 refine rk ?_
 by_cases h1:ty=1
 ·
  refine gK true (b:=intEq ty 1) (eq_t h1) ?_
  refine rk ?_
  refine gX [.int .i64 (IntKind.wrap .i64 (n:Int)),.int .i64 10] (.string (str (Lib.itoa (IntKind.wrap .i64 (n:Int))))) (fun W hk=>(Tryz.strconv_FormatInt_10 _ (by rw [IntKind.wrap_i64];omega) (by rw [IntKind.wrap_i64];omega) W (ht.below hk.below)).mono fun e w' ⟨h1,k,os,h2⟩=>⟨h1,by rw [h2];exact below_growK _ _ _⟩) ?_
  refine rs [] 60 1 ?_
  refine gR (.string (str (Lib.itoa (IntKind.wrap .i64 (n:Int))))) (fun W hk=>⟨?_,hk.below⟩)
  rw [vTx,if_pos h1]
 refine gK false (b:=intEq ty 1) (eq_f h1) ?_
 refine rk ?_
 by_cases h2:ty=2
 ·
  refine gK true (b:=intEq ty 2) (eq_t h2) ?_
  refine rs [16] 60 0 ?_
  by_cases h3:(n:Int)=1
  ·
   refine gS 15 (x := .bool (intEq (n:Int) 1)) (.bool true) (by rw [eq_t h3]) ?_
   refine gX [.bool true] (.string (str [116,114,117,101])) (fun W hk=>fbool_any true W) ?_
   refine rs [] 60 1 ?_
   refine gR (.string (str [116,114,117,101])) (fun W hk=>⟨?_,hk.below⟩)
   rw [vTx,if_neg h1,if_pos h2,if_pos h3]
  ·
   refine gS 15 (x := .bool (intEq (n:Int) 1)) (.bool false) (by rw [eq_f h3]) ?_
   refine gX [.bool false] (.string (str [102,97,108,115,101])) (fun W hk=>fbool_any false W) ?_
   refine rs [] 60 1 ?_
   refine gR (.string (str [102,97,108,115,101])) (fun W hk=>⟨?_,hk.below⟩)
   rw [vTx,if_neg h1,if_pos h2,if_neg h3]
 refine gK false (b:=intEq ty 2) (eq_f h2) ?_
 refine rk ?_
 refine gX [.int .u64 (n:Int)] (.string (str (rTx n))) (fun W hk=>realText_any n hn W (ht.below hk.below)) ?_
 refine rs [] 60 1 ?_
 refine gR (.string (str (rTx n))) (fun W hk=>⟨?_,hk.below⟩)
 rw [vTx,if_neg h1,if_neg h2]
theorem wrap_lo {n:Nat} (h:n<9223372036854775808):Lib.itoa (IntKind.wrap .i64 (n:Int))=Lib.decDigits (n:Int).toNat:=by
 have e:IntKind.wrap .i64 (n:Int)=(n:Int):=by rw [IntKind.wrap_i64];omega
 rw [e]
 unfold Lib.itoa
 rw [if_neg (by omega)]
theorem wrap_hi {n:Nat} (hn:n<18446744073709551616) (h:¬ n<9223372036854775808):Lib.itoa (IntKind.wrap .i64 (n:Int))=45::Lib.decDigits (18446744073709551616 - (n:Int)).toNat:=by
 obtain ⟨z,hz⟩:∃ z,z=IntKind.wrap .i64 (n:Int):=⟨_,rfl⟩
 have e:z=(n:Int) - 18446744073709551616:=by rw [hz,IntKind.wrap_i64];omega
 rw [← hz]
 unfold Lib.itoa
 rw [if_pos (by omega)]
 have e2:z.natAbs=(18446744073709551616 - (n:Int)).toNat:=by omega
 rw [e2]
theorem litT1 (b:Int):litT 1 b=if b<signBits then some (Lib.decDigits b.toNat) else none:=by unfold litT;rw [if_pos rfl]
theorem litT2 (b:Int):litT 2 b=if b=1 then some [116,114,117,101] else if b=0 then some [102,97,108,115,101] else none:=by unfold litT;rw [if_neg (by decide),if_pos rfl]
theorem litT3 (b:Int):litT 3 b=if b=nanBits then some [110,97,110] else if b=infBits then some [105,110,102] else if b<signBits then realP b.toNat else none:=by unfold litT;rw [if_neg (by decide),if_neg (by decide),if_pos rfl]
theorem litT0 {ty:Int} (h1:ty≠1) (h2:ty≠2) (h3:ty≠3) (b:Int):litT ty b=none:=by unfold litT;rw [if_neg h1,if_neg h2,if_neg h3]
theorem lit3 (n:Nat):numB n=(litT 3 (n:Int)).isSome∧∀ t,litT 3 (n:Int)=some t→n<9223372036854775808∧rTp n=t:=by
 rw [litT3]
 unfold numB rTp nanBits infBits signBits
 by_cases h4:(n:Int)=9221120237041090560
 · rw [if_pos h4,if_pos h4,decide_eq_true h4]
   exact ⟨rfl,fun t ht=>⟨by omega,by injection ht⟩⟩
 · rw [if_neg h4,if_neg h4,decide_eq_false h4]
   by_cases h5:(n:Int)=9218868437227405312
   · rw [if_pos h5,if_pos h5,decide_eq_true h5]
     exact ⟨rfl,fun t ht=>⟨by omega,by injection ht⟩⟩
   · rw [if_neg h5,if_neg h5,decide_eq_false h5,Int.toNat_natCast]
     by_cases h6:(n:Int)<9223372036854775808
     · rw [if_pos h6]
       exact ⟨by simp,fun t ht=>⟨by omega,by rw [ht];rfl⟩⟩
     · rw [if_neg h6]
       refine ⟨?_,fun t ht=>by cases ht⟩
       cases h7:realP n with
       | none=>rfl
       | some t=>exact absurd (realP_bound h7).2.1 (by omega)
theorem toN_neg {n m:Nat} (hn:n<18446744073709551616) (h:¬ n<9223372036854775808) (hm:m=n - 9223372036854775808) (hx:toN n≠n):toN m=9221120237041090560:=by
 have hnm:m=negW n:=by rw [hm];unfold negW;rw [if_neg h]
 have h1:nanW n=true:=by
  rcases toN_cases n with ⟨_,h2⟩ | ⟨h2,_⟩
  · exact absurd h2 hx
  · have h3:=nanW_iff n
    cases hb:nanW n with
    | true=>rfl
    | false=>
      rw [hb] at h3
      rw [show FloatKind.f64.format.order n n=none from h2] at h3
      cases h3
 have h2:nanW m=true:=by rw [hnm,nanW_neg hn,h1]
 rcases toN_cases m with ⟨h3,_⟩ | ⟨_,h4⟩
 · have h5:=nanW_iff m
   rw [h2,show FloatKind.f64.format.order m m=some .eq from h3] at h5
   cases h5
 · exact h4
theorem lit_plain (ty:Int) (n:Nat) (hn:n<18446744073709551616):litB ty n=(litT ty (n:Int)).isSome∧∀ t,litT ty (n:Int)=some t→vTx ty n=t:=by
 by_cases h1:ty=1
 · subst h1
   rw [litT1]
   unfold litB vTx signBits
   rw [if_pos rfl,if_pos rfl]
   by_cases h:n<9223372036854775808
   · rw [decide_eq_true h,if_pos (show (n:Int)<9223372036854775808 by omega),wrap_lo h]
     exact ⟨rfl,fun t ht=>by injection ht⟩
   · rw [decide_eq_false h,if_neg (show ¬ (n:Int)<9223372036854775808 by omega)]
     exact ⟨rfl,fun t ht=>by cases ht⟩
 by_cases h2:ty=2
 · subst h2
   rw [litT2]
   unfold litB vTx
   rw [if_neg h1,if_pos rfl,if_neg h1,if_pos rfl]
   by_cases h3:(n:Int)=1
   · rw [if_pos h3,if_pos h3,decide_eq_true (by omega)]
     exact ⟨rfl,fun t ht=>by injection ht⟩
   · rw [if_neg h3,if_neg h3]
     by_cases h4:(n:Int)=0
     · rw [if_pos h4,decide_eq_true (by omega)]
       exact ⟨rfl,fun t ht=>by injection ht⟩
     · rw [if_neg h4,decide_eq_false (by omega)]
       exact ⟨rfl,fun t ht=>by cases ht⟩
 by_cases h3:ty=3
 · subst h3
   obtain ⟨g1,g2⟩:=lit3 n
   unfold litB vTx
   rw [if_neg h1,if_neg h2,if_pos rfl,if_neg h1,if_neg h2]
   refine ⟨g1,fun t ht=>?_⟩
   obtain ⟨g3,g4⟩:=g2 t ht
   unfold rTx
   rw [if_pos g3,g4]
 · rw [litT0 h1 h2 h3]
   unfold litB
   rw [if_neg h1,if_neg h2,if_neg h3]
   exact ⟨rfl,fun t ht=>by cases ht⟩
theorem fir_plain (ty:Int) (n:Nat) (hn:n<18446744073709551616):firB ty n=(valT ty (n:Int)).isSome∧∀ t,valT ty (n:Int)=some t→vTx ty n=t:=by
 by_cases h1:ty=1
 · subst h1
   unfold firB valT vTx signBits
   rw [if_pos rfl,if_pos rfl,if_pos rfl]
   by_cases h:n<9223372036854775808
   · rw [if_pos (show (n:Int)<9223372036854775808 by omega),decide_eq_false (show ¬ (n:Int)=9223372036854775808 by omega),wrap_lo h]
     exact ⟨rfl,fun t ht=>by injection ht⟩
   · rw [if_neg (show ¬ (n:Int)<9223372036854775808 by omega)]
     by_cases h4:(n:Int)=9223372036854775808
     · rw [if_pos h4,decide_eq_true h4]
       exact ⟨rfl,fun t ht=>by cases ht⟩
     · rw [if_neg h4,decide_eq_false h4,wrap_hi hn h]
       exact ⟨rfl,fun t ht=>by injection ht⟩
 have hlit:=lit_plain ty n hn
 by_cases h3:ty=3
 · subst h3
   unfold firB valT vTx
   rw [if_neg h1,if_neg (show ¬ (3:Int)=2 by decide),if_pos (show (3:Int)=3 from rfl),if_neg h1,if_pos (show (3:Int)=3 from rfl),if_neg h1,if_neg (show ¬ (3:Int)=2 by decide)]
   unfold signBits rTx
   by_cases h:n<9223372036854775808
   · rw [if_pos (show (n:Int)<9223372036854775808 by omega),if_pos h]
     obtain ⟨g1,g2⟩:=lit3 n
     refine ⟨?_,fun t ht=>(g2 t ht).2⟩
     rw [← g1,Nat.mod_eq_of_lt h]
     by_cases h4:(n:Int)=9221120237041090560
     · rw [if_pos h4]
       unfold numB nanBits
       rw [decide_eq_true h4]
       rfl
     · rw [if_neg h4]
       by_cases h5:toN n=n
       · rw [if_pos h5]
       · rw [if_neg h5]
         unfold numB nanBits infBits
         have h6:¬ (n:Int)=9218868437227405312:=fun h6=>h5 (by
          have:n=9218868437227405312:=by omega
          subst this
          decide)
         rw [decide_eq_false h4,decide_eq_false h6]
         cases h7:realP n with
         | none=>rfl
         | some t=>exact absurd (realP_bound h7).1 h5
   · rw [if_neg (show ¬ (n:Int)<9223372036854775808 by omega),if_neg h,if_neg (show ¬ (n:Int)=9221120237041090560 by omega)]
     obtain ⟨m,hm⟩:∃ m,m=n - 9223372036854775808:=⟨_,rfl⟩
     have hm1:(n:Int) - 9223372036854775808=(m:Int):=by omega
     have hm2:n % 9223372036854775808=m:=by omega
     rw [hm1,hm2,← hm]
     obtain ⟨g1,g2⟩:=lit3 m
     unfold nanBits
     by_cases h4:(m:Int)=9221120237041090560
     · rw [if_pos h4]
       refine ⟨?_,fun t ht=>by cases ht⟩
       have hmn:m=9221120237041090560:=by omega
       have hn2:n=18444492273895866368:=by omega
       have h5:¬ toN n=n:=by
        rw [hn2]
        decide
       rw [if_neg h5]
       rfl
     · rw [if_neg h4]
       by_cases h5:toN n=n
       · rw [if_pos h5,g1]
         refine ⟨by cases litT 3 (m:Int) <;> rfl,fun t ht=>?_⟩
         cases h6:litT 3 (m:Int) with
         | none=>rw [h6] at ht;cases ht
         | some t'=>
           rw [h6] at ht
           injection ht with ht
           rw [(g2 t' h6).2]
           exact ht
       · rw [if_neg h5]
         have hN:=toN_neg hn h hm h5
         have hnone:litT 3 (m:Int)=none:=by
          rw [litT3]
          unfold nanBits infBits signBits
          rw [if_neg h4]
          have h6:¬ (m:Int)=9218868437227405312:=fun h6=>by
           have hmn:m=9218868437227405312:=by omega
           rw [hmn] at hN
           exact absurd hN (by decide)
          rw [if_neg h6,if_pos (show (m:Int)<9223372036854775808 by omega),Int.toNat_natCast]
          cases h7:realP m with
          | none=>rfl
          | some t=>
            have:=(realP_bound h7).1
            rw [hN] at this
            exact absurd (show (m:Int)=9221120237041090560 by omega) h4
         rw [hnone]
         exact ⟨rfl,fun t ht=>by cases ht⟩
 · have e:valT ty (n:Int)=litT ty (n:Int):=by unfold valT;rw [if_neg h1,if_neg h3]
   rw [e]
   refine ⟨?_,hlit.2⟩
   rw [← hlit.1]
   unfold firB litB
   rw [if_neg h1,if_neg h1,if_neg h3,if_neg h3]
end Go.Proofs.YtiacalnkmnckjaaGreatDoor
end
section
namespace Go.Proofs.YtiacalnkmnckjaaGreatDoor
open Go.RowKit Go.As Go.WideShapes Go.ChangeShapes
theorem bulk_pos {H:Type} (d:DataW H):1≤Rows.uptoBulk d:=by
 cases d with
 | lit l=>cases l <;> simp [Rows.uptoBulk]
 | nil=>simp [Rows.uptoBulk]
 | ptr d=>simp [Rows.uptoBulk]
 | slice elems spare=>simp [Rows.uptoBulk]
 | agg parts=>simp [Rows.uptoBulk]
 | iface t d=>simp [Rows.uptoBulk]
 | map entries=>simp [Rows.uptoBulk]
 | held h=>simp [Rows.uptoBulk]
theorem bulk_app {H:Type} (l r:List (DataW H)):Rows.uptoBulkAll (l++r)=Rows.uptoBulkAll l+Rows.uptoBulkAll r:=by
 induction l with
 | nil=>simp [Rows.uptoBulkAll]
 | cons x l ih=>simp only [List.cons_append,Rows.uptoBulkAll,ih];omega
theorem bulk_mem {H:Type} {d:DataW H} {l:List (DataW H)} (h:d∈l):Rows.uptoBulk d≤Rows.uptoBulkAll l:=by
 induction l with
 | nil=>cases h
 | cons x r ih=>
   simp only [Rows.uptoBulkAll]
   cases List.mem_cons.1 h with
   | inl e=>subst e;omega
   | inr e=>have:=ih e;omega
def sumN {α:Type} (μ:α→Nat):List α→Nat
 | []=>0
 | x::l=>μ x+sumN μ l
theorem sumN_app {α:Type} (μ:α→Nat):∀ (l r:List α),sumN μ (l++r)=sumN μ l+sumN μ r
 | [],r=>by simp [sumN]
 | x::l,r=>by
   rw [List.cons_append]
   simp only [sumN]
   rw [sumN_app μ l r]
   omega
theorem wf_u8 {n:Int} (h:(Lit.int .u8 n).wf=true):0≤n∧n<256:=by
 simp only [Lit.wf,decide_eq_true_eq,Bool.and_eq_true] at h
 have h1:IntKind.u8.min=0:=by decide
 have h2:IntKind.u8.max=255:=by decide
 omega
theorem wf_u64 {n:Int} (h:(Lit.int .u64 n).wf=true):0≤n∧n<18446744073709551616:=by
 simp only [Lit.wf,decide_eq_true_eq,Bool.and_eq_true] at h
 have h1:IntKind.u64.min=0:=by decide
 have h2:IntKind.u64.max=18446744073709551615:=by decide
 omega
theorem wf_i64 {n:Int} (h:(Lit.int .i64 n).wf=true) : -9223372036854775808≤n∧n<9223372036854775808:=by
 simp only [Lit.wf,decide_eq_true_eq,Bool.and_eq_true] at h
 have h1:IntKind.i64.min = -9223372036854775808:=by decide
 have h2:IntKind.i64.max=9223372036854775807:=by decide
 omega
section
variable {H:Type} {enc:TypeId×Value→H} {w:World}
theorem open_ls {P:Program} {α:Type} {held:Bool} {t e:TypeId} {fuel sz:Nat} {cs:List Value} {d:DataW H} {p:List MemPlace} (A:α→List Value→Prop) (μ:α→Nat)
  (ht:P.underlying t=some (.slice e)) (hc:P.cellsOf e=sz) (hsz:0<sz)
  (hf:DataW.trod enc P w 0 (fun _=>true) held fuel t cs=some (d,p))
  (hdec:∀ n cs d' p',Rows.uptoBulk d'<Rows.uptoBulk d→cs.length=sz→DataW.trod enc P w 0 (fun _=>true) held n e cs=some (d',p')→∃ x,A x cs∧μ x≤Rows.uptoBulk d'):
  ∃ (a:Option Addr) (n c:Nat) (xs:List Value) (L:List α),cs=[.slice a n c]∧n≤c∧c≤maxLen∧L.length=n∧Sy.SlAt (·<w.heap.size) w a n sz xs∧LsAt A L xs∧sumN μ L+1≤Rows.uptoBulk d:=by
 subst hc
 rcases Go.Deep.open_slice ht hf with ⟨hcs,hx⟩ | ⟨a,len,cap,m,n,D,Pl,hcs,-,hl,hm,hmm,hx,hi⟩
 · injection hx with hd hp
   subst hd
   exact ⟨none,0,0,[],[],hcs,Nat.le_refl _,by simp [maxLen],rfl,⟨by simp,.inl rfl⟩,rfl,by simp [sumN,Rows.uptoBulk]⟩
 · simp only [if_true] at hmm
   subst hmm
   injection hx with hd hp
   have hbd:Rows.uptoBulkAll ((List.range len).map D)+1≤Rows.uptoBulk d:=by
    rw [hd]
    simp only [Rows.uptoBulk]
    omega
   have key:∀ k,k≤len→∃ (xs:List Value) (L:List α),L.length=k∧xs.length=k*P.cellsOf e∧LsAt A L xs∧sumN μ L≤Rows.uptoBulkAll ((List.range k).map D)∧∀ j u,xs[j]?=some u→w.cell? (a.add j)=some u:=by
    intro k
    induction k with
    | zero=>intro _;exact ⟨[],[],rfl,by simp,rfl,by simp [sumN],by simp⟩
    | succ k ih=>
      intro hk
      obtain ⟨xs,L,h1,h2,h3,h4,h5⟩:=ih (by omega)
      obtain ⟨cs',hc1,hc2⟩:=hi k (by omega)
      obtain ⟨-,hcl,hat⟩:=World.cells?_some hc1
      have hlt:Rows.uptoBulk (D k)<Rows.uptoBulk d:=by
       have:=bulk_mem (l:=(List.range len).map D) (d:=D k) (List.mem_map.2 ⟨k,List.mem_range.2 (by omega),rfl⟩)
       omega
      obtain ⟨x,hx1,hx2⟩:=hdec _ _ _ _ hlt hcl hc2
      refine ⟨xs++cs',L++[x],by simp [h1],by rw [List.length_append,h2,hcl,Nat.add_mul];omega,LsAt.snoc h3 hx1,?_,?_⟩
      · rw [List.range_succ,List.map_append,bulk_app,sumN_app]
        simp only [List.map_cons,List.map_nil,Rows.uptoBulkAll,sumN]
        omega
      · intro j u hu
        rcases Nat.lt_or_ge j xs.length with hj | hj
        · rw [List.getElem?_append_left (by omega)] at hu
          exact h5 j u hu
        · rw [List.getElem?_append_right (by omega),h2] at hu
          have hj2:j - k*P.cellsOf e<P.cellsOf e:=by
           have:=(List.getElem?_eq_some_iff.1 hu).1
           omega
          have:=hat _ hj2
          rw [add_add',show k*P.cellsOf e+(j - k*P.cellsOf e)=j by omega] at this
          rw [this,hu]
   obtain ⟨xs,L,h1,h2,h3,h4,h5⟩:=key len (Nat.le_refl _)
   refine ⟨some a,len,_,xs,L,hcs,hl,hm,h1,⟨h2,?_⟩,h3,by omega⟩
   cases len with
   | zero=>exact .inl rfl
   | succ q=>
     have hpos:0<xs.length:=by rw [h2];exact Nat.mul_pos (Nat.succ_pos _) hsz
     have h0:=h5 0 _ (List.getElem?_eq_getElem hpos)
     have hspot:a.spot=none:=by
      have e0:a.add 0=a:=by simp [Addr.add]
      rw [e0] at h0
      unfold World.cell? at h0
      split at h0
      · split at h0
        · cases h0
        · rename_i hn
          cases hs:a.spot with
          | none=>rfl
          | some s=>rw [hs] at hn;simp at hn
      · cases h0
     have ha:a=⟨a.block,a.off,none⟩:=by rw [← hspot]
     refine .inr ⟨congrArg some ha,?_,fun j v hv=>?_⟩
     · have:=World.block_lt_of_cell? w _ h0
       rwa [blk_add] at this
     · have:=h5 j v hv
       rw [ha,Addr.add_mid] at this
       exact this
end
-- sizes: names' letters,and what stands
mutual
def exB:Ex→Nat
 | .mk _ _ _ name kids=>name.length+5+exBs kids
def exBs:List Ex→Nat
 | []=>0
 | e::l=>exB e+exBs l
end
mutual
def exR:Ex→Prop
 | .mk op ty bits _ kids=>(0≤op∧op<256)∧(0≤ty∧ty<256)∧(0≤bits∧bits<18446744073709551616)∧exRs kids
def exRs:List Ex→Prop
 | []=>True
 | e::l=>exR e∧exRs l
end
theorem exRs_mem:∀ {l:List Ex},exRs l↔∀ e∈l,exR e
 | []=>by simp [exRs]
 | e::l=>by simp [exRs,exRs_mem]
theorem exBs_sum:∀ (l:List Ex),exBs l=sumN exB l
 | []=>rfl
 | e::l=>by simp only [exBs,sumN];rw [exBs_sum l]
mutual
theorem wgt_exB:∀ (e:Ex),wgt e≤exB e
 | .mk _ _ _ _ k=>by simp only [wgt,exB];have:=wgts_exBs k;omega
theorem wgts_exBs:∀ (l:List Ex),wgts l≤exBs l
 | []=>Nat.le_refl _
 | e::l=>by simp only [wgts,exBs];have:=wgt_exB e;have:=wgts_exBs l;omega
end
mutual
def stB:St→Nat
 | .mk _ name e b l=>name.length+1+exB e+stBs b+stBs l
def stBs:List St→Nat
 | []=>0
 | s::l=>stB s+stBs l
end
mutual
def stR:St→Prop
 | .mk kind _ e b l=>(-9223372036854775808≤kind∧kind<9223372036854775808)∧exR e∧stRs b∧stRs l
def stRs:List St→Prop
 | []=>True
 | s::l=>stR s∧stRs l
end
theorem stRs_mem:∀ {l:List St},stRs l↔∀ e∈l,stR e
 | []=>by simp [stRs]
 | e::l=>by simp [stRs,stRs_mem]
theorem stBs_sum:∀ (l:List St),stBs l=sumN stB l
 | []=>rfl
 | e::l=>by simp only [stBs,sumN];rw [stBs_sum l]
mutual
theorem swt_stB:∀ (s:St),swt s≤stB s
 | .mk _ _ e b l=>by simp only [swt,stB];have:=wgt_exB e;have:=swts_stBs b;have:=swts_stBs l;omega
theorem swts_stBs:∀ (l:List St),swts l≤stBs l
 | []=>Nat.le_refl _
 | s::l=>by simp only [swts,stBs];have:=swt_stB s;have:=swts_stBs l;omega
end
def vrB (v:Vr):Nat:=v.name.length+1
def vrR (v:Vr):Prop:=(0≤v.ty∧v.ty<256)∧0≤v.bits∧v.bits<18446744073709551616
def txB (s:List UInt8):Nat:=s.length+1
def thB (t:Th):Nat:=t.name.length+1+sumN vrB t.locals+stBs t.body
def thR (t:Th):Prop:=(∀ v∈t.locals,vrR v)∧stRs t.body
def pgB (p:Pg):Nat:=sumN vrB p.shared+sumN txB p.mutexes+sumN thB p.threads
def pgR (p:Pg):Prop:=(∀ v∈p.shared,vrR v)∧∀ t∈p.threads,thR t
theorem len_sumN {α:Type} {μ:α→Nat} (h:∀ x,1≤μ x):∀ (l:List α),l.length≤sumN μ l
 | []=>Nat.le_refl _
 | x::l=>by simp only [sumN,List.length_cons];have:=h x;have:=len_sumN h l;omega
theorem thws_thB:∀ (l:List Th),thws l≤sumN thB l
 | []=>Nat.le_refl _
 | t::l=>by
   simp only [thws,sumN,thw,thB]
   have:=thws_thB l
   have:=len_sumN (μ:=vrB) (fun v=>by unfold vrB;omega) t.locals
   have:=swts_stBs t.body
   omega
theorem pwt_pgB (p:Pg):pwt p≤pgB p:=by
 unfold pwt pgB
 have:=thws_thB p.threads
 have:=len_sumN (μ:=vrB) (fun v=>by unfold vrB;omega) p.shared
 have:=len_sumN (μ:=txB) (fun v=>by unfold txB;omega) p.mutexes
 omega
theorem sumN_mem {α:Type} {μ:α→Nat} {x:α}:∀ {l:List α},x∈l→μ x≤sumN μ l
 | y::l,h=>by
   simp only [sumN]
   rcases List.mem_cons.1 h with rfl | h
   · omega
   · have:=sumN_mem (μ:=μ) h;omega
section
variable {H:Type} {enc:TypeId×Value→H} {w:World} {held:Bool}
theorem list5 {α:Type} {cs:List α} (h:cs.length=5):∃ a b c d e,cs=[a,b,c,d,e]:=by
 match cs,h with
 | [a,b,c,d,e],_=>exact ⟨a,b,c,d,e,rfl⟩
theorem list4 {α:Type} {cs:List α} (h:cs.length=4):∃ a b c d,cs=[a,b,c,d]:=by
 match cs,h with
 | [a,b,c,d],_=>exact ⟨a,b,c,d,rfl⟩
theorem list3 {α:Type} {cs:List α} (h:cs.length=3):∃ a b c,cs=[a,b,c]:=by
 match cs,h with
 | [a,b,c],_=>exact ⟨a,b,c,rfl⟩
theorem list2 {α:Type} {cs:List α} (h:cs.length=2):∃ a b,cs=[a,b]:=by
 match cs,h with
 | [a,b],_=>exact ⟨a,b,rfl⟩
theorem list9 {α:Type} {cs:List α} (h:cs.length=9):∃ a b c d e f g i j,cs=[a,b,c,d,e,f,g,i,j]:=by
 match cs,h with
 | [a,b,c,d,e,f,g,i,j],_=>exact ⟨a,b,c,d,e,f,g,i,j,rfl⟩
set_option maxRecDepth 100000 in
theorem cell1:Tryz.prog.cellsOf 27=1∧Tryz.prog.cellsOf 28=1∧Tryz.prog.cellsOf 29=1∧Tryz.prog.cellsOf 9=1∧Tryz.prog.cellsOf 3=1∧Tryz.prog.cellsOf 32=1∧Tryz.prog.cellsOf 54=1∧Tryz.prog.cellsOf 22=1∧Tryz.prog.cellsOf 23=1∧Tryz.prog.cellsOf 24=1:=by
 refine ⟨?_,?_,?_,?_,?_,?_,?_,?_,?_,?_⟩ <;> kernel_rfl
theorem cell2:Tryz.prog.cellsOf 31=2∧Tryz.prog.cellsOf 34=5∧Tryz.prog.cellsOf 56=9∧Tryz.prog.cellsOf 67=3∧Tryz.prog.cellsOf 58=3∧Tryz.prog.cellsOf 26=3:=by
 refine ⟨?_,?_,?_,?_,?_,?_⟩ <;> kernel_rfl
theorem open_parts {P:Program} {t:TypeId} {fs:Array Field} {fuel:Nat} {cs:List Value} {d:DataW H} {p:List MemPlace} (ht:P.underlying t=some (.struct fs)) (h:DataW.trod enc P w 0 (fun _=>true) held fuel t cs=some (d,p)):
  ∃ (ds:List (DataW H)),Rows.uptoBulk d=Rows.uptoBulkAll ds+1∧ds.length=fs.size∧cs.length=P.cellsOf t∧∀ (i:Nat) (f:Field),fs[i]?=some f→∃ n di q,ds[i]?=some di∧DataW.trod enc P w 0 (fun _=>true) held n f.type ((cs.drop f.offset).take (P.cellsOf f.type))=some (di,q):=by
 obtain ⟨xs,n,-,hx,hl,hlen,hfs⟩:=DataW.trod_struct ht h
 injection hx with h1 h2
 refine ⟨xs.map (·.1),by rw [h1];simp [Rows.uptoBulk],by simp [hlen],hl,fun i f hf=>?_⟩
 have:=hfs i f hf
 have hi:i<xs.length:=by rw [hlen];exact (Array.getElem?_eq_some_iff.1 hf).1
 rw [List.getElem?_eq_getElem hi] at this
 exact ⟨n,xs[i].1,xs[i].2,by simp [List.getElem?_eq_getElem hi],this⟩
theorem LsAt.both {α:Type} {A:α→List Value→Prop} {R:α→Prop}:∀ {l:List α} {xs:List Value},LsAt (fun x c=>A x c∧R x) l xs→LsAt A l xs∧∀ x∈l,R x
 | [],xs,h=>⟨h,fun x hx=>by cases hx⟩
 | e::l,xs,⟨c,r,h1,h2,h3⟩=>by
   obtain ⟨h4,h5⟩:=LsAt.both h3
   exact ⟨⟨c,r,h1,h2.1,h4⟩,fun x hx=>by
    rcases List.mem_cons.1 hx with rfl | hx
    · exact h2.2
    · exact h5 x hx⟩
set_option maxRecDepth 100000 in
theorem val_open {n:Nat} {cs:List Value} {d:DataW H} {p:List MemPlace} (h:DataW.trod enc Tryz.prog w 0 (fun _=>true) held n 31 cs=some (d,p)):
  ∃ ty bits,cs=[.int .u8 ty,.int .u64 bits]∧(0≤ty∧ty<256)∧(0≤bits∧bits<18446744073709551616)∧Rows.uptoBulk d=3:=by
 obtain ⟨ds,hb,hl,hcl,hf⟩:=open_parts Tryz.underlying31 h
 obtain ⟨c0,c1,rfl⟩:=list2 (hcl.trans cell2.1)
 obtain ⟨n0,d0,q0,e0,h0⟩:=hf 0 _ rfl
 obtain ⟨n1,d1,q1,e1,h1⟩:=hf 1 _ rfl
 obtain ⟨x0,x1,rfl⟩:=list2 (hl.trans rfl)
 simp only [List.getElem?_cons_zero,List.getElem?_cons_succ,Option.some.injEq] at e0 e1
 subst e0 e1
 have h0:DataW.trod enc Tryz.prog w 0 (fun _=>true) held n0 28 [c0]=some (x0,q0):=by simpa [cell1.2.1] using h0
 have h1:DataW.trod enc Tryz.prog w 0 (fun _=>true) held n1 29 [c1]=some (x1,q1):=by simpa [cell1.2.2.1] using h1
 obtain ⟨ty,g1,g2,g3⟩:=DataW.trod_int Tryz.underlying28 h0
 obtain ⟨bits,k1,k2,k3⟩:=DataW.trod_int Tryz.underlying29 h1
 injection g1 with g1;injection k1 with k1;injection g2 with g2;injection k2 with k2
 subst g1 k1 g2 k2
 exact ⟨ty,bits,rfl,wf_u8 g3,wf_u64 k3,by rw [hb];simp [Rows.uptoBulkAll,Rows.uptoBulk]⟩
theorem str_open {n:Nat} {cs:List Value} {d:DataW H} {p:List MemPlace} (h:DataW.trod enc Tryz.prog w 0 (fun _=>true) held n 9 cs=some (d,p)):
  ∃ l:List UInt8,cs=[.string (str l)]∧Rows.uptoBulk d=l.length+1:=by
 obtain ⟨s,h1,h2,h3⟩:=DataW.trod_string Tryz.underlying9 h
 obtain ⟨l,rfl⟩:=exists_str s
 injection h2 with h2
 exact ⟨l,h1,by rw [h2];simp [Rows.uptoBulk,str_data]⟩
set_option maxRecDepth 100000 in
theorem ex_open:∀ (b:Nat) {n:Nat} {cs:List Value} {d:DataW H} {p:List MemPlace},Rows.uptoBulk d<b→DataW.trod enc Tryz.prog w 0 (fun _=>true) held n 34 cs=some (d,p)→
  ∃ e,ExAt (·<w.heap.size) w e cs∧exR e∧exB e≤Rows.uptoBulk d:=by
 intro b
 induction b with
 | zero=>intro n cs d p h;omega
 | succ b ih=>
   intro n cs d p hbd h
   obtain ⟨ds,hb,hl,hcl,hf⟩:=open_parts Tryz.underlying34 h
   obtain ⟨c0,c1,c2,c3,c4,rfl⟩:=list5 (hcl.trans cell2.2.1)
   obtain ⟨n0,d0,q0,e0,h0⟩:=hf 0 _ rfl
   obtain ⟨n1,d1,q1,e1,h1⟩:=hf 1 _ rfl
   obtain ⟨n2,d2,q2,e2,h2⟩:=hf 2 _ rfl
   obtain ⟨n3,d3,q3,e3,h3⟩:=hf 3 _ rfl
   obtain ⟨x0,x1,x2,x3,rfl⟩:=list4 (hl.trans rfl)
   simp only [List.getElem?_cons_zero,List.getElem?_cons_succ,Option.some.injEq] at e0 e1 e2 e3
   subst e0 e1 e2 e3
   have h0:DataW.trod enc Tryz.prog w 0 (fun _=>true) held n0 27 [c0]=some (x0,q0):=by simpa [cell1.1] using h0
   have h1:DataW.trod enc Tryz.prog w 0 (fun _=>true) held n1 31 [c1,c2]=some (x1,q1):=by simpa [cell2.1] using h1
   have h2:DataW.trod enc Tryz.prog w 0 (fun _=>true) held n2 9 [c3]=some (x2,q2):=by simpa [cell1.2.2.2.1] using h2
   have h3:DataW.trod enc Tryz.prog w 0 (fun _=>true) held n3 32 [c4]=some (x3,q3):=by simpa [cell1.2.2.2.2.2.1] using h3
   obtain ⟨op,g1,g2,g3⟩:=DataW.trod_int Tryz.underlying27 h0
   obtain ⟨ty,bits,k1,k2,k3,k4⟩:=val_open h1
   obtain ⟨name,m1,m2⟩:=str_open h2
   simp only [Rows.uptoBulkAll] at hb
   obtain ⟨a,n',c,xs,L,o1,o2,o3,o4,o5,o6,o7⟩:=open_ls (fun e c=>ExAt (·<w.heap.size) w e c∧exR e) exB Tryz.underlying32 cell2.2.1 (by omega) h3 (fun n cs d' p' hlt hl5 ht=>by
    obtain ⟨e,w1,w2,w3⟩:=ih (by omega) ht
    exact ⟨e,⟨w1,w2⟩,w3⟩)
   obtain ⟨o8,o9⟩:=o6.both
   injection g2 with g2
   simp only [List.cons.injEq,and_true] at g1 k1 m1 o1
   obtain ⟨k5,k6⟩:=k1
   subst g1 g2 k5 k6 m1 o1 o4
   refine ⟨.mk op ty bits name L,?_,?_,?_⟩
   · simp only [ExAt]
     exact ⟨a,c,xs,rfl,o5,ExsAt_ls.2 o8⟩
   · simp only [exR]
     exact ⟨wf_u8 g3,k2,k3,exRs_mem.2 o9⟩
   · simp only [exB]
     rw [exBs_sum,hb,m2,k4]
     have:=bulk_pos x3
     simp only [Rows.uptoBulk]
     omega
set_option maxRecDepth 100000 in
theorem vr_open {n:Nat} {cs:List Value} {d:DataW H} {p:List MemPlace} (h:DataW.trod enc Tryz.prog w 0 (fun _=>true) held n 67 cs=some (d,p)):
  ∃ v,(VrAt v cs∧vrR v)∧vrB v≤Rows.uptoBulk d:=by
 obtain ⟨ds,hb,hl,hcl,hf⟩:=open_parts Tryz.underlying67 h
 obtain ⟨c0,c1,c2,rfl⟩:=list3 (hcl.trans cell2.2.2.2.1)
 obtain ⟨n0,d0,q0,e0,h0⟩:=hf 0 _ rfl
 obtain ⟨n1,d1,q1,e1,h1⟩:=hf 1 _ rfl
 obtain ⟨x0,x1,rfl⟩:=list2 (hl.trans rfl)
 simp only [List.getElem?_cons_zero,List.getElem?_cons_succ,Option.some.injEq] at e0 e1
 subst e0 e1
 have h0:DataW.trod enc Tryz.prog w 0 (fun _=>true) held n0 9 [c0]=some (x0,q0):=by simpa [cell1.2.2.2.1] using h0
 have h1:DataW.trod enc Tryz.prog w 0 (fun _=>true) held n1 31 [c1,c2]=some (x1,q1):=by simpa [cell2.1] using h1
 obtain ⟨ty,bits,k1,k2,k3,k4⟩:=val_open h1
 obtain ⟨name,m1,m2⟩:=str_open h0
 simp only [Rows.uptoBulkAll] at hb
 simp only [List.cons.injEq,and_true] at k1 m1
 obtain ⟨k5,k6⟩:=k1
 subst k5 k6 m1
 exact ⟨⟨name,ty,bits⟩,⟨rfl,k2,k3⟩,by unfold vrB;simp only;omega⟩
set_option maxRecDepth 100000 in
theorem st_open:∀ (b:Nat) {n:Nat} {cs:List Value} {d:DataW H} {p:List MemPlace},Rows.uptoBulk d<b→DataW.trod enc Tryz.prog w 0 (fun _=>true) held n 56 cs=some (d,p)→
  ∃ e,StAt (·<w.heap.size) w e cs∧stR e∧stB e≤Rows.uptoBulk d:=by
 intro b
 induction b with
 | zero=>intro n cs d p h;omega
 | succ b ih=>
   intro n cs d p hbd h
   obtain ⟨ds,hb,hl,hcl,hf⟩:=open_parts Tryz.underlying56 h
   obtain ⟨c0,c1,c2,c3,c4,c5,c6,c7,c8,rfl⟩:=list9 (hcl.trans cell2.2.2.1)
   obtain ⟨n0,d0,q0,e0,h0⟩:=hf 0 _ rfl
   obtain ⟨n1,d1,q1,e1,h1⟩:=hf 1 _ rfl
   obtain ⟨n2,d2,q2,e2,h2⟩:=hf 2 _ rfl
   obtain ⟨n3,d3,q3,e3,h3⟩:=hf 3 _ rfl
   obtain ⟨n4,d4,q4,e4,h4⟩:=hf 4 _ rfl
   obtain ⟨x0,x1,x2,x3,x4,rfl⟩:=list5 (hl.trans rfl)
   simp only [List.getElem?_cons_zero,List.getElem?_cons_succ,Option.some.injEq] at e0 e1 e2 e3 e4
   subst e0 e1 e2 e3 e4
   have h0:DataW.trod enc Tryz.prog w 0 (fun _=>true) held n0 3 [c0]=some (x0,q0):=by simpa [cell1.2.2.2.2.1] using h0
   have h1:DataW.trod enc Tryz.prog w 0 (fun _=>true) held n1 9 [c1]=some (x1,q1):=by simpa [cell1.2.2.2.1] using h1
   have h2:DataW.trod enc Tryz.prog w 0 (fun _=>true) held n2 34 [c2,c3,c4,c5,c6]=some (x2,q2):=by simpa [cell2.2.1] using h2
   have h3:DataW.trod enc Tryz.prog w 0 (fun _=>true) held n3 54 [c7]=some (x3,q3):=by simpa [cell1.2.2.2.2.2.2.1] using h3
   have h4:DataW.trod enc Tryz.prog w 0 (fun _=>true) held n4 54 [c8]=some (x4,q4):=by simpa [cell1.2.2.2.2.2.2.1] using h4
   obtain ⟨kind,g1,g2,g3⟩:=DataW.trod_int Tryz.underlying3 h0
   obtain ⟨name,m1,m2⟩:=str_open h1
   obtain ⟨e,k1,k2,k3⟩:=ex_open _ (Nat.lt_succ_self _) h2
   simp only [Rows.uptoBulkAll] at hb
   obtain ⟨a,n',c,xs,L,o1,o2,o3,o4,o5,o6,o7⟩:=open_ls (fun e c=>StAt (·<w.heap.size) w e c∧stR e) stB Tryz.underlying54 cell2.2.2.1 (by omega) h3 (fun n cs d' p' hlt hl5 ht=>by
    obtain ⟨e,w1,w2,w3⟩:=ih (by omega) ht
    exact ⟨e,⟨w1,w2⟩,w3⟩)
   obtain ⟨o8,o9⟩:=o6.both
   obtain ⟨a',n2',c',xs',L',r1,r2,r3,r4,r5,r6,r7⟩:=open_ls (fun e c=>StAt (·<w.heap.size) w e c∧stR e) stB Tryz.underlying54 cell2.2.2.1 (by omega) h4 (fun n cs d' p' hlt hl5 ht=>by
    obtain ⟨e,w1,w2,w3⟩:=ih (by omega) ht
    exact ⟨e,⟨w1,w2⟩,w3⟩)
   obtain ⟨r8,r9⟩:=r6.both
   injection g2 with g2
   simp only [List.cons.injEq,and_true] at g1 m1 o1 r1
   subst g1 g2 m1 o1 o4 r1 r4
   refine ⟨.mk kind name e L L',?_,?_,?_⟩
   · simp only [StAt]
     exact ⟨[c2,c3,c4,c5,c6],a,c,xs,a',c',xs',rfl,k1,o5,StsAt_ls.2 o8,r5,StsAt_ls.2 r8⟩
   · simp only [stR]
     exact ⟨wf_i64 g3,k2,stRs_mem.2 o9,stRs_mem.2 r9⟩
   · simp only [stB]
     rw [stBs_sum,stBs_sum,hb,m2]
     simp only [Rows.uptoBulk]
     omega
set_option maxRecDepth 100000 in
theorem th_open {n:Nat} {cs:List Value} {d:DataW H} {p:List MemPlace} (h:DataW.trod enc Tryz.prog w 0 (fun _=>true) held n 58 cs=some (d,p)):
  ∃ v,(ThAt (·<w.heap.size) w v cs∧thR v)∧thB v≤Rows.uptoBulk d:=by
 obtain ⟨ds,hb,hl,hcl,hf⟩:=open_parts Tryz.underlying58 h
 obtain ⟨c0,c1,c2,rfl⟩:=list3 (hcl.trans cell2.2.2.2.2.1)
 obtain ⟨n0,d0,q0,e0,h0⟩:=hf 0 _ rfl
 obtain ⟨n1,d1,q1,e1,h1⟩:=hf 1 _ rfl
 obtain ⟨n2,d2,q2,e2,h2⟩:=hf 2 _ rfl
 obtain ⟨x0,x1,x2,rfl⟩:=list3 (hl.trans rfl)
 simp only [List.getElem?_cons_zero,List.getElem?_cons_succ,Option.some.injEq] at e0 e1 e2
 subst e0 e1 e2
 have h0:DataW.trod enc Tryz.prog w 0 (fun _=>true) held n0 9 [c0]=some (x0,q0):=by simpa [cell1.2.2.2.1] using h0
 have h1:DataW.trod enc Tryz.prog w 0 (fun _=>true) held n1 22 [c1]=some (x1,q1):=by simpa [cell1.2.2.2.2.2.2.2.1] using h1
 have h2:DataW.trod enc Tryz.prog w 0 (fun _=>true) held n2 54 [c2]=some (x2,q2):=by simpa [cell1.2.2.2.2.2.2.1] using h2
 obtain ⟨name,m1,m2⟩:=str_open h0
 simp only [Rows.uptoBulkAll] at hb
 obtain ⟨a,n',c,xs,L,o1,o2,o3,o4,o5,o6,o7⟩:=open_ls (fun e c=>VrAt e c∧vrR e) vrB Tryz.underlying22 cell2.2.2.2.1 (by omega) h1 (fun n cs d' p' hlt hl5 ht=>vr_open ht)
 obtain ⟨o8,o9⟩:=o6.both
 obtain ⟨a',n2',c',xs',L',r1,r2,r3,r4,r5,r6,r7⟩:=open_ls (fun e c=>StAt (·<w.heap.size) w e c∧stR e) stB Tryz.underlying54 cell2.2.2.1 (by omega) h2 (fun n cs d' p' hlt hl5 ht=>by
  obtain ⟨e,w1,w2,w3⟩:=st_open _ (Nat.lt_succ_self _) ht
  exact ⟨e,⟨w1,w2⟩,w3⟩)
 obtain ⟨r8,r9⟩:=r6.both
 simp only [List.cons.injEq,and_true] at m1 o1 r1
 subst m1 o1 o4 r1 r4
 exact ⟨⟨name,L,L'⟩,⟨⟨a,c,xs,a',c',xs',rfl,o5,o8,r5,StsAt_ls.2 r8⟩,o9,stRs_mem.2 r9⟩,by unfold thB;simp only;rw [stBs_sum];omega⟩
set_option maxRecDepth 100000 in
theorem pg_open {n:Nat} {cs:List Value} {d:DataW H} {p:List MemPlace} (h:DataW.trod enc Tryz.prog w 0 (fun _=>true) held n 26 cs=some (d,p)):
  ∃ v,(PgAt (·<w.heap.size) w v cs∧pgR v)∧pgB v≤Rows.uptoBulk d:=by
 obtain ⟨ds,hb,hl,hcl,hf⟩:=open_parts Tryz.underlying26 h
 obtain ⟨c0,c1,c2,rfl⟩:=list3 (hcl.trans cell2.2.2.2.2.2)
 obtain ⟨n0,d0,q0,e0,h0⟩:=hf 0 _ rfl
 obtain ⟨n1,d1,q1,e1,h1⟩:=hf 1 _ rfl
 obtain ⟨n2,d2,q2,e2,h2⟩:=hf 2 _ rfl
 obtain ⟨x0,x1,x2,rfl⟩:=list3 (hl.trans rfl)
 simp only [List.getElem?_cons_zero,List.getElem?_cons_succ,Option.some.injEq] at e0 e1 e2
 subst e0 e1 e2
 have h0:DataW.trod enc Tryz.prog w 0 (fun _=>true) held n0 22 [c0]=some (x0,q0):=by simpa [cell1.2.2.2.2.2.2.2.1] using h0
 have h1:DataW.trod enc Tryz.prog w 0 (fun _=>true) held n1 23 [c1]=some (x1,q1):=by simpa [cell1.2.2.2.2.2.2.2.2.1] using h1
 have h2:DataW.trod enc Tryz.prog w 0 (fun _=>true) held n2 24 [c2]=some (x2,q2):=by simpa [cell1.2.2.2.2.2.2.2.2.2] using h2
 simp only [Rows.uptoBulkAll] at hb
 obtain ⟨a,n',c,xs,L,o1,o2,o3,o4,o5,o6,o7⟩:=open_ls (fun e c=>VrAt e c∧vrR e) vrB Tryz.underlying22 cell2.2.2.2.1 (by omega) h0 (fun n cs d' p' hlt hl5 ht=>vr_open ht)
 obtain ⟨o8,o9⟩:=o6.both
 obtain ⟨a',n2',c',xs',L',r1,r2,r3,r4,r5,r6,r7⟩:=open_ls TxAt txB Tryz.underlying23 cell1.2.2.2.1 (by omega) h1 (fun n cs d' p' hlt hl5 ht=>by
  obtain ⟨l,g1,g2⟩:=str_open ht
  exact ⟨l,g1,by unfold txB;omega⟩)
 obtain ⟨a3,n3',c3,xs3,L3,s1,s2,s3,s4,s5,s6,s7⟩:=open_ls (fun e c=>ThAt (·<w.heap.size) w e c∧thR e) thB Tryz.underlying24 cell2.2.2.2.2.1 (by omega) h2 (fun n cs d' p' hlt hl5 ht=>th_open ht)
 obtain ⟨s8,s9⟩:=s6.both
 simp only [List.cons.injEq,and_true] at o1 r1 s1
 subst o1 o4 r1 r4 s1 s4
 exact ⟨⟨L,L',L3⟩,⟨⟨a,c,xs,a',c',xs',a3,c3,xs3,rfl,o5,o8,r5,r6,s5,s8⟩,o9,s9⟩,by unfold pgB;simp only;omega⟩
end
end Go.Proofs.YtiacalnkmnckjaaGreatDoor
end
section
namespace Go.Proofs.YtiacalnkmnckjaaGreatDoor
open Go.RowKit Go.As
open Go.Sy in
set_option maxRecDepth 100000 in
theorem weightStmts_any:∀ (N:Nat) (l:List St) (a:Option Addr) (n cap:Nat) (xs:List Value) (w:World),n=l.length→swts l<N→swts l≤1099511627776→Sy.SlAt (·<w.heap.size) w a n 9 xs→StsAt (·<w.heap.size) w l xs→
  Calls Tryz.prog 114 #[.slice a n cap] w fun r w'=>r = .returned (.int .i64 (swts l:Nat))∧Below w.heap.size w w':=by
 intro N
 induction N with
 | zero=>
   intro l a n cap xs w hn h
   omega
 | succ N ihN=>
   intro l a n cap xs w hn hN hbd hsl hks
   have hnl:=swts_len l
   refine Sy.enter (vs:=[.slice a n cap]) sy_fine Tryz.func114 rfl (fun γ=>norms_LR _) rfl (fun γ0 hγ0=>?_)
   refine rk ?_
   refine good_toLp ?_
   refine good_loopI (fun i:List St×List St=>i.2.length) (fun i=>l=i.1++i.2) (fun i=>⟨mkT [(0,.v (.slice a n cap)),(3,.v (.int .i64 ((swts i.1:Nat):Int))),(4,.v (.int .i64 (i.1.length:Int)))],mkH [],gz,[]⟩)
    ([],l) rfl (by kernel_rfl)
    (fun h=>good_sub _ [(0,.v (.slice a n cap)),(3,.v (.int .i64 ((swts ([]:List St):Nat):Int))),(4,.v (.int .i64 (([]:List St).length:Int)))] [] gz rfl (by kernel_rfl) (by kernel_rfl) (by kernel_rfl) (by kernel_rfl) (by kernel_rfl) (fun b hb=>hγ0 b hb) (by kernel_rfl) h) ?_
   rintro ⟨l1,l2⟩ hI ih
   have hI:l=l1++l2:=hI
   have hn2:n=l1.length+l2.length:=by rw [hn,hI,List.length_append]
   have hw1:swts l=swts l1+swts l2:=by rw [hI,swts_app]
   refine rk ?_
   cases l2 with
   | nil=>
     have hn3:n=l1.length:=by rw [hn2];simp
     refine gK false (b:=intLt (l1.length:Int) (n:Int)) (lt_f (by omega)) ?_
     refine rk ?_
     refine gR (.int .i64 ((swts l1:Nat):Int)) (fun W hk=>⟨?_,hk.below⟩)
     rw [hw1]
     simp [swts]
   | cons s l3=>
     have hin:l1.length<n:=by rw [hn2,List.length_cons];omega
     have hks2:=hks
     rw [hI] at hks2
     obtain ⟨c,hc,hcell⟩:=hks2.at_
     simp only [swts] at hw1
     obtain ⟨kind,sname,⟨eop,ety,ebits,ename,ekids⟩,body,els⟩:=s
     simp only [StAt] at hc
     obtain ⟨ec,ba,bcap,bxs,la,lcap,lxs,rfl,he,hbs,hbt,hls,hlt⟩:=hc
     have he0:=he
     simp only [ExAt] at he0
     obtain ⟨ea,ecap,exs,rfl,_⟩:=he0
     have hcell:∀ j v,([.int .i64 kind,.string (str sname),.int .u8 eop,.int .u8 ety,.int .u64 ebits,.string (str ename),.slice ea ekids.length ecap,.slice ba body.length bcap,.slice la els.length lcap]:List Value)[j]?=some v→xs[l1.length*9+j]?=some v:=hcell
     have hmid:∀ j v,([.int .u8 eop,.int .u8 ety,.int .u64 ebits,.string (str ename),.slice ea ekids.length ecap]:List Value)[j]?=some v→xs[l1.length*9+2+j]?=some v:=cell_part hcell 2 (mid_get [_,_] [.int .u8 eop,.int .u8 ety,.int .u64 ebits,.string (str ename),.slice ea ekids.length ecap] [_,_])
     simp only [swt] at hw1
     refine gK true (b:=intLt (l1.length:Int) (n:Int)) (lt_t (by omega)) ?_
     refine rk ?_
     refine good_draw sy_mixed (by kernel_rfl) ?_
     refine q_run [] 60 ?_
     refine qV (.pointer (some ⟨gB a,oB a+l1.length*9,none⟩)) (S:=Instr.indexAt 54 (.slice a n cap) (.int .i64 (l1.length:Int))) (fun W _=>idx_sl (e:=56) hsl (by kernel_rfl) (by kernel_rfl) hin W) ?_
     refine q_run [] 60 ?_
     refine qV (.agg #[.int .u8 eop,.int .u8 ety,.int .u64 ebits,.string (str ename),.slice ea ekids.length ecap]) (S:=Instr.loadAt 34 (.pointer (some ⟨gB a,oB a+l1.length*9+2,none⟩))) (fun W hk=>load_slA (P:=Tryz.prog) (ty:=34) (m:=5) (cs:=[.int .u8 eop,.int .u8 ety,.int .u64 ebits,.string (str ename),.slice ea ekids.length ecap]) hsl (by kernel_rfl) (by kernel_rfl) l1.length 2 rfl hmid hk) ?_
     refine q_run [] 60 ?_
     refine qB [.agg #[.int .u8 eop,.int .u8 ety,.int .u64 ebits,.string (str ename),.slice ea ekids.length ecap]] (.int .i64 (wgt (.mk eop ety ebits ename ekids):Nat)) (fun W hk=>weight_any _ (.mk eop ety ebits ename ekids) [.int .u8 eop,.int .u8 ety,.int .u64 ebits,.string (str ename),.slice ea ekids.length ecap] W (Nat.le_refl _) (by omega) (he.keep hk (fun k h=>Nat.lt_of_lt_of_le h hk.size))) ?_
     refine q_run [] 60 ?_
     refine qV (.pointer (some ⟨gB a,oB a+l1.length*9,none⟩)) (S:=Instr.indexAt 54 (.slice a n cap) (.int .i64 (l1.length:Int))) (fun W _=>idx_sl (e:=56) hsl (by kernel_rfl) (by kernel_rfl) hin W) ?_
     refine q_run [] 60 ?_
     refine qV (.slice ba body.length bcap) (S:=Instr.loadAt 54 (.pointer (some ⟨gB a,oB a+l1.length*9+7,none⟩))) (fun W hk=>load_sl hsl (by kernel_rfl) l1.length 7 (hcell 7 _ rfl) hk) ?_
     refine q_run [] 60 ?_
     refine qB [.slice ba body.length bcap] (.int .i64 (swts body:Nat)) (fun W hk=>ihN body _ _ _ _ W rfl (by omega) (by omega) ((hbs.keep hk).mono (fun k h=>Nat.lt_of_lt_of_le h hk.size)) (hbt.keep hk (fun k h=>Nat.lt_of_lt_of_le h hk.size))) ?_
     refine q_run [] 60 ?_
     refine qV (.pointer (some ⟨gB a,oB a+l1.length*9,none⟩)) (S:=Instr.indexAt 54 (.slice a n cap) (.int .i64 (l1.length:Int))) (fun W _=>idx_sl (e:=56) hsl (by kernel_rfl) (by kernel_rfl) hin W) ?_
     refine q_run [] 60 ?_
     refine qV (.slice la els.length lcap) (S:=Instr.loadAt 54 (.pointer (some ⟨gB a,oB a+l1.length*9+8,none⟩))) (fun W hk=>load_sl hsl (by kernel_rfl) l1.length 8 (hcell 8 _ rfl) hk) ?_
     refine q_run [] 60 ?_
     refine qB [.slice la els.length lcap] (.int .i64 (swts els:Nat)) (fun W hk=>ihN els _ _ _ _ W rfl (by omega) (by omega) ((hls.keep hk).mono (fun k h=>Nat.lt_of_lt_of_le h hk.size)) (hlt.keep hk (fun k h=>Nat.lt_of_lt_of_le h hk.size))) ?_
     refine q_run [] 60 ?_
     refine qE ?_
     refine rk ?_
     have hs1:swts (l1++[(St.mk kind sname (.mk eop ety ebits ename ekids) body els)])=swts l1+(1+wgt (.mk eop ety ebits ename ekids)+swts body+swts els):=by rw [swts_app];simp [swts,swt]
     refine gS 3 (x := .int .i64 (wrapF .i64 (wrapF .i64 (wrapF .i64 (wrapF .i64 (((swts l1:Nat):Int)+1)+((wgt (.mk eop ety ebits ename ekids):Nat):Int))+((swts body:Nat):Int))+((swts els:Nat):Int)))) (.int .i64 (((swts (l1++[(St.mk kind sname (.mk eop ety ebits ename ekids) body els)]):Nat):Int))) (by rw [wr64 (n:=((swts l1:Nat):Int)+1) (by omega) (by omega),wr64 (n:=((swts l1:Nat):Int)+1+((wgt (.mk eop ety ebits ename ekids):Nat):Int)) (by omega) (by omega),wr64 (n:=((swts l1:Nat):Int)+1+((wgt (.mk eop ety ebits ename ekids):Nat):Int)+((swts body:Nat):Int)) (by omega) (by omega),wr64 (n:=((swts l1:Nat):Int)+1+((wgt (.mk eop ety ebits ename ekids):Nat):Int)+((swts body:Nat):Int)+((swts els:Nat):Int)) (by omega) (by omega)];congr 1;omega) ?_
     refine gS 4 (x := .int .i64 (wrapF .i64 (((l1.length:Nat):Int)+1))) (.int .i64 ((((l1++[(St.mk kind sname (.mk eop ety ebits ename ekids) body els)]).length:Nat):Int))) (by rw [wr64 (n:=((l1.length:Nat):Int)+1) (by omega) (by omega)];congr 1;simp) ?_
     exact gU _ [(0,.v (.slice a n cap)),(3,.v (.int .i64 ((swts (l1++[(St.mk kind sname (.mk eop ety ebits ename ekids) body els)]):Nat):Int))),(4,.v (.int .i64 ((l1++[(St.mk kind sname (.mk eop ety ebits ename ekids) body els)]).length:Int)))] [] gz (fun b hb=>hγ0 b hb) (ih (l1++[(St.mk kind sname (.mk eop ety ebits ename ekids) body els)],l3) (by show l=(l1++[_])++l3;rw [hI];simp) (by show l3.length<(_::l3).length;simp))
open Go.Sy in
set_option maxRecDepth 100000 in
theorem weightProgram_any (p:Pg) (cs:List Value) (w:World) (hbd:pwt p≤1099511627776) (hp:PgAt (·<w.heap.size) w p cs):
  Calls Tryz.prog 48 #[.agg cs.toArray] w fun r w'=>r = .returned (.int .i64 (pwt p:Nat))∧Below w.heap.size w w':=by
 obtain ⟨a,cap,xs,b,cap2,ys,d,cap3,zs,rfl,hxs,hxt,hys,hyt,hzs,hzt⟩:=hp
 obtain ⟨ns,hns⟩:∃ n,n=p.shared.length:=⟨_,rfl⟩
 obtain ⟨nm,hnm⟩:∃ n,n=p.mutexes.length:=⟨_,rfl⟩
 obtain ⟨nt,hnt⟩:∃ n,n=p.threads.length:=⟨_,rfl⟩
 obtain ⟨pt,hpt⟩:∃ l,l=p.threads:=⟨_,rfl⟩
 have hbd1:ns+nm+thws pt≤1099511627776:=by rw [hns,hnm,hpt];exact hbd
 rw [← hns] at hxs ⊢
 rw [← hnm] at hys ⊢
 rw [← hnt] at hzs ⊢
 rw [← hpt] at hzt hnt
 have hpw:pwt p=ns+nm+thws pt:=by rw [hns,hnm,hpt];rfl
 have hnl:=thws_len pt
 refine Sy.enter (vs:=[.agg #[.slice a ns cap,.slice b nm cap2,.slice d nt cap3]]) sy_fine Tryz.func48 rfl (fun γ=>norms_LR _) rfl (fun γ0 hγ0=>?_)
 refine rk ?_
 refine good_toLp ?_
 refine gS 3 (x := .int .i64 (wrapF .i64 (((ns:Nat):Int)+((nm:Nat):Int)))) (.int .i64 (((ns+nm+thws ([]:List Th):Nat):Int))) (by rw [wr64 (n:=((ns:Nat):Int)+((nm:Nat):Int)) (by omega) (by omega)];simp [thws]) ?_
 refine good_loopI (fun i:List Th×List Th=>i.2.length) (fun i=>pt=i.1++i.2) (fun i=>⟨mkT [(1,.ptr gz 0),(3,.v (.int .i64 ((ns+nm+thws i.1:Nat):Int))),(4,.v (.int .i64 ((i.1.length:Nat):Int)))],mkH [(gz,some (.cells 26 true true true 3 (putL .leaf 0 [.v (.slice a ns cap),.v (.slice b nm cap2),.v (.slice d nt cap3)])))],gz+1,[]⟩)
  ([],pt) rfl (by kernel_rfl)
  (fun h=>gU _ [(1,.ptr gz 0),(3,.v (.int .i64 ((ns+nm+thws ([]:List Th):Nat):Int))),(4,.v (.int .i64 ((([]:List Th).length:Nat):Int)))] [(gz,some (.cells 26 true true true 3 (putL .leaf 0 [.v (.slice a ns cap),.v (.slice b nm cap2),.v (.slice d nt cap3)])))] (gz+1) (fun b hb=>hγ0 b (Nat.le_trans (Nat.le_add_right _ _) hb)) h) ?_
 rintro ⟨l1,l2⟩ hI ih
 have hI:pt=l1++l2:=hI
 have hn2:nt=l1.length+l2.length:=by rw [hnt,hI,List.length_append]
 have hw1:thws pt=thws l1+thws l2:=by rw [hI,thws_app]
 refine rk ?_
 cases l2 with
 | nil=>
   have hn3:nt=l1.length:=by rw [hn2];simp
   refine gK false (b:=intLt (l1.length:Int) (nt:Int)) (lt_f (by omega)) ?_
   refine rk ?_
   refine gR (.int .i64 ((ns+nm+thws l1:Nat):Int)) (fun W hk=>⟨?_,hk.below⟩)
   rw [hpw,hw1]
   simp [thws]
 | cons s l3=>
   have hin:l1.length<nt:=by rw [hn2,List.length_cons];omega
   have hks2:=hzt
   rw [hI] at hks2
   obtain ⟨c,hc,hcell⟩:=hks2.at_ (fun _ _ h=>h.len)
   simp only [thws] at hw1
   obtain ⟨la,lcap,lxs,ba,bcap,bxs,rfl,hls,hlt,hbs,hbt⟩:=hc
   simp only [thw] at hw1
   refine gK true (b:=intLt (l1.length:Int) (nt:Int)) (lt_t (by omega)) ?_
   refine rk ?_
   refine good_draw sy_mixed (by kernel_rfl) ?_
   refine q_run [] 60 ?_
   refine qV (.pointer (some ⟨gB d,oB d+l1.length*3,none⟩)) (S:=Instr.indexAt 24 (.slice d nt cap3) (.int .i64 (l1.length:Int))) (fun W _=>idx_sl (e:=58) hzs (by kernel_rfl) (by kernel_rfl) hin W) ?_
   refine q_run [] 60 ?_
   refine qV (.slice la s.locals.length lcap) (S:=Instr.loadAt 22 (.pointer (some ⟨gB d,oB d+l1.length*3+1,none⟩))) (fun W hk=>load_sl hzs (by kernel_rfl) l1.length 1 (hcell 1 _ rfl) hk) ?_
   refine q_run [] 60 ?_
   refine qV (.pointer (some ⟨gB d,oB d+l1.length*3,none⟩)) (S:=Instr.indexAt 24 (.slice d nt cap3) (.int .i64 (l1.length:Int))) (fun W _=>idx_sl (e:=58) hzs (by kernel_rfl) (by kernel_rfl) hin W) ?_
   refine q_run [] 60 ?_
   refine qV (.slice ba s.body.length bcap) (S:=Instr.loadAt 54 (.pointer (some ⟨gB d,oB d+l1.length*3+2,none⟩))) (fun W hk=>load_sl hzs (by kernel_rfl) l1.length 2 (hcell 2 _ rfl) hk) ?_
   refine q_run [] 60 ?_
   refine qB [.slice ba s.body.length bcap] (.int .i64 ((swts s.body:Nat):Int)) (fun W hk=>weightStmts_any _ s.body _ _ _ _ W rfl (Nat.lt_succ_self _) (by omega) ((hbs.keep hk).mono (fun k h=>Nat.lt_of_lt_of_le h hk.size)) (hbt.keep hk (fun k h=>Nat.lt_of_lt_of_le h hk.size))) ?_
   refine q_run [] 60 ?_
   refine qE ?_
   refine rk ?_
   have hs1:thws (l1++[s])=thws l1+(1+s.locals.length+swts s.body):=by rw [thws_app];simp [thws,thw]
   refine gS 3 (x := .int .i64 (wrapF .i64 (wrapF .i64 (wrapF .i64 (((ns+nm+thws l1:Nat):Int)+1)+((s.locals.length:Nat):Int))+((swts s.body:Nat):Int)))) (.int .i64 (((ns+nm+thws (l1++[s]):Nat):Int))) (by rw [wr64 (n:=((ns+nm+thws l1:Nat):Int)+1) (by omega) (by omega),wr64 (n:=((ns+nm+thws l1:Nat):Int)+1+((s.locals.length:Nat):Int)) (by omega) (by omega),wr64 (n:=((ns+nm+thws l1:Nat):Int)+1+((s.locals.length:Nat):Int)+((swts s.body:Nat):Int)) (by omega) (by omega)];congr 1;omega) ?_
   refine gS 4 (x := .int .i64 (wrapF .i64 (((l1.length:Nat):Int)+1))) (.int .i64 ((((l1++[s]).length:Nat):Int))) (by rw [wr64 (n:=((l1.length:Nat):Int)+1) (by omega) (by omega)];congr 1;simp) ?_
   exact gU _ [(1,.ptr gz 0),(3,.v (.int .i64 ((ns+nm+thws (l1++[s]):Nat):Int))),(4,.v (.int .i64 (((l1++[s]).length:Nat):Int)))] [(gz,some (.cells 26 true true true 3 (putL .leaf 0 [.v (.slice a ns cap),.v (.slice b nm cap2),.v (.slice d nt cap3)])))] (gz+1) (fun b hb=>hγ0 b (Nat.le_trans (Nat.le_add_right _ _) hb)) (ih (l1++[s],l3) (by show pt=(l1++[_])++l3;rw [hI];simp) (by show l3.length<(_::l3).length;simp))
end Go.Proofs.YtiacalnkmnckjaaGreatDoor
end
section
namespace Go.Proofs.YtiacalnkmnckjaaGreatDoor
open Go.RowKit Go.As
noncomputable def sameB {α:Type} (a b:α):Bool:=@decide (a=b) (Classical.propDecidable _)
theorem sameB_t {α:Type} {a b:α}:sameB a b=true↔a=b:=by unfold sameB;exact @decide_eq_true_iff _ (Classical.propDecidable _)
theorem sameB_f {α:Type} {a b:α} (h:a≠b):sameB a b=false:=by rw [← Bool.not_eq_true,sameB_t];exact h
theorem varGuard:Tryz.prog.eqGuardType Tryz.prog.depth 67=false:=by kernel_rfl
noncomputable def vrEq (x y:Vr):Bool:=Sy.bEqL x.name y.name&&vEq x.ty x.bits y.ty y.bits
theorem vrEq_t {x y:Vr}:vrEq x y=true↔x=y:=by
 obtain ⟨a,b,c⟩:=x
 obtain ⟨d,e,g⟩:=y
 simp [vrEq,vEq,Sy.bEqL_eq,Sy.intEq_eq]
theorem run_neq_var (ox oy:Operand) (x y:Vr) (w:World):
  (do eqGuard .neq 67 ox oy (.agg #[.string (str x.name),.int .u8 x.ty,.int .u64 x.bits]) (.agg #[.string (str y.name),.int .u8 y.ty,.int .u64 y.bits]);binOp .neq 67 (.agg #[.string (str x.name),.int .u8 x.ty,.int .u64 x.bits]) (.agg #[.string (str y.name),.int .u8 y.ty,.int .u64 y.bits]):Sem Value).run Tryz.prog w = .ok (.bool (!(vrEq x y))) w:=by
 have h1:(eqGuard .neq 67 ox oy (.agg #[.string (str x.name),.int .u8 x.ty,.int .u64 x.bits]) (.agg #[.string (str y.name),.int .u8 y.ty,.int .u64 y.bits])).run Tryz.prog w = .ok () w:=by
  have:=varGuard
  unfold eqGuard
  go_simp
 have h2:(binOp .neq 67 (.agg #[.string (str x.name),.int .u8 x.ty,.int .u64 x.bits]) (.agg #[.string (str y.name),.int .u8 y.ty,.int .u64 y.bits])).run Tryz.prog w = .ok (.bool (!(vrEq x y))) w:=by
  have h0:Tryz.prog.underlying 67=some (.struct (Tryz.prog.fieldsOf 67)):=by rw [Program.fieldsOf,Tryz.underlying67]
  rw [run_neq_struct,run_equalIn_agg w 9999 _ _ _ h0 (by kernel_rfl)]
  have h1:=run_equalIn_string (P:=Tryz.prog) w 9998 9 (str x.name) (str y.name) Tryz.underlying9
  have h2:=run_eqi_value x.ty x.bits y.ty y.bits 9997 w
  rw [str_toList,str_toList] at h1
  rw [Program.fieldsOf,Tryz.underlying67]
  unfold vrEq
  rw [Sy.bEqL_eq]
  go_simp
  by_cases ha:x.name=y.name <;> by_cases hb:x.ty=y.ty <;> by_cases hc:x.bits=y.bits <;> simp [ha,hb,hc,vEq,Sy.intEq_eq]
 exact Sy.eqG2 h1 h2
open Go.Sy in
set_option maxRecDepth 100000 in
theorem sameTexts_any (L M:List (List UInt8)) (a1 a2:Option Addr) (n1 n2 cap1 cap2:Nat) (xs1 xs2:List Value) (w:World) (hn1:n1=L.length) (hn2:n2=M.length) (hbd:n1≤1099511627776)
  (hsl1:Sy.SlAt (·<w.heap.size) w a1 n1 1 xs1) (hsl2:Sy.SlAt (·<w.heap.size) w a2 n2 1 xs2) (hks1:LsAt TxAt L xs1) (hks2:LsAt TxAt M xs2):
  Calls Tryz.prog 67 #[.slice a1 n1 cap1,.slice a2 n2 cap2] w fun r w'=>r = .returned (.bool (sameB L M))∧Below w.heap.size w w':=by
 refine Sy.enter (vs:=[.slice a1 n1 cap1,.slice a2 n2 cap2]) sy_fine Tryz.func67 rfl (fun γ=>norms_LR _) rfl (fun γ0 hγ0=>?_)
 refine rk ?_
 refine good_cond (b:=!(intEq (n1:Int) (n2:Int))) (by kernel_rfl) (fun hnn=>?_) (fun hnn=>?_)
 ·
  refine rs [] 60 2 ?_
  refine gR (.bool false) (fun W hk=>⟨?_,hk.below⟩)
  rw [sameB_f]
  intro h
  rw [intEq_eq] at hnn;simp_all
 have hnn1:n1=n2:=by rw [intEq_eq] at hnn;have:(n1:Int)=(n2:Int):=(by simpa using hnn);omega
 refine rk ?_
 refine good_toLp ?_
 refine good_loopI (fun i:List (List UInt8)×List (List UInt8)×List (List UInt8)=>i.2.1.length) (fun i=>L=i.1++i.2.1∧M=i.1++i.2.2) (fun i=>⟨mkT [(0,.v (.slice a1 n1 cap1)),(1,.v (.slice a2 n2 cap2)),(5,.v (.int .i64 (i.1.length:Int)))],mkH [],gz,[]⟩)
  ([],L,M) ⟨rfl,rfl⟩ (by kernel_rfl)
  (fun h=>good_sub _ [(0,.v (.slice a1 n1 cap1)),(1,.v (.slice a2 n2 cap2)),(5,.v (.int .i64 (([]:List (List UInt8)).length:Int)))] [] gz rfl (by kernel_rfl) (by kernel_rfl) (by kernel_rfl) (by kernel_rfl) (by kernel_rfl) (fun b hb=>hγ0 b hb) (by kernel_rfl) h) ?_
 rintro ⟨l1,l2,m2⟩ ⟨hI1,hI2⟩ ih
 simp only at hI1 hI2
 have hq1:n1=l1.length+l2.length:=by rw [hn1,hI1,List.length_append]
 have hq2:n2=l1.length+m2.length:=by rw [hn2,hI2,List.length_append]
 refine rk ?_
 cases l2 with
 | nil=>
   obtain rfl:m2=[]:=List.eq_nil_of_length_eq_zero (by simp only [List.length_nil] at hq1;omega)
   refine gK false (b:=intLt (l1.length:Int) (n1:Int)) (lt_f (by rw [hq1];simp)) ?_
   refine rk ?_
   refine gR (.bool true) (fun W hk=>⟨?_,hk.below⟩)
   rw [sameB_t.2 (by rw [hI1,hI2])]
 | cons x l3=>
   obtain ⟨y,m3,rfl⟩:∃ y m3,m2=y::m3:=by
    cases m2 with
    | nil=>simp only [List.length_nil,List.length_cons] at hq1 hq2;omega
    | cons a b=>exact ⟨a,b,rfl⟩
   have hin1:l1.length<n1:=by rw [hq1,List.length_cons];omega
   have hin2:l1.length<n2:=by omega
   have hks1':=hks1
   have hks2':=hks2
   rw [hI1] at hks1'
   rw [hI2] at hks2'
   obtain ⟨c1,hc1,hcell1⟩:=hks1'.at_ (fun _ _ h=>h.len)
   obtain ⟨c2,hc2,hcell2⟩:=hks2'.at_ (fun _ _ h=>h.len)
   refine gK true (b:=intLt (l1.length:Int) (n1:Int)) (lt_t (by omega)) ?_
   refine rk ?_
   obtain rfl:c1=[.string (str x)]:=hc1
   obtain rfl:c2=[.string (str y)]:=hc2
   refine good_draw sy_mixed (by kernel_rfl) ?_
   refine q_run [] 60 ?_
   refine qV (.pointer (some ⟨gB a1,oB a1+l1.length*1,none⟩)) (S:=Instr.indexAt 23 (.slice a1 n1 cap1) (.int .i64 (l1.length:Int))) (fun W _=>idx_sl (e:=9) hsl1 (by kernel_rfl) (by kernel_rfl) hin1 W) ?_
   refine q_run [] 60 ?_
   refine qV (.string (str x)) (S:=Instr.loadAt 9 (.pointer (some ⟨gB a1,oB a1+l1.length*1+0,none⟩))) (fun W hk=>load_sl hsl1 (by kernel_rfl) l1.length 0 (hcell1 0 _ rfl) hk) ?_
   refine q_run [] 60 ?_
   refine qV (.pointer (some ⟨gB a2,oB a2+l1.length*1,none⟩)) (S:=Instr.indexAt 23 (.slice a2 n2 cap2) (.int .i64 (l1.length:Int))) (fun W _=>idx_sl (e:=9) hsl2 (by kernel_rfl) (by kernel_rfl) hin2 W) ?_
   refine q_run [] 60 ?_
   refine qV (.string (str y)) (S:=Instr.loadAt 9 (.pointer (some ⟨gB a2,oB a2+l1.length*1+0,none⟩))) (fun W hk=>load_sl hsl2 (by kernel_rfl) l1.length 0 (hcell2 0 _ rfl) hk) ?_
   refine q_run [] 60 ?_
   refine qE ?_
   refine rk ?_
   refine good_cond (b:=!(bEqL x y)) (by kernel_rfl) (fun hss=>?_) (fun hss=>?_)
   ·
    have hne:x≠y:=fun h=>by rw [h,bEqL_eq] at hss;simp at hss
    refine rs [] 60 2 ?_
    refine gR (.bool false) (fun W hk=>⟨?_,hk.below⟩)
    rw [sameB_f]
    intro h
    rw [hI1,hI2] at h
    have h2:=(List.cons.inj (List.append_cancel_left h)).1
    exact hne h2
   ·
    have hxy:x=y:=by rw [bEqL_eq] at hss;simpa using hss
    refine rs [] 60 2 ?_
    refine gS 5 (x := .int .i64 (wrapF .i64 (((l1.length:Nat):Int)+1))) (.int .i64 ((((l1++[x]).length:Nat):Int))) (by rw [wr64 (n:=((l1.length:Nat):Int)+1) (by omega) (by omega)];congr 1;simp) ?_
    exact gU _ [(0,.v (.slice a1 n1 cap1)),(1,.v (.slice a2 n2 cap2)),(5,.v (.int .i64 ((l1++[x]).length:Int)))] [] gz (fun b hb=>hγ0 b hb) (ih (l1++[x],l3,m3) ⟨(by show L=(l1++[_])++l3;rw [hI1];simp),(by show M=(l1++[_])++m3;rw [hI2,← hxy];simp)⟩ (by show l3.length<(_::l3).length;simp))
open Go.Sy in
set_option maxRecDepth 100000 in
theorem sameVars_any (L M:List Vr) (a1 a2:Option Addr) (n1 n2 cap1 cap2:Nat) (xs1 xs2:List Value) (w:World) (hn1:n1=L.length) (hn2:n2=M.length) (hbd:n1≤1099511627776)
  (hsl1:Sy.SlAt (·<w.heap.size) w a1 n1 3 xs1) (hsl2:Sy.SlAt (·<w.heap.size) w a2 n2 3 xs2) (hks1:LsAt VrAt L xs1) (hks2:LsAt VrAt M xs2):
  Calls Tryz.prog 66 #[.slice a1 n1 cap1,.slice a2 n2 cap2] w fun r w'=>r = .returned (.bool (sameB L M))∧Below w.heap.size w w':=by
 refine Sy.enter (vs:=[.slice a1 n1 cap1,.slice a2 n2 cap2]) sy_fine Tryz.func66 rfl (fun γ=>norms_LR _) rfl (fun γ0 hγ0=>?_)
 refine rk ?_
 refine good_cond (b:=!(intEq (n1:Int) (n2:Int))) (by kernel_rfl) (fun hnn=>?_) (fun hnn=>?_)
 ·
  refine rs [] 60 2 ?_
  refine gR (.bool false) (fun W hk=>⟨?_,hk.below⟩)
  rw [sameB_f]
  intro h
  rw [intEq_eq] at hnn;simp_all
 have hnn1:n1=n2:=by rw [intEq_eq] at hnn;have:(n1:Int)=(n2:Int):=(by simpa using hnn);omega
 refine rk ?_
 refine good_toLp ?_
 refine good_loopI (fun i:List Vr×List Vr×List Vr=>i.2.1.length) (fun i=>L=i.1++i.2.1∧M=i.1++i.2.2) (fun i=>⟨mkT [(0,.v (.slice a1 n1 cap1)),(1,.v (.slice a2 n2 cap2)),(5,.v (.int .i64 (i.1.length:Int)))],mkH [],gz,[]⟩)
  ([],L,M) ⟨rfl,rfl⟩ (by kernel_rfl)
  (fun h=>good_sub _ [(0,.v (.slice a1 n1 cap1)),(1,.v (.slice a2 n2 cap2)),(5,.v (.int .i64 (([]:List Vr).length:Int)))] [] gz rfl (by kernel_rfl) (by kernel_rfl) (by kernel_rfl) (by kernel_rfl) (by kernel_rfl) (fun b hb=>hγ0 b hb) (by kernel_rfl) h) ?_
 rintro ⟨l1,l2,m2⟩ ⟨hI1,hI2⟩ ih
 simp only at hI1 hI2
 have hq1:n1=l1.length+l2.length:=by rw [hn1,hI1,List.length_append]
 have hq2:n2=l1.length+m2.length:=by rw [hn2,hI2,List.length_append]
 refine rk ?_
 cases l2 with
 | nil=>
   obtain rfl:m2=[]:=List.eq_nil_of_length_eq_zero (by simp only [List.length_nil] at hq1;omega)
   refine gK false (b:=intLt (l1.length:Int) (n1:Int)) (lt_f (by rw [hq1];simp)) ?_
   refine rk ?_
   refine gR (.bool true) (fun W hk=>⟨?_,hk.below⟩)
   rw [sameB_t.2 (by rw [hI1,hI2])]
 | cons x l3=>
   obtain ⟨y,m3,rfl⟩:∃ y m3,m2=y::m3:=by
    cases m2 with
    | nil=>simp only [List.length_nil,List.length_cons] at hq1 hq2;omega
    | cons a b=>exact ⟨a,b,rfl⟩
   have hin1:l1.length<n1:=by rw [hq1,List.length_cons];omega
   have hin2:l1.length<n2:=by omega
   have hks1':=hks1
   have hks2':=hks2
   rw [hI1] at hks1'
   rw [hI2] at hks2'
   obtain ⟨c1,hc1,hcell1⟩:=hks1'.at_ (fun _ _ h=>h.len)
   obtain ⟨c2,hc2,hcell2⟩:=hks2'.at_ (fun _ _ h=>h.len)
   refine gK true (b:=intLt (l1.length:Int) (n1:Int)) (lt_t (by omega)) ?_
   refine rk ?_
   obtain rfl:c1=[.string (str x.name),.int .u8 x.ty,.int .u64 x.bits]:=hc1
   obtain rfl:c2=[.string (str y.name),.int .u8 y.ty,.int .u64 y.bits]:=hc2
   refine good_draw sy_mixed (by kernel_rfl) ?_
   refine q_run [] 60 ?_
   refine qV (.pointer (some ⟨gB a1,oB a1+l1.length*3,none⟩)) (S:=Instr.indexAt 22 (.slice a1 n1 cap1) (.int .i64 (l1.length:Int))) (fun W _=>idx_sl (e:=67) hsl1 (by kernel_rfl) (by kernel_rfl) hin1 W) ?_
   refine q_run [] 60 ?_
   refine qV (.agg #[.string (str x.name),.int .u8 x.ty,.int .u64 x.bits]) (S:=Instr.loadAt 67 (.pointer (some ⟨gB a1,oB a1+l1.length*3+0,none⟩))) (fun W hk=>load_slA (P:=Tryz.prog) (ty:=67) (m:=3) (cs:=[.string (str x.name),.int .u8 x.ty,.int .u64 x.bits]) hsl1 (by kernel_rfl) (by kernel_rfl) l1.length 0 rfl hcell1 hk) ?_
   refine q_run [] 60 ?_
   refine qV (.pointer (some ⟨gB a2,oB a2+l1.length*3,none⟩)) (S:=Instr.indexAt 22 (.slice a2 n2 cap2) (.int .i64 (l1.length:Int))) (fun W _=>idx_sl (e:=67) hsl2 (by kernel_rfl) (by kernel_rfl) hin2 W) ?_
   refine q_run [] 60 ?_
   refine qV (.agg #[.string (str y.name),.int .u8 y.ty,.int .u64 y.bits]) (S:=Instr.loadAt 67 (.pointer (some ⟨gB a2,oB a2+l1.length*3+0,none⟩))) (fun W hk=>load_slA (P:=Tryz.prog) (ty:=67) (m:=3) (cs:=[.string (str y.name),.int .u8 y.ty,.int .u64 y.bits]) hsl2 (by kernel_rfl) (by kernel_rfl) l1.length 0 rfl hcell2 hk) ?_
   refine q_run [25] 60 ?_
   refine qV (.bool (!(vrEq x y))) (S:=do eqGuard .neq 67 (.tmp 20) (.tmp 24) (.agg #[.string (str x.name),.int .u8 x.ty,.int .u64 x.bits]) (.agg #[.string (str y.name),.int .u8 y.ty,.int .u64 y.bits]);binOp .neq 67 (.agg #[.string (str x.name),.int .u8 x.ty,.int .u64 x.bits]) (.agg #[.string (str y.name),.int .u8 y.ty,.int .u64 y.bits])) (fun W _=>run_neq_var _ _ _ _ W) ?_
   refine q_run [] 60 ?_
   refine qE ?_
   refine rk ?_
   refine good_cond (b:=!(vrEq x y)) (by kernel_rfl) (fun hss=>?_) (fun hss=>?_)
   ·
    have hne:x≠y:=fun h=>by rw [vrEq_t.2 h] at hss;cases hss
    refine rs [] 60 2 ?_
    refine gR (.bool false) (fun W hk=>⟨?_,hk.below⟩)
    rw [sameB_f]
    intro h
    rw [hI1,hI2] at h
    have h2:=(List.cons.inj (List.append_cancel_left h)).1
    exact hne h2
   ·
    have hxy:x=y:=vrEq_t.1 (by simpa using hss)
    refine rs [] 60 2 ?_
    refine gS 5 (x := .int .i64 (wrapF .i64 (((l1.length:Nat):Int)+1))) (.int .i64 ((((l1++[x]).length:Nat):Int))) (by rw [wr64 (n:=((l1.length:Nat):Int)+1) (by omega) (by omega)];congr 1;simp) ?_
    exact gU _ [(0,.v (.slice a1 n1 cap1)),(1,.v (.slice a2 n2 cap2)),(5,.v (.int .i64 ((l1++[x]).length:Int)))] [] gz (fun b hb=>hγ0 b hb) (ih (l1++[x],l3,m3) ⟨(by show L=(l1++[_])++l3;rw [hI1];simp),(by show M=(l1++[_])++m3;rw [hI2,← hxy];simp)⟩ (by show l3.length<(_::l3).length;simp))
end Go.Proofs.YtiacalnkmnckjaaGreatDoor
end
