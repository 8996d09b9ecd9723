/- Texts of this proof, one behind the other. Conditions: those in each theorem. -/
import Derived.Test.YtiacalnkmnckjaaGreatDoorTprQ8
import Derived.Test.YtiacalnkmnckjaaGreatDoorTprQ1
import Derived.Test.YtiacalnkmnckjaaGreatDoorTprQ2
import Derived.Test.YtiacalnkmnckjaaGreatDoorTprQ3
set_option linter.unusedVariables false
set_option linter.unusedSimpArgs false
section
namespace Go.Proofs.YtiacalnkmnckjaaGreatDoor
open Go.RowKit Go.As
noncomputable def gz:Nat:=Tryz.prog.globals.size
inductive Ex where
 | mk (op ty bits:Int) (name:List UInt8) (kids:List Ex)
def Ex.kids:Ex→List Ex
 | .mk _ _ _ _ k=>k
mutual
def wgt:Ex→Nat
 | .mk _ _ _ _ k=>wgts k+1
def wgts:List Ex→Nat
 | []=>0
 | e::l=>wgt e+wgts l
end
theorem wgts_app:∀ (l r:List Ex),wgts (l++r)=wgts l+wgts r
 | [],r=>by simp [wgts]
 | e::l,r=>by
   rw [List.cons_append]
   simp only [wgts]
   rw [wgts_app l r]
   omega
theorem wgt_pos (e:Ex):0<wgt e:=by cases e;simp only [wgt];omega
theorem wgts_len:∀ (l:List Ex),l.length≤wgts l
 | []=>Nat.zero_le _
 | e::l=>by
   have:=wgts_len l
   have:=wgt_pos e
   simp only [wgts,List.length_cons]
   omega
mutual
def ExAt (F:Nat→Prop) (w:World):Ex→List Value→Prop
 | .mk op ty bits name kids,cs=>∃ a cap xs,cs=[.int .u8 op,.int .u8 ty,.int .u64 bits,.string (str name),.slice a kids.length cap]∧Sy.SlAt F w a kids.length 5 xs∧ExsAt F w kids xs
def ExsAt (F:Nat→Prop) (w:World):List Ex→List Value→Prop
 | [],xs=>xs=[]
 | e::l,xs=>∃ c r,xs=c++r∧ExAt F w e c∧ExsAt F w l r
end
theorem ExAt.len {F:Nat→Prop} {w:World} {e:Ex} {cs:List Value} (h:ExAt F w e cs):cs.length=5:=by
 cases e
 simp only [ExAt] at h
 obtain ⟨a,cap,xs,rfl,_⟩:=h
 rfl
mutual
theorem ExAt.keep {F F':Nat→Prop} {w w':World} (hk:Sy.Keep F w w') (hF:∀ k,F k→F' k):∀ {e:Ex} {cs:List Value},ExAt F w e cs→ExAt F' w' e cs
 | .mk op ty bits name kids,cs,h=>by
   simp only [ExAt] at h ⊢
   obtain ⟨a,cap,xs,h1,h2,h3⟩:=h
   exact ⟨a,cap,xs,h1,(h2.keep hk).mono hF,ExsAt.keep hk hF h3⟩
theorem ExsAt.keep {F F':Nat→Prop} {w w':World} (hk:Sy.Keep F w w') (hF:∀ k,F k→F' k):∀ {l:List Ex} {xs:List Value},ExsAt F w l xs→ExsAt F' w' l xs
 | [],xs,h=>by simp only [ExsAt] at h ⊢;exact h
 | e::l,xs,h=>by
   simp only [ExsAt] at h ⊢
   obtain ⟨c,r,h1,h2,h3⟩:=h
   exact ⟨c,r,h1,ExAt.keep hk hF h2,ExsAt.keep hk hF h3⟩
end
theorem ExsAt.at_ {F:Nat→Prop} {w:World}:∀ {l1:List Ex} {e:Ex} {l3:List Ex} {xs:List Value},ExsAt F w (l1++e::l3) xs→∃ c,ExAt F w e c∧∀ j v,c[j]?=some v→xs[l1.length*5+j]?=some v
 | [],e,l3,xs,h=>by
   simp only [List.nil_append,ExsAt] at h
   obtain ⟨c,r,rfl,h2,_⟩:=h
   refine ⟨c,h2,fun j v hv=>?_⟩
   rw [List.length_nil,Nat.zero_mul,Nat.zero_add,List.getElem?_append_left (List.getElem?_eq_some_iff.1 hv).1]
   exact hv
 | x::l1,e,l3,xs,h=>by
   simp only [List.cons_append,ExsAt] at h
   obtain ⟨c,r,rfl,h2,h3⟩:=h
   obtain ⟨c',h4,h5⟩:=ExsAt.at_ h3
   refine ⟨c',h4,fun j v hv=>?_⟩
   have hl:=h2.len
   rw [List.length_cons,List.getElem?_append_right (by omega),show (l1.length+1)*5+j - c.length=l1.length*5+j by omega]
   exact h5 j v hv
open Go.Sy in
set_option maxRecDepth 100000 in
theorem weight_any:∀ (N:Nat) (e:Ex) (cs:List Value) (w:World),wgt e≤N→wgt e≤1099511627776→ExAt (·<w.heap.size) w e cs→
  Calls Tryz.prog 13 #[.agg cs.toArray] w fun r w'=>r = .returned (.int .i64 (wgt e:Nat))∧Below w.heap.size w w':=by
 intro N
 induction N with
 | zero=>intro e cs w h;have:=wgt_pos e;omega
 | succ N ihN=>
   intro e cs w hN hbd hat
   obtain ⟨op,ty,bits,name,kids⟩:=e
   simp only [ExAt] at hat
   obtain ⟨a,cap,xs,rfl,hsl,hks⟩:=hat
   simp only [wgt] at hN hbd
   obtain ⟨n,hn⟩:∃ n,n=kids.length:=⟨_,rfl⟩
   have hnl:=wgts_len kids
   rw [← hn] at hsl hnl ⊢
   refine Sy.enter (vs:=[.agg #[.int .u8 op,.int .u8 ty,.int .u64 bits,.string (str name),.slice a n cap]]) sy_fine Tryz.func13 rfl (fun γ=>norms_LR _) rfl (fun γ0 hγ0=>?_)
   refine rk ?_
   refine good_toLp ?_
   refine good_loopI (fun i:List Ex×List Ex=>i.2.length) (fun i=>kids=i.1++i.2) (fun i=>⟨mkT [(1,.ptr gz 0),(3,.v (.int .i64 ((wgts i.1+1:Nat):Int))),(4,.v (.int .i64 (i.1.length:Int)))],mkH [(gz,some (.cells 34 true true true 5 (putL .leaf 0 [.v (.int .u8 op),.v (.int .u8 ty),.v (.int .u64 bits),.v (.string (str name)),.v (.slice a n cap)])))],gz+1,[]⟩)
    ([],kids) rfl (by kernel_rfl)
    (fun h=>good_sub _ [(1,.ptr gz 0),(3,.v (.int .i64 ((wgts []+1:Nat):Int))),(4,.v (.int .i64 (([]:List Ex).length:Int)))] [(gz,some (.cells 34 true true true 5 (putL .leaf 0 [.v (.int .u8 op),.v (.int .u8 ty),.v (.int .u64 bits),.v (.string (str name)),.v (.slice a n cap)])))] (gz+1) rfl (by kernel_rfl) (by kernel_rfl) (by kernel_rfl) (by kernel_rfl) (by kernel_rfl) (fun b hb=>hγ0 b (Nat.le_trans (Nat.le_succ _) hb)) (by kernel_rfl) h) ?_
   rintro ⟨l1,l2⟩ hI ih
   have hI:kids=l1++l2:=hI
   have hn2:n=l1.length+l2.length:=by rw [hn,hI,List.length_append]
   have hw1:wgts kids=wgts l1+wgts l2:=by rw [hI,wgts_app]
   refine rk ?_
   cases l2 with
   | nil=>
     have hn3:n=l1.length:=by rw [hn2];simp
     refine gK false (b:=intLt (l1.length:Int) (n:Int)) (lt_f (by omega)) ?_
     refine rk ?_
     refine gR (.int .i64 ((wgts l1+1:Nat):Int)) (fun W hk=>⟨?_,hk.below⟩)
     simp only [wgt]
     rw [hw1]
     simp [wgts]
   | cons e l3=>
     have hin:l1.length<n:=by rw [hn2,List.length_cons];omega
     have hks2:=hks
     rw [hI] at hks2
     obtain ⟨c,hc,hcell⟩:=hks2.at_
     have hcl:=hc.len
     simp only [wgts] at hw1
     have hwe:=wgt_pos e
     refine gK true (b:=intLt (l1.length:Int) (n:Int)) (lt_t (by omega)) ?_
     refine rk ?_
     refine gV (.pointer (some ⟨gB a,oB a+l1.length*5,none⟩)) (S:=Instr.indexAt 32 (.slice a n cap) (.int .i64 (l1.length:Int))) (fun W _=>idx_sl (e:=34) hsl (by kernel_rfl) (by kernel_rfl) hin W) ?_
     refine rk ?_
     have hld:=fun W hk=>load_slA (P:=Tryz.prog) (ty:=34) (m:=5) (cs:=c) hsl (by kernel_rfl) (by kernel_rfl) l1.length 0 hcl hcell (W:=W) hk
     have hcall:=fun W hk=>ihN e c W (by omega) (by omega) (hc.keep hk (fun k h=>Nat.lt_of_lt_of_le h hk.size))
     obtain ⟨op2,ty2,bits2,name2,kids2⟩:=e
     simp only [ExAt] at hc
     obtain ⟨a2,cap2,xs2,rfl,_⟩:=hc
     refine gV (.agg #[.int .u8 op2,.int .u8 ty2,.int .u64 bits2,.string (str name2),.slice a2 kids2.length cap2]) (S:=Instr.loadAt 34 (.pointer (some ⟨gB a,oB a+l1.length*5+0,none⟩))) (fun W hk=>hld W hk) ?_
     refine gX [.agg #[.int .u8 op2,.int .u8 ty2,.int .u64 bits2,.string (str name2),.slice a2 kids2.length cap2]] (.int .i64 (wgt (.mk op2 ty2 bits2 name2 kids2):Nat)) (fun W hk=>hcall W hk) ?_
     refine rk ?_
     have hs1:wgts (l1++[Ex.mk op2 ty2 bits2 name2 kids2])=wgts l1+wgt (.mk op2 ty2 bits2 name2 kids2):=by rw [wgts_app];simp [wgts]
     refine gS 3 (x := .int .i64 (wrapF .i64 (((wgts l1+1:Nat):Int)+((wgt (.mk op2 ty2 bits2 name2 kids2):Nat):Int)))) (.int .i64 ((wgts (l1++[Ex.mk op2 ty2 bits2 name2 kids2])+1:Nat):Int)) (by rw [wr64 (by omega) (by omega)];congr 1;omega) ?_
     refine gS 4 (x := .int .i64 (wrapF .i64 ((l1.length:Int)+1))) (.int .i64 ((l1++[Ex.mk op2 ty2 bits2 name2 kids2]).length:Nat)) (by rw [wr64 (by omega) (by omega)];congr 1;simp) ?_
     exact gU _ [(1,.ptr gz 0),(3,.v (.int .i64 ((wgts (l1++[Ex.mk op2 ty2 bits2 name2 kids2])+1:Nat):Int))),(4,.v (.int .i64 ((l1++[Ex.mk op2 ty2 bits2 name2 kids2]).length:Nat)))] [(gz,some (.cells 34 true true true 5 (putL .leaf 0 [.v (.int .u8 op),.v (.int .u8 ty),.v (.int .u64 bits),.v (.string (str name)),.v (.slice a n cap)])))] (gz+1) (fun b hb=>hγ0 b (Nat.le_trans (Nat.le_succ _) hb))
      (ih (l1++[Ex.mk op2 ty2 bits2 name2 kids2],l3) (by show kids=(l1++[_])++l3;rw [hI];simp) (by show l3.length<(_::l3).length;simp))
end Go.Proofs.YtiacalnkmnckjaaGreatDoor
end
section
namespace Go.Proofs.YtiacalnkmnckjaaGreatDoor
open Go.RowKit Go.As
def NewIn (w w':World) (k:Nat):Prop:=w.heap.size≤k∧k<w'.heap.size
def CopyPr (e:Ex) (w:World) (r:Value) (w':World):Prop:=∃ ds:List Value,r = .agg ds.toArray∧ExAt (NewIn w w') w' e ds
theorem ExsAt.snoc {F:Nat→Prop} {w:World} {e:Ex} {c:List Value}:∀ {l:List Ex} {xs:List Value},ExsAt F w l xs→ExAt F w e c→ExsAt F w (l++[e]) (xs++c)
 | [],xs,h,hc=>by
   simp only [ExsAt] at h
   subst h
   simp only [List.nil_append,ExsAt]
   exact ⟨c,[],by simp,hc,rfl⟩
 | x::l,xs,h,hc=>by
   simp only [ExsAt] at h
   obtain ⟨c1,r,rfl,h2,h3⟩:=h
   simp only [List.cons_append,ExsAt]
   exact ⟨c1,r++c,by simp,h2,ExsAt.snoc h3 hc⟩
theorem VR_agg5 {γ:Sy.Gm} {a b c d:Value} {e:Sy.AV} {v:Value} (h:Sy.VR γ (.agg [.v a,.v b,.v c,.v d,e]) v):∃ x,v = .agg #[a,b,c,d,x]∧Sy.VR γ e x:=by
 cases h with
 | agg hl hh=>
   rename_i vs
   obtain ⟨l⟩:=vs
   match l,hl with
   | [x1,x2,x3,x4,x5],_=>
     have h1:=hh 0 _ x1 rfl rfl
     have h2:=hh 1 _ x2 rfl rfl
     have h3:=hh 2 _ x3 rfl rfl
     have h4:=hh 3 _ x4 rfl rfl
     cases h1;cases h2;cases h3;cases h4
     exact ⟨x5,rfl,hh 4 _ x5 rfl rfl⟩
structure CpI where
 l1:List Ex
 l2:List Ex
 xs:List Value
 X:Sy.AV
 ob:Option Sy.Blk
def CpInv (w:World) (kids:List Ex) (b:Nat) (i:CpI) (B:Nat→Prop) (w1:World):Prop:=
 kids=i.l1++i.l2∧Sy.Keep (·<w.heap.size) w w1∧(∀ k,k<w.heap.size→B k)∧(∀ k,B k→k<w1.heap.size)∧ExsAt (fun k=>B k∧w.heap.size≤k) w1 i.l1 i.xs∧Sy.RowAt 34 5 b i.l1.length i.xs i.X i.ob
open Go.Sy in
set_option maxRecDepth 100000 in
theorem copyExpr_any:∀ (N:Nat) (e:Ex) (cs:List Value) (w:World),wgt e≤N→wgt e≤1099511627776→ExAt (·<w.heap.size) w e cs→
  Calls Tryz.prog 15 #[.agg cs.toArray] w fun r w'=>∃ v,r = .returned v∧CopyPr e w v w'∧Below w.heap.size w w':=by
 intro N
 induction N with
 | zero=>intro e cs w h;have:=wgt_pos e;omega
 | succ N ihN=>
   intro e cs w hN hbd hat
   obtain ⟨op,ty,bits,name,kids⟩:=e
   simp only [ExAt] at hat
   obtain ⟨a,cap,xs,rfl,hsl,hks⟩:=hat
   simp only [wgt] at hN hbd
   obtain ⟨n,hn⟩:∃ n,n=kids.length:=⟨_,rfl⟩
   have hnl:=wgts_len kids
   rw [← hn] at hsl hnl ⊢
   refine Sy.enter (vs:=[.agg #[.int .u8 op,.int .u8 ty,.int .u64 bits,.string (str name),.slice a n cap]]) sy_fine Tryz.func15 rfl (fun γ=>norms_LR _) rfl (fun γ0 hγ0=>?_)
   refine rk ?_
   refine good_toLp ?_
   refine good_loopB (fun i:CpI=>i.l2.length) (CpInv w kids (gz+3)) (fun i=>⟨mkT [(1,.ptr gz 0),(2,.ptr (gz+1) 0),(3,.ptr (gz+2) 0),(4,.v (.int .i64 (i.l1.length:Int)))],mkH [(gz,some (.cells 34 true true true 5 (putL .leaf 0 [.v (.int .u8 op),.v (.int .u8 ty),.v (.int .u64 bits),.v (.string (str name)),.v (.slice a n cap)]))),(gz+1,some (.cells 34 true true true 5 (putL .leaf 0 [.v (.int .u8 0),.v (.int .u8 0),.v (.int .u64 0),.v (.string (str [])),.v (.slice none 0 0)]))),(gz+2,some (.cells 34 true true true 5 (putL .leaf 0 [.v (.int .u8 op),.v (.int .u8 ty),.v (.int .u64 bits),.v (.string (str name)),i.X]))),(gz+3,i.ob)],gz+4,[]⟩)
    ⟨[],kids,[],.v (.slice none 0 0),none⟩ ⟨rfl,Keep.refl _ _,fun k h=>h,fun k h=>h,rfl,RowAt.nil _ _ _⟩ (by kernel_rfl)
    (fun h=>good_sub _ [(1,.ptr gz 0),(2,.ptr (gz+1) 0),(3,.ptr (gz+2) 0),(4,.v (.int .i64 (([]:List Ex).length:Int)))] [(gz,some (.cells 34 true true true 5 (putL .leaf 0 [.v (.int .u8 op),.v (.int .u8 ty),.v (.int .u64 bits),.v (.string (str name)),.v (.slice a n cap)]))),(gz+1,some (.cells 34 true true true 5 (putL .leaf 0 [.v (.int .u8 0),.v (.int .u8 0),.v (.int .u64 0),.v (.string (str [])),.v (.slice none 0 0)]))),(gz+2,some (.cells 34 true true true 5 (putL .leaf 0 [.v (.int .u8 op),.v (.int .u8 ty),.v (.int .u64 bits),.v (.string (str name)),.v (.slice none 0 0)]))),(gz+3,none)] (gz+4) rfl (by kernel_rfl) (by kernel_rfl) (by kernel_rfl) (by kernel_rfl) (by kernel_rfl) (fun b hb=>hγ0 b (Nat.le_trans (Nat.le_add_right _ 4) hb)) (by kernel_rfl) h) ?_
   rintro ⟨l1,l2,xk,X,ob⟩ B1 w1 ⟨hI,hk1,hB0,hB1,hxk,hrow⟩ ih
   simp only at hI hxk hrow
   have hn2:n=l1.length+l2.length:=by rw [hn,hI,List.length_append]
   have hw1:wgts kids=wgts l1+wgts l2:=by rw [hI,wgts_app]
   have hsl1:SlAt B1 w1 a n 5 xs:=(hsl.keep hk1).mono hB0
   refine rk ?_
   cases l2 with
   | nil=>
     have hn3:n=l1.length:=by rw [hn2];simp
     refine gK false (b:=intLt (l1.length:Int) (n:Int)) (lt_f (by omega)) ?_
     have hfin:∀ (γ:Gm) (W:World) (v x:Value) (h:Hp) (cc:Nat),v = .agg #[.int .u8 op,.int .u8 ty,.int .u64 bits,.string (str name),x]→VR γ X x→HR B1 Tryz.prog.globals.size γ h cc W→h.get (gz+3)=ob→Keep B1 w1 W→(∃ v',Ending.returned v = .returned v'∧CopyPr (.mk op ty bits name kids) w v' W∧Below w.heap.size w W):=by
      intro γ W v x h cc hv hx hH hb hkW
      subst hv
      obtain ⟨hown,_⟩:=row_own (base:=w.heap.size) hrow hb hH hx (fun k hk=>Nat.le_of_not_lt (fun h=>hk (hB0 k h)))
      obtain ⟨a',cap',rfl,_,hsl'⟩:=SlAt.of_own (F:=NewIn w W) hown (fun k h1 h2=>⟨h1,h2⟩)
      refine ⟨_,rfl,⟨_,rfl,?_⟩,(hk1.trans (hkW.mono hB0)).below⟩
      simp only [ExAt]
      have hkl:l1=kids:=by rw [hI];simp
      rw [← hn3,hn] at hsl' ⊢
      refine ⟨a',cap',xk,rfl,hsl',?_⟩
      rw [hkl] at hxk
      exact hxk.keep (hkW.mono fun k hk=>hk.1) (fun k hk=>⟨hk.2,Nat.lt_of_lt_of_le (hB1 k hk.1) hkW.size⟩)
     rcases hrow.2 with ⟨hX,hob,h0⟩ | ⟨hX,hob⟩
     · subst hX hob
       refine rk ?_
       refine good_end (av := .agg [.v (.int .u8 op),.v (.int .u8 ty),.v (.int .u64 bits),.v (.string (str name)),.v (.slice none 0 0)]) (by kernel_rfl) (fun γ W v _ hv hH hkW=>?_)
       obtain ⟨x,rfl,hx⟩:=VR_agg5 hv
       exact hfin γ W _ x _ _ rfl hx hH (by kernel_rfl) hkW
     · subst hX hob
       refine rk ?_
       refine good_end (av := .agg [.v (.int .u8 op),.v (.int .u8 ty),.v (.int .u64 bits),.v (.string (str name)),.slg (gz+3) 0 l1.length 5]) (by kernel_rfl) (fun γ W v _ hv hH hkW=>?_)
       obtain ⟨x,rfl,hx⟩:=VR_agg5 hv
       exact hfin γ W _ x _ _ rfl hx hH (by kernel_rfl) hkW
   | cons e l3=>
     have hin:l1.length<n:=by rw [hn2,List.length_cons];omega
     have hks2:=hks
     rw [hI] at hks2
     obtain ⟨c,hc,hcell⟩:=hks2.at_
     have hcl:=hc.len
     simp only [wgts] at hw1
     have hwe:=wgt_pos e
     have hc1:ExAt B1 w1 e c:=hc.keep hk1 hB0
     refine gK true (b:=intLt (l1.length:Int) (n:Int)) (lt_t (by omega)) ?_
     refine rk ?_
     have hXlt:avLt (gz+4) X=true:=hrow.lt (by omega)
     refine good_lock [gz,gz+2] (gz+3) (by kernel_rfl) (fun b hb=>hγ0 b (Nat.le_trans (Nat.le_add_right _ 3) hb)) ?_
     intro γ1 B2 w2 hle1 hγ1 hB12 hB2 hk12 hLk
     refine good_plan sy_mixed (.take 0 (.take 1 (.take 2 (.take 3 (.take 4 (.take 5 (.take 6 (.run 7 (.run 8 (.run 9 (.take 10 .done))))))))))) 11 (by kernel_rfl) ?_
     have hL2:∀ b,hasNat b [gz,gz+2]=true→∃ p,γ1 b=some p∧B2 p.1:=fun b hb=>let ⟨p,h1,h2,_⟩:=hLk b hb;⟨p,h1,h2⟩
     refine p_takes [gz,gz+2] 1 (Bs:=B2) (ws:=w2) (by kernel_rfl) (fun _ h=>h) hL2 ?_
     refine p_load [gz,gz+2] X (by kernel_rfl) (by rcases hrow.2 with ⟨h,_⟩ | ⟨h,_⟩ <;> rw [h] <;> kernel_rfl) (Bs:=B2) (ws:=w2) (by kernel_rfl) (fun _ h=>h) hL2 ?_
     refine p_takes [gz,gz+2] 3 (Bs:=B2) (ws:=w2) (by kernel_rfl) (fun _ h=>h) hL2 ?_
     have hsl2:SlAt B2 w2 a n 5 xs:=(hsl1.keep hk12).mono hB12
     refine p_val (.pointer (some ⟨gB a,oB a+l1.length*5,none⟩)) (S:=Instr.indexAt 32 (.slice a n cap) (.int .i64 (l1.length:Int))) (by kernel_rfl) (Bs:=B2) (ws:=w2) (by kernel_rfl) (fun _ h=>h) (fun W _=>idx_sl (e:=34) hsl2 (by kernel_rfl) (by kernel_rfl) hin W) ?_
     have hld:=fun W hk=>load_slA (P:=Tryz.prog) (ty:=34) (m:=5) (cs:=c) hsl2 (by kernel_rfl) (by kernel_rfl) l1.length 0 hcl hcell (W:=W) hk
     have hcall:=fun (W:World) (hk:Keep B2 w2 W)=>ihN e c W (by omega) (by omega) ((hc1.keep hk12 hB12).keep hk (fun k h=>Nat.lt_of_lt_of_le (hB2 k h) hk.size))
     obtain ⟨op2,ty2,bits2,name2,kids2⟩:=e
     simp only [ExAt] at hc
     obtain ⟨a2,cap2,xs2,rfl,_⟩:=hc
     refine p_val (.agg #[.int .u8 op2,.int .u8 ty2,.int .u64 bits2,.string (str name2),.slice a2 kids2.length cap2]) (S:=Instr.loadAt 34 (.pointer (some ⟨gB a,oB a+l1.length*5+0,none⟩))) (by kernel_rfl) (Bs:=B2) (ws:=w2) (by kernel_rfl) (fun _ h=>h) (fun W hk=>hld W hk) ?_
     refine pR (Keep B2 w2) (fun _ h=>h) ?_
     refine gM [.agg #[.int .u8 op2,.int .u8 ty2,.int .u64 bits2,.string (str name2),.slice a2 kids2.length cap2]] (fun W hk=>hcall W hk) ?_
     intro wa r w3 B3 hka hpr hba hk23 hB23 hB3 hB3s
     obtain ⟨ds,rfl,hds⟩:=hpr
     have hds0:=hds
     simp only [ExAt] at hds0
     obtain ⟨a3,cap3,xs3,rfl,_⟩:=hds0
     have hS3:∀ W,Keep B3 w3 W→Keep B2 w2 W:=fun W hk=>hk23.trans (hk.mono hB23)
     refine rk ?_
     refine pR (Keep B2 w2) hS3 ?_
     refine rk ?_
     refine pR (Keep B2 w2) hS3 ?_
     refine good_plain (gz+2) 4 (by kernel_rfl) (fun xold=>?_)
     refine good_app (t:=32) (e:=34) (.slg (gz+4) 0 1 5) 5 64 (gz+3) l1.length 0 xk X ob [.int .u8 op2,.int .u8 ty2,.int .u64 bits2,.string (str name2),.slice a3 kids2.length cap3] [15] (by kernel_rfl) (by kernel_rfl) (by kernel_rfl) (by kernel_rfl) hrow (by kernel_rfl) (by kernel_rfl) (by kernel_rfl)
      (by unfold maxLen;omega) (by omega) (hγ1 (gz+3) (Nat.le_refl _)) (by kernel_rfl) (by kernel_rfl) (by kernel_rfl) (by kernel_rfl) (by kernel_rfl) (fun X' ob' hrow'=>?_)
     rcases hrow'.2 with ⟨_,_,h0⟩ | ⟨rfl,rfl⟩
     · omega
     refine rk ?_
     refine p_takes [gz,gz+2] 1 (Bs:=B2) (ws:=w2) (by kernel_rfl) hS3 hL2 ?_
     refine p_done (by kernel_rfl) ?_ (Keep B2 w2) (by kernel_rfl) hS3
     refine good_unlock [gz,gz+2] (by kernel_rfl) (fun b hb=>let ⟨p,h1,_⟩:=hLk b hb;⟨p,h1⟩) ?_
     intro B4 hB43 hB34
     refine rk ?_
     refine gS 4 (x := .int .i64 (wrapF .i64 ((l1.length:Int)+1))) (.int .i64 ((l1++[(Ex.mk op2 ty2 bits2 name2 kids2)]).length:Nat)) (by rw [wr64 (by omega) (by omega)];congr 1;simp) ?_
     have hlk:∀ b p,hasNat b [gz,gz+2]=true→γ1 b=some p→B2 p.1∧¬ B1 p.1:=fun b p hb hp=>by
      obtain ⟨q,h1,h2,h3⟩:=hLk b hb
      rw [hp] at h1
      injection h1 with h1
      subst h1
      exact ⟨h2,h3⟩
     have hB14:∀ k,B1 k→B4 k:=fun k hk=>hB34 k (hB23 k (hB12 k hk)) (fun b p hb hp e=>(hlk b p hb hp).2 (e ▸ hk))
     have hk13:Keep B1 w1 w3:=hk12.trans (hk23.mono hB12)
     have hk14:Keep (·<w.heap.size) w w3:=hk1.trans (hk13.mono hB0)
     have hsz:w.heap.size≤wa.heap.size:=Nat.le_trans hk1.size (Nat.le_trans hk12.size hka.size)
     have hnew:∀ k,NewIn wa w3 k→B4 k∧w.heap.size≤k:=fun k hk=>⟨hB34 k (hB3 k hk.1 hk.2) (fun b p hb hp e=>by
      have h1:=hB2 p.1 (hlk b p hb hp).1
      have h2:=hk.1
      have h3:=hka.size
      omega),Nat.le_trans hsz hk.1⟩
     have hI4:CpInv w kids (gz+3) ⟨l1++[(Ex.mk op2 ty2 bits2 name2 kids2)],l3,xk++[.int .u8 op2,.int .u8 ty2,.int .u64 bits2,.string (str name2),.slice a3 kids2.length cap3],.slg (gz+3) 0 (l1.length+(0+1)) 5,some (.row 34 (xk++[.int .u8 op2,.int .u8 ty2,.int .u64 bits2,.string (str name2),.slice a3 kids2.length cap3]))⟩ B4 w3:=by
      refine ⟨by show kids=(l1++[_])++l3;rw [hI];simp,hk14,fun k hk=>hB14 k (hB0 k hk),fun k hk=>hB3s k (hB43 k hk),?_,?_⟩
      · exact (hxk.keep (hk13.mono fun k hk=>hk.1) (fun k hk=>⟨hB14 k hk.1,hk.2⟩)).snoc (hds.keep (Keep.refl _ _) hnew)
      · show RowAt _ 5 (gz+3) (l1++[_]).length _ _ _
        rw [List.length_append]
        exact hrow'
     exact gU _ [(1,.ptr gz 0),(2,.ptr (gz+1) 0),(3,.ptr (gz+2) 0),(4,.v (.int .i64 ((l1++[(Ex.mk op2 ty2 bits2 name2 kids2)]).length:Int)))] [(gz,some (.cells 34 true true true 5 (putL .leaf 0 [.v (.int .u8 op),.v (.int .u8 ty),.v (.int .u64 bits),.v (.string (str name)),.v (.slice a n cap)]))),(gz+1,some (.cells 34 true true true 5 (putL .leaf 0 [.v (.int .u8 0),.v (.int .u8 0),.v (.int .u64 0),.v (.string (str [])),.v (.slice none 0 0)]))),(gz+2,some (.cells 34 true true true 5 (putL .leaf 0 [.v (.int .u8 op),.v (.int .u8 ty),.v (.int .u64 bits),.v (.string (str name)),.slg (gz+3) 0 (l1.length+(0+1)) 5]))),(gz+3,some (.row 34 (xk++[.int .u8 op2,.int .u8 ty2,.int .u64 bits2,.string (str name2),.slice a3 kids2.length cap3])))] (gz+4) (fun b hb=>hγ1 b (Nat.le_trans (Nat.le_succ _) hb))
      ((ih _ B4 w3 hI4 (by show l3.length<(_::l3).length;simp)).up hle1)
end Go.Proofs.YtiacalnkmnckjaaGreatDoor
end
section
namespace Go.Proofs.YtiacalnkmnckjaaGreatDoor
open Go.RowKit Go.As
mutual
def hgt:Ex→Nat
 | .mk _ _ _ _ k=>hgts k+1
def hgts:List Ex→Nat
 | []=>0
 | e::l=>max (hgt e) (hgts l)
end
theorem hgts_app:∀ (l r:List Ex),hgts (l++r)=max (hgts l) (hgts r)
 | [],r=>by simp [hgts]
 | e::l,r=>by
   rw [List.cons_append]
   simp only [hgts]
   rw [hgts_app l r,Nat.max_assoc]
theorem hgts_snoc (l:List Ex) (e:Ex):hgts (l++[e])=max (hgts l) (hgt e):=by rw [hgts_app];simp [hgts]
mutual
theorem hgt_le:∀ (e:Ex),hgt e≤wgt e
 | .mk _ _ _ _ k=>by simp only [hgt,wgt];have:=hgts_le k;omega
theorem hgts_le:∀ (l:List Ex),hgts l≤wgts l
 | []=>Nat.le_refl _
 | e::l=>by simp only [hgts,wgts];have:=hgts_le l;have:=hgt_le e;omega
end
open Go.Sy in
set_option maxRecDepth 100000 in
theorem theight_any:∀ (N:Nat) (e:Ex) (cs:List Value) (w:World),wgt e≤N→wgt e≤1099511627776→ExAt (·<w.heap.size) w e cs→
  Calls Tryz.prog 29 #[.agg cs.toArray] w fun r w'=>r = .returned (.int .i64 (hgt e:Nat))∧Below w.heap.size w w':=by
 intro N
 induction N with
 | zero=>intro e cs w h;have:=wgt_pos e;omega
 | succ N ihN=>
   intro e cs w hN hbd hat
   obtain ⟨op,ty,bits,name,kids⟩:=e
   simp only [ExAt] at hat
   obtain ⟨a,cap,xs,rfl,hsl,hks⟩:=hat
   have hhw:=hgt_le (.mk op ty bits name kids)
   simp only [wgt] at hN hbd
   obtain ⟨n,hn⟩:∃ n,n=kids.length:=⟨_,rfl⟩
   have hnl:=wgts_len kids
   rw [← hn] at hsl hnl ⊢
   refine Sy.enter (vs:=[.agg #[.int .u8 op,.int .u8 ty,.int .u64 bits,.string (str name),.slice a n cap]]) sy_fine Tryz.func29 rfl (fun γ=>norms_LR _) rfl (fun γ0 hγ0=>?_)
   refine rk ?_
   refine good_toLp ?_
   refine good_loopI (fun i:List Ex×List Ex=>i.2.length) (fun i=>kids=i.1++i.2) (fun i=>⟨mkT [(3,.v (.int .i64 ((hgts i.1:Nat):Int))),(7,.v (.slice a n cap)),(8,.v (.int .i64 (n:Int))),(9,.v (.int .i64 (i.1.length:Int)))],mkH [(gz,some (.cells 34 true true true 5 (putL .leaf 0 [.v (.int .u8 op),.v (.int .u8 ty),.v (.int .u64 bits),.v (.string (str name)),.v (.slice a n cap)])))],gz+1,[]⟩)
    ([],kids) rfl (by kernel_rfl)
    (fun h=>good_sub _ [(3,.v (.int .i64 ((hgts ([]:List Ex):Nat):Int))),(7,.v (.slice a n cap)),(8,.v (.int .i64 (n:Int))),(9,.v (.int .i64 (([]:List Ex).length:Int)))] [(gz,some (.cells 34 true true true 5 (putL .leaf 0 [.v (.int .u8 op),.v (.int .u8 ty),.v (.int .u64 bits),.v (.string (str name)),.v (.slice a n cap)])))] (gz+1) rfl (by kernel_rfl) (by kernel_rfl) (by kernel_rfl) (by kernel_rfl) (by kernel_rfl) (fun b hb=>hγ0 b (Nat.le_trans (Nat.le_succ _) hb)) (by kernel_rfl) h) ?_
   rintro ⟨l1,l2⟩ hI ih
   have hI:kids=l1++l2:=hI
   have hn2:n=l1.length+l2.length:=by rw [hn,hI,List.length_append]
   have hw1:wgts kids=wgts l1+wgts l2:=by rw [hI,wgts_app]
   have hh1:=hgts_le l1
   refine rk ?_
   cases l2 with
   | nil=>
     have hn3:n=l1.length:=by rw [hn2];simp
     refine gK false (b:=intLt (l1.length:Int) (n:Int)) (lt_f (by omega)) ?_
     refine rk ?_
     refine gR (.int .i64 (wrapF .i64 ((hgts l1:Nat)+1))) (fun W hk=>⟨?_,hk.below⟩)
     rw [wr64 (by omega) (by omega)]
     simp only [hgt]
     have hkl:l1=kids:=by rw [hI];simp
     rw [hkl]
     rfl
   | cons e l3=>
     have hin:l1.length<n:=by rw [hn2,List.length_cons];omega
     have hks2:=hks
     rw [hI] at hks2
     obtain ⟨c,hc,hcell⟩:=hks2.at_
     have hcl:=hc.len
     simp only [wgts] at hw1
     have hwe:=wgt_pos e
     have hhe:=hgt_le e
     refine gK true (b:=intLt (l1.length:Int) (n:Int)) (lt_t (by omega)) ?_
     refine rk ?_
     refine gV (.pointer (some ⟨gB a,oB a+l1.length*5,none⟩)) (S:=Instr.indexAt 32 (.slice a n cap) (.int .i64 (l1.length:Int))) (fun W _=>idx_sl (e:=34) hsl (by kernel_rfl) (by kernel_rfl) hin W) ?_
     refine rk ?_
     have hld:=fun W hk=>load_slA (P:=Tryz.prog) (ty:=34) (m:=5) (cs:=c) hsl (by kernel_rfl) (by kernel_rfl) l1.length 0 hcl hcell (W:=W) hk
     have hcall:=fun W hk=>ihN e c W (by omega) (by omega) (hc.keep hk (fun k h=>Nat.lt_of_lt_of_le h hk.size))
     obtain ⟨op2,ty2,bits2,name2,kids2⟩:=e
     simp only [ExAt] at hc
     obtain ⟨a2,cap2,xs2,rfl,_⟩:=hc
     refine gV (.agg #[.int .u8 op2,.int .u8 ty2,.int .u64 bits2,.string (str name2),.slice a2 kids2.length cap2]) (S:=Instr.loadAt 34 (.pointer (some ⟨gB a,oB a+l1.length*5+0,none⟩))) (fun W hk=>hld W hk) ?_
     refine rk ?_
     refine gX [.agg #[.int .u8 op2,.int .u8 ty2,.int .u64 bits2,.string (str name2),.slice a2 kids2.length cap2]] (.int .i64 (hgt (Ex.mk op2 ty2 bits2 name2 kids2):Nat)) (fun W hk=>hcall W hk) ?_
     refine rk ?_
     refine gS 3 (x := .int .i64 (if ((hgt (Ex.mk op2 ty2 bits2 name2 kids2):Nat):Int) > ((hgts l1:Nat):Int) then ((hgt (Ex.mk op2 ty2 bits2 name2 kids2):Nat):Int) else ((hgts l1:Nat):Int))) (.int .i64 ((hgts (l1++[(Ex.mk op2 ty2 bits2 name2 kids2)]):Nat):Int)) (by rw [hgts_snoc];congr 1;split <;> omega) ?_
     refine gS 9 (x := .int .i64 (wrapF .i64 ((l1.length:Int)+1))) (.int .i64 ((l1++[(Ex.mk op2 ty2 bits2 name2 kids2)]).length:Nat)) (by rw [wr64 (by omega) (by omega)];congr 1;simp) ?_
     exact gU _ [(3,.v (.int .i64 ((hgts (l1++[(Ex.mk op2 ty2 bits2 name2 kids2)]):Nat):Int))),(7,.v (.slice a n cap)),(8,.v (.int .i64 (n:Int))),(9,.v (.int .i64 ((l1++[(Ex.mk op2 ty2 bits2 name2 kids2)]).length:Int)))] [(gz,some (.cells 34 true true true 5 (putL .leaf 0 [.v (.int .u8 op),.v (.int .u8 ty),.v (.int .u64 bits),.v (.string (str name)),.v (.slice a n cap)])))] (gz+1) (fun b hb=>hγ0 b (Nat.le_trans (Nat.le_succ _) hb))
      (ih (l1++[(Ex.mk op2 ty2 bits2 name2 kids2)],l3) (by show kids=(l1++[_])++l3;rw [hI];simp) (by show l3.length<(_::l3).length;simp))
open Go.Sy in
set_option maxRecDepth 100000 in
theorem kheight_any:∀ (N:Nat) (e:Ex) (cs:List Value) (w:World),wgt e≤N→wgt e≤1099511627776→ExAt (·<w.heap.size) w e cs→
  Calls Tryz.prog 30 #[.agg cs.toArray] w fun r w'=>r = .returned (.int .i64 (hgt e:Nat))∧Below w.heap.size w w':=by
 intro N
 induction N with
 | zero=>intro e cs w h;have:=wgt_pos e;omega
 | succ N ihN=>
   intro e cs w hN hbd hat
   obtain ⟨op,ty,bits,name,kids⟩:=e
   simp only [ExAt] at hat
   obtain ⟨a,cap,xs,rfl,hsl,hks⟩:=hat
   have hhw:=hgt_le (.mk op ty bits name kids)
   simp only [wgt] at hN hbd
   obtain ⟨n,hn⟩:∃ n,n=kids.length:=⟨_,rfl⟩
   have hnl:=wgts_len kids
   rw [← hn] at hsl hnl ⊢
   refine Sy.enter (vs:=[.agg #[.int .u8 op,.int .u8 ty,.int .u64 bits,.string (str name),.slice a n cap]]) sy_fine Tryz.func30 rfl (fun γ=>norms_LR _) rfl (fun γ0 hγ0=>?_)
   refine rk ?_
   refine good_toLp ?_
   refine good_loopI (fun i:List Ex×List Ex=>i.2.length) (fun i=>kids=i.1++i.2) (fun i=>⟨mkT [(1,.ptr gz 0),(3,.v (.int .i64 ((hgts i.1:Nat):Int))),(4,.v (.int .i64 (i.1.length:Int)))],mkH [(gz,some (.cells 34 true true true 5 (putL .leaf 0 [.v (.int .u8 op),.v (.int .u8 ty),.v (.int .u64 bits),.v (.string (str name)),.v (.slice a n cap)])))],gz+1,[]⟩)
    ([],kids) rfl (by kernel_rfl)
    (fun h=>good_sub _ [(1,.ptr gz 0),(3,.v (.int .i64 ((hgts ([]:List Ex):Nat):Int))),(4,.v (.int .i64 (([]:List Ex).length:Int)))] [(gz,some (.cells 34 true true true 5 (putL .leaf 0 [.v (.int .u8 op),.v (.int .u8 ty),.v (.int .u64 bits),.v (.string (str name)),.v (.slice a n cap)])))] (gz+1) rfl (by kernel_rfl) (by kernel_rfl) (by kernel_rfl) (by kernel_rfl) (by kernel_rfl) (fun b hb=>hγ0 b (Nat.le_trans (Nat.le_succ _) hb)) (by kernel_rfl) h) ?_
   rintro ⟨l1,l2⟩ hI ih
   have hI:kids=l1++l2:=hI
   have hn2:n=l1.length+l2.length:=by rw [hn,hI,List.length_append]
   have hw1:wgts kids=wgts l1+wgts l2:=by rw [hI,wgts_app]
   have hh1:=hgts_le l1
   refine rk ?_
   cases l2 with
   | nil=>
     have hn3:n=l1.length:=by rw [hn2];simp
     refine gK false (b:=intLt (l1.length:Int) (n:Int)) (lt_f (by omega)) ?_
     refine rk ?_
     refine gR (.int .i64 (wrapF .i64 ((hgts l1:Nat)+1))) (fun W hk=>⟨?_,hk.below⟩)
     rw [wr64 (by omega) (by omega)]
     simp only [hgt]
     have hkl:l1=kids:=by rw [hI];simp
     rw [hkl]
     rfl
   | cons e l3=>
     have hin:l1.length<n:=by rw [hn2,List.length_cons];omega
     have hks2:=hks
     rw [hI] at hks2
     obtain ⟨c,hc,hcell⟩:=hks2.at_
     have hcl:=hc.len
     simp only [wgts] at hw1
     have hwe:=wgt_pos e
     have hhe:=hgt_le e
     refine gK true (b:=intLt (l1.length:Int) (n:Int)) (lt_t (by omega)) ?_
     refine rk ?_
     refine gV (.pointer (some ⟨gB a,oB a+l1.length*5,none⟩)) (S:=Instr.indexAt 32 (.slice a n cap) (.int .i64 (l1.length:Int))) (fun W _=>idx_sl (e:=34) hsl (by kernel_rfl) (by kernel_rfl) hin W) ?_
     refine rk ?_
     have hld:=fun W hk=>load_slA (P:=Tryz.prog) (ty:=34) (m:=5) (cs:=c) hsl (by kernel_rfl) (by kernel_rfl) l1.length 0 hcl hcell (W:=W) hk
     have hcall:=fun W hk=>ihN e c W (by omega) (by omega) (hc.keep hk (fun k h=>Nat.lt_of_lt_of_le h hk.size))
     obtain ⟨op2,ty2,bits2,name2,kids2⟩:=e
     simp only [ExAt] at hc
     obtain ⟨a2,cap2,xs2,rfl,_⟩:=hc
     refine gV (.agg #[.int .u8 op2,.int .u8 ty2,.int .u64 bits2,.string (str name2),.slice a2 kids2.length cap2]) (S:=Instr.loadAt 34 (.pointer (some ⟨gB a,oB a+l1.length*5+0,none⟩))) (fun W hk=>hld W hk) ?_
     refine rk ?_
     refine gX [.agg #[.int .u8 op2,.int .u8 ty2,.int .u64 bits2,.string (str name2),.slice a2 kids2.length cap2]] (.int .i64 (hgt (Ex.mk op2 ty2 bits2 name2 kids2):Nat)) (fun W hk=>hcall W hk) ?_
     refine rk ?_
     refine gS 3 (x := .int .i64 (if ((hgt (Ex.mk op2 ty2 bits2 name2 kids2):Nat):Int) > ((hgts l1:Nat):Int) then ((hgt (Ex.mk op2 ty2 bits2 name2 kids2):Nat):Int) else ((hgts l1:Nat):Int))) (.int .i64 ((hgts (l1++[(Ex.mk op2 ty2 bits2 name2 kids2)]):Nat):Int)) (by rw [hgts_snoc];congr 1;split <;> omega) ?_
     refine gS 4 (x := .int .i64 (wrapF .i64 ((l1.length:Int)+1))) (.int .i64 ((l1++[(Ex.mk op2 ty2 bits2 name2 kids2)]).length:Nat)) (by rw [wr64 (by omega) (by omega)];congr 1;simp) ?_
     exact gU _ [(1,.ptr gz 0),(3,.v (.int .i64 ((hgts (l1++[(Ex.mk op2 ty2 bits2 name2 kids2)]):Nat):Int))),(4,.v (.int .i64 ((l1++[(Ex.mk op2 ty2 bits2 name2 kids2)]).length:Int)))] [(gz,some (.cells 34 true true true 5 (putL .leaf 0 [.v (.int .u8 op),.v (.int .u8 ty),.v (.int .u64 bits),.v (.string (str name)),.v (.slice a n cap)])))] (gz+1) (fun b hb=>hγ0 b (Nat.le_trans (Nat.le_succ _) hb))
      (ih (l1++[(Ex.mk op2 ty2 bits2 name2 kids2)],l3) (by show kids=(l1++[_])++l3;rw [hI];simp) (by show l3.length<(_::l3).length;simp))
end Go.Proofs.YtiacalnkmnckjaaGreatDoor
end
section
namespace Go.Proofs.YtiacalnkmnckjaaGreatDoor
open Go.RowKit Go.As
noncomputable def sameEx (a b:Ex):Bool:=@decide (a=b) (Classical.propDecidable _)
theorem sameEx_t {a b:Ex}:sameEx a b=true↔a=b:=by unfold sameEx;exact @decide_eq_true_iff _ (Classical.propDecidable _)
theorem sameEx_f {a b:Ex} (h:a≠b):sameEx a b=false:=by rw [← Bool.not_eq_true,sameEx_t];exact h
theorem valueGuard:Tryz.prog.eqGuardType Tryz.prog.depth 31=false:=by kernel_rfl
def vEq (a b c d:Int):Bool:=Sy.intEq a c&&Sy.intEq b d
theorem run_eqi_value (a b c d:Int) (k:Nat) (w:World):
  (Op.equalIn (k+2) 31 (.agg #[.int .u8 a,.int .u64 b]) (.agg #[.int .u8 c,.int .u64 d])).run Tryz.prog w = .ok (vEq a b c d) w:=by
 have h0:Tryz.prog.underlying 31=some (.struct (Tryz.prog.fieldsOf 31)):=by rw [Program.fieldsOf,Tryz.underlying31]
 rw [run_equalIn_agg w (k+1) _ _ _ h0 (by kernel_rfl)]
 have h1:=run_equalIn_int (P:=Tryz.prog) w k 28 .u8 .u8 a c Tryz.underlying28
 have h2:=run_equalIn_int (P:=Tryz.prog) w k 29 .u64 .u64 b d Tryz.underlying29
 rw [Program.fieldsOf,Tryz.underlying31]
 unfold vEq
 rw [Sy.intEq_eq,Sy.intEq_eq]
 go_simp
 by_cases ha:a=c <;> by_cases hb:b=d <;> simp [ha,hb]
theorem _root_.Go.Sy.eqG2 {P:Program} {w:World} {m:Sem Unit} {n:Sem Value} {r:Value} (h1:m.run P w = .ok () w) (h2:n.run P w = .ok r w):(do m;n:Sem Value).run P w = .ok r w:=by
 rw [Sem.run_bind,h1]
 exact h2
theorem run_neq_value (ox oy:Operand) (a b c d:Int) (w:World):
  (do eqGuard .neq 31 ox oy (.agg #[.int .u8 a,.int .u64 b]) (.agg #[.int .u8 c,.int .u64 d]);binOp .neq 31 (.agg #[.int .u8 a,.int .u64 b]) (.agg #[.int .u8 c,.int .u64 d]):Sem Value).run Tryz.prog w = .ok (.bool (!(vEq a b c d))) w:=by
 have h1:(eqGuard .neq 31 ox oy (.agg #[.int .u8 a,.int .u64 b]) (.agg #[.int .u8 c,.int .u64 d])).run Tryz.prog w = .ok () w:=by
  unfold eqGuard
  go_simp
 have h2:(binOp .neq 31 (.agg #[.int .u8 a,.int .u64 b]) (.agg #[.int .u8 c,.int .u64 d])).run Tryz.prog w = .ok (.bool (!(vEq a b c d))) w:=by
  rw [run_neq_struct,run_eqi_value]
  rfl
 exact Sy.eqG2 h1 h2
open Go.Sy in
set_option maxRecDepth 100000 in
theorem sameExpr_any:∀ (N:Nat) (e1 e2:Ex) (cs1 cs2:List Value) (w:World),wgt e1≤N→wgt e1≤1099511627776→ExAt (·<w.heap.size) w e1 cs1→ExAt (·<w.heap.size) w e2 cs2→
  Calls Tryz.prog 23 #[.agg cs1.toArray,.agg cs2.toArray] w fun r w'=>r = .returned (.bool (sameEx e1 e2))∧Below w.heap.size w w':=by
 intro N
 induction N with
 | zero=>intro e1 e2 cs1 cs2 w h;have:=wgt_pos e1;omega
 | succ N ihN=>
   intro e1 e2 cs1 cs2 w hN hbd hat1 hat2
   obtain ⟨op1,ty1,bits1,name1,kids1⟩:=e1
   obtain ⟨op2,ty2,bits2,name2,kids2⟩:=e2
   simp only [ExAt] at hat1 hat2
   obtain ⟨a1,cap1,xs1,rfl,hsl1,hks1⟩:=hat1
   obtain ⟨a2,cap2,xs2,rfl,hsl2,hks2⟩:=hat2
   simp only [wgt] at hN hbd
   obtain ⟨n1,hn1⟩:∃ n,n=kids1.length:=⟨_,rfl⟩
   obtain ⟨n2,hn2⟩:∃ n,n=kids2.length:=⟨_,rfl⟩
   have hnl:=wgts_len kids1
   rw [← hn1] at hsl1 hnl ⊢
   rw [← hn2] at hsl2 ⊢
   refine Sy.enter (vs:=[.agg #[.int .u8 op1,.int .u8 ty1,.int .u64 bits1,.string (str name1),.slice a1 n1 cap1],.agg #[.int .u8 op2,.int .u8 ty2,.int .u64 bits2,.string (str name2),.slice a2 n2 cap2]]) sy_fine Tryz.func23 rfl (fun γ=>norms_LR _) rfl (fun γ0 hγ0=>?_)
   refine rs [12] 60 0 ?_
   rcases Bool.eq_false_or_eq_true (intEq op1 op2) with hop | hop
   rotate_left
   · refine gS 10 (x := .bool (!(intEq op1 op2))) (.bool true) (by rw [hop];rfl) ?_
     refine gS 11 (x := .bool (!(intEq op1 op2))) (.bool true) (by rw [hop];rfl) ?_
     refine rs [] 60 2 ?_
     refine gR (.bool false) (fun W hk=>⟨?_,hk.below⟩)
     rw [sameEx_f]
     intro h
     injection h
     rw [intEq_eq] at hop;simp_all
   refine gS 10 (x := .bool (!(intEq op1 op2))) (.bool false) (by rw [hop];rfl) ?_
   refine gS 11 (x := .bool (!(intEq op1 op2))) (.bool false) (by rw [hop];rfl) ?_
   refine rs [16] 60 0 ?_
   refine gV (.bool (!(vEq ty1 bits1 ty2 bits2))) (S:=(do eqGuard .neq 31 (.tmp 13) (.tmp 15) (.agg #[.int .u8 ty1,.int .u64 bits1]) (.agg #[.int .u8 ty2,.int .u64 bits2]);binOp .neq 31 (.agg #[.int .u8 ty1,.int .u64 bits1]) (.agg #[.int .u8 ty2,.int .u64 bits2]))) (fun W _=>run_neq_value _ _ _ _ _ _ W) ?_
   refine rs [19] 60 0 ?_
   rcases Bool.eq_false_or_eq_true (vEq ty1 bits1 ty2 bits2) with hva | hva
   rotate_left
   · refine gS 16 (x := .bool (!(vEq ty1 bits1 ty2 bits2))) (.bool true) (by rw [hva];rfl) ?_
     refine gS 17 (x := .bool (!(vEq ty1 bits1 ty2 bits2))) (.bool true) (by rw [hva];rfl) ?_
     refine gS 18 (x := .bool (!(vEq ty1 bits1 ty2 bits2))) (.bool true) (by rw [hva];rfl) ?_
     refine rs [] 60 2 ?_
     refine gR (.bool false) (fun W hk=>⟨?_,hk.below⟩)
     rw [sameEx_f]
     intro h
     injection h
     simp only [vEq,intEq_eq] at hva;simp_all
   refine gS 16 (x := .bool (!(vEq ty1 bits1 ty2 bits2))) (.bool false) (by rw [hva];rfl) ?_
   refine gS 17 (x := .bool (!(vEq ty1 bits1 ty2 bits2))) (.bool false) (by rw [hva];rfl) ?_
   refine gS 18 (x := .bool (!(vEq ty1 bits1 ty2 bits2))) (.bool false) (by rw [hva];rfl) ?_
   refine rs [26] 60 0 ?_
   rcases Bool.eq_false_or_eq_true (bEqL name1 name2) with hna | hna
   rotate_left
   · refine gS 23 (x := .bool (!(bEqL name1 name2))) (.bool true) (by rw [hna];rfl) ?_
     refine gS 24 (x := .bool (!(bEqL name1 name2))) (.bool true) (by rw [hna];rfl) ?_
     refine gS 25 (x := .bool (!(bEqL name1 name2))) (.bool true) (by rw [hna];rfl) ?_
     refine rs [] 60 2 ?_
     refine gR (.bool false) (fun W hk=>⟨?_,hk.below⟩)
     rw [sameEx_f]
     intro h
     injection h
     rw [bEqL_eq] at hna;simp_all
   refine gS 23 (x := .bool (!(bEqL name1 name2))) (.bool false) (by rw [hna];rfl) ?_
   refine gS 24 (x := .bool (!(bEqL name1 name2))) (.bool false) (by rw [hna];rfl) ?_
   refine gS 25 (x := .bool (!(bEqL name1 name2))) (.bool false) (by rw [hna];rfl) ?_
   refine rk ?_
   refine good_cond (b:=!(intEq (n1:Int) (n2:Int))) (by kernel_rfl) (fun hnn=>?_) (fun hnn=>?_)
   · refine rs [] 60 2 ?_
     refine gR (.bool false) (fun W hk=>⟨?_,hk.below⟩)
     rw [sameEx_f]
     intro h
     injection h
     rw [intEq_eq] at hnn;simp_all
   have hnn1:n1=n2:=by rw [intEq_eq] at hnn;have:(n1:Int)=(n2:Int):=(by simpa using hnn);omega
   have hop1:op1=op2:=by rw [intEq_eq] at hop;simpa using hop
   have ⟨hty1,hbi1⟩:ty1=ty2∧bits1=bits2:=by simp only [vEq,intEq_eq] at hva;simpa using hva
   have hna1:name1=name2:=by rw [bEqL_eq] at hna;simpa using hna
   refine rk ?_
   refine good_toLp ?_
   refine good_loopI (fun i:List Ex×List Ex×List Ex=>i.2.1.length) (fun i=>kids1=i.1++i.2.1∧kids2=i.1++i.2.2) (fun i=>⟨mkT [(2,.ptr gz 0),(3,.ptr (gz+1) 0),(5,.v (.int .i64 (i.1.length:Int)))],mkH [(gz,some (.cells 34 true true true 5 (putL .leaf 0 [.v (.int .u8 op1),.v (.int .u8 ty1),.v (.int .u64 bits1),.v (.string (str name1)),.v (.slice a1 n1 cap1)]))),(gz+1,some (.cells 34 true true true 5 (putL .leaf 0 [.v (.int .u8 op2),.v (.int .u8 ty2),.v (.int .u64 bits2),.v (.string (str name2)),.v (.slice a2 n2 cap2)])))],gz+2,[]⟩)
    ([],kids1,kids2) ⟨rfl,rfl⟩ (by kernel_rfl)
    (fun h=>good_sub _ [(2,.ptr gz 0),(3,.ptr (gz+1) 0),(5,.v (.int .i64 (([]:List Ex).length:Int)))] [(gz,some (.cells 34 true true true 5 (putL .leaf 0 [.v (.int .u8 op1),.v (.int .u8 ty1),.v (.int .u64 bits1),.v (.string (str name1)),.v (.slice a1 n1 cap1)]))),(gz+1,some (.cells 34 true true true 5 (putL .leaf 0 [.v (.int .u8 op2),.v (.int .u8 ty2),.v (.int .u64 bits2),.v (.string (str name2)),.v (.slice a2 n2 cap2)])))] (gz+2) rfl (by kernel_rfl) (by kernel_rfl) (by kernel_rfl) (by kernel_rfl) (by kernel_rfl) (fun b hb=>hγ0 b (Nat.le_trans (Nat.le_add_right _ 2) hb)) (by kernel_rfl) h) ?_
   rintro ⟨l1,l2,m2⟩ ⟨hI1,hI2⟩ ih
   simp only at hI1 hI2
   have hq1:n1=l1.length+l2.length:=by rw [hn1,hI1,List.length_append]
   have hq2:n2=l1.length+m2.length:=by rw [hn2,hI2,List.length_append]
   have hw1:wgts kids1=wgts l1+wgts l2:=by rw [hI1,wgts_app]
   refine rk ?_
   cases l2 with
   | nil=>
     obtain rfl:m2=[]:=List.eq_nil_of_length_eq_zero (by simp only [List.length_nil] at hq1;omega)
     refine gK false (b:=intLt (l1.length:Int) (n1:Int)) (lt_f (by rw [hq1];simp)) ?_
     refine rk ?_
     refine gR (.bool true) (fun W hk=>⟨?_,hk.below⟩)
     rw [sameEx_t.2 (by rw [hI1,hI2,hop1,hty1,hbi1,hna1])]
   | cons e1 l3=>
     obtain ⟨e2,m3,rfl⟩:∃ e2 m3,m2=e2::m3:=by
      cases m2 with
      | nil=>simp only [List.length_nil,List.length_cons] at hq1 hq2;omega
      | cons a b=>exact ⟨a,b,rfl⟩
     have hin1:l1.length<n1:=by rw [hq1,List.length_cons];omega
     have hin2:l1.length<n2:=by omega
     have hks1':=hks1
     have hks2':=hks2
     rw [hI1] at hks1'
     rw [hI2] at hks2'
     obtain ⟨c1,hc1,hcell1⟩:=hks1'.at_
     obtain ⟨c2,hc2,hcell2⟩:=hks2'.at_
     have hcl1:=hc1.len
     have hcl2:=hc2.len
     simp only [wgts] at hw1
     refine gK true (b:=intLt (l1.length:Int) (n1:Int)) (lt_t (by omega)) ?_
     refine rk ?_
     refine good_draw sy_mixed (by kernel_rfl) ?_
     refine q_run [] 60 ?_
     refine qV (.pointer (some ⟨gB a1,oB a1+l1.length*5,none⟩)) (S:=Instr.indexAt 32 (.slice a1 n1 cap1) (.int .i64 (l1.length:Int))) (fun W _=>idx_sl (e:=34) hsl1 (by kernel_rfl) (by kernel_rfl) hin1 W) ?_
     have hld1:=fun W hk=>load_slA (P:=Tryz.prog) (ty:=34) (m:=5) (cs:=c1) hsl1 (by kernel_rfl) (by kernel_rfl) l1.length 0 hcl1 hcell1 (W:=W) hk
     have hld2:=fun W hk=>load_slA (P:=Tryz.prog) (ty:=34) (m:=5) (cs:=c2) hsl2 (by kernel_rfl) (by kernel_rfl) l1.length 0 hcl2 hcell2 (W:=W) hk
     have hcall:=fun W hk=>ihN e1 e2 c1 c2 W (by omega) (by omega) (hc1.keep hk (fun k h=>Nat.lt_of_lt_of_le h hk.size)) (hc2.keep hk (fun k h=>Nat.lt_of_lt_of_le h hk.size))
     obtain ⟨op3,ty3,bits3,name3,kids3⟩:=e1
     obtain ⟨op4,ty4,bits4,name4,kids4⟩:=e2
     simp only [ExAt] at hc1 hc2
     obtain ⟨a3,cap3,xs3,rfl,_⟩:=hc1
     obtain ⟨a4,cap4,xs4,rfl,_⟩:=hc2
     refine q_run [] 60 ?_
     refine qV (.agg #[.int .u8 op3,.int .u8 ty3,.int .u64 bits3,.string (str name3),.slice a3 kids3.length cap3]) (S:=Instr.loadAt 34 (.pointer (some ⟨gB a1,oB a1+l1.length*5+0,none⟩))) (fun W hk=>hld1 W hk) ?_
     refine q_run [] 60 ?_
     refine qV (.pointer (some ⟨gB a2,oB a2+l1.length*5,none⟩)) (S:=Instr.indexAt 32 (.slice a2 n2 cap2) (.int .i64 (l1.length:Int))) (fun W _=>idx_sl (e:=34) hsl2 (by kernel_rfl) (by kernel_rfl) hin2 W) ?_
     refine q_run [] 60 ?_
     refine qV (.agg #[.int .u8 op4,.int .u8 ty4,.int .u64 bits4,.string (str name4),.slice a4 kids4.length cap4]) (S:=Instr.loadAt 34 (.pointer (some ⟨gB a2,oB a2+l1.length*5+0,none⟩))) (fun W hk=>hld2 W hk) ?_
     refine q_run [] 60 ?_
     refine qB [.agg #[.int .u8 op3,.int .u8 ty3,.int .u64 bits3,.string (str name3),.slice a3 kids3.length cap3],.agg #[.int .u8 op4,.int .u8 ty4,.int .u64 bits4,.string (str name4),.slice a4 kids4.length cap4]] (.bool (sameEx (Ex.mk op3 ty3 bits3 name3 kids3) (Ex.mk op4 ty4 bits4 name4 kids4))) (fun W hk=>hcall W hk) ?_
     refine q_run [] 60 ?_
     refine qE ?_
     refine rk ?_
     refine good_cond (b:=!(sameEx (Ex.mk op3 ty3 bits3 name3 kids3) (Ex.mk op4 ty4 bits4 name4 kids4))) (by kernel_rfl) (fun hss=>?_) (fun hss=>?_)
     · refine rs [] 60 2 ?_
       refine gR (.bool false) (fun W hk=>⟨?_,hk.below⟩)
       rw [sameEx_f]
       intro h
       injection h with _ _ _ _ h
       rw [hI1,hI2] at h
       have h2:=(List.cons.inj (List.append_cancel_left h)).1
       rw [sameEx_t.2 h2] at hss
       cases hss
     · have hss1:=sameEx_t.1 (show sameEx (Ex.mk op3 ty3 bits3 name3 kids3) (Ex.mk op4 ty4 bits4 name4 kids4)=true by simpa using hss)
       refine rs [] 60 2 ?_
       refine gS 5 (x := .int .i64 (wrapF .i64 ((l1.length:Int)+1))) (.int .i64 ((l1++[(Ex.mk op3 ty3 bits3 name3 kids3)]).length:Nat)) (by rw [wr64 (by omega) (by omega)];congr 1;simp) ?_
       exact gU _ [(2,.ptr gz 0),(3,.ptr (gz+1) 0),(5,.v (.int .i64 ((l1++[(Ex.mk op3 ty3 bits3 name3 kids3)]).length:Int)))] [(gz,some (.cells 34 true true true 5 (putL .leaf 0 [.v (.int .u8 op1),.v (.int .u8 ty1),.v (.int .u64 bits1),.v (.string (str name1)),.v (.slice a1 n1 cap1)]))),(gz+1,some (.cells 34 true true true 5 (putL .leaf 0 [.v (.int .u8 op2),.v (.int .u8 ty2),.v (.int .u64 bits2),.v (.string (str name2)),.v (.slice a2 n2 cap2)])))] (gz+2) (fun b hb=>hγ0 b (Nat.le_trans (Nat.le_add_right _ 2) hb))
        (ih (l1++[(Ex.mk op3 ty3 bits3 name3 kids3)],l3,m3) (by
         constructor
         · show kids1=(l1++[_])++l3;rw [hI1];simp
         · show kids2=(l1++[_])++m3;rw [hI2,hss1];simp) (by show l3.length<(_::l3).length;simp))
end Go.Proofs.YtiacalnkmnckjaaGreatDoor
end
section
namespace Go.Proofs.YtiacalnkmnckjaaGreatDoor
open Go.RowKit Go.As
def LsAt {α:Type} (A:α→List Value→Prop):List α→List Value→Prop
 | [],xs=>xs=[]
 | e::l,xs=>∃ c r,xs=c++r∧A e c∧LsAt A l r
theorem LsAt.imp {α:Type} {A A':α→List Value→Prop} (h:∀ e c,A e c→A' e c):∀ {l:List α} {xs:List Value},LsAt A l xs→LsAt A' l xs
 | [],xs,hx=>hx
 | e::l,xs,⟨c,r,h1,h2,h3⟩=>⟨c,r,h1,h e c h2,LsAt.imp h h3⟩
theorem LsAt.snoc {α:Type} {A:α→List Value→Prop} {e:α} {c:List Value}:∀ {l:List α} {xs:List Value},LsAt A l xs→A e c→LsAt A (l++[e]) (xs++c)
 | [],xs,h,hc=>by
   obtain rfl:xs=[]:=h
   exact ⟨c,[],by simp,hc,rfl⟩
 | x::l,xs,⟨c1,r,h1,h2,h3⟩,hc=>⟨c1,r++c,by rw [h1];simp,h2,LsAt.snoc h3 hc⟩
theorem LsAt.at_ {α:Type} {A:α→List Value→Prop} {k:Nat} (hk:∀ e c,A e c→c.length=k):∀ {l1:List α} {e:α} {l3:List α} {xs:List Value},LsAt A (l1++e::l3) xs→∃ c,A e c∧∀ j v,c[j]?=some v→xs[l1.length*k+j]?=some v
 | [],e,l3,xs,⟨c,r,h1,h2,h3⟩=>by
   subst h1
   refine ⟨c,h2,fun j v hv=>?_⟩
   rw [List.length_nil,Nat.zero_mul,Nat.zero_add,List.getElem?_append_left (List.getElem?_eq_some_iff.1 hv).1]
   exact hv
 | x::l1,e,l3,xs,⟨c,r,h1,h2,h3⟩=>by
   subst h1
   obtain ⟨c',h4,h5⟩:=LsAt.at_ hk h3
   refine ⟨c',h4,fun j v hv=>?_⟩
   have hl:=hk _ _ h2
   rw [List.length_cons,Nat.succ_mul,List.getElem?_append_right (by omega),show l1.length*k+k+j - c.length=l1.length*k+j by omega]
   exact h5 j v hv
theorem cell_part {c xs:List Value} {b:Nat} (h:∀ j v,c[j]?=some v→xs[b+j]?=some v) (o:Nat) {m:List Value} (hm:∀ j v,m[j]?=some v→c[o+j]?=some v):∀ j v,m[j]?=some v→xs[b+o+j]?=some v:=fun j v hv=>by
 rw [Nat.add_assoc]
 exact h _ _ (hm j v hv)
theorem mid_get (p m q:List Value):∀ j v,m[j]?=some v→(p++m++q)[p.length+j]?=some v:=fun j v hv=>by
 have hj:=(List.getElem?_eq_some_iff.1 hv).1
 rw [List.append_assoc,List.getElem?_append_right (by omega),show p.length+j - p.length=j by omega,List.getElem?_append_left hj]
 exact hv
inductive St where
 | mk (kind:Int) (name:List UInt8) (e:Ex) (body els:List St)
mutual
def swt:St→Nat
 | .mk _ _ e b l=>1+wgt e+swts b+swts l
def swts:List St→Nat
 | []=>0
 | s::l=>swt s+swts l
end
theorem swts_app:∀ (l r:List St),swts (l++r)=swts l+swts r
 | [],r=>by simp [swts]
 | e::l,r=>by
   rw [List.cons_append]
   simp only [swts]
   rw [swts_app l r]
   omega
theorem swt_pos (s:St):0<swt s:=by cases s;simp only [swt];omega
theorem swts_len:∀ (l:List St),l.length≤swts l
 | []=>Nat.zero_le _
 | e::l=>by
   have:=swts_len l
   have:=swt_pos e
   simp only [swts,List.length_cons]
   omega
mutual
def StAt (F:Nat→Prop) (w:World):St→List Value→Prop
 | .mk kind name e body els,cs=>∃ ec a cap xs b cap2 ys,cs = .int .i64 kind :: .string (str name)::(ec++[.slice a body.length cap,.slice b els.length cap2])∧ExAt F w e ec∧Sy.SlAt F w a body.length 9 xs∧StsAt F w body xs∧Sy.SlAt F w b els.length 9 ys∧StsAt F w els ys
def StsAt (F:Nat→Prop) (w:World):List St→List Value→Prop
 | [],xs=>xs=[]
 | e::l,xs=>∃ c r,xs=c++r∧StAt F w e c∧StsAt F w l r
end
theorem StsAt_ls {F:Nat→Prop} {w:World}:∀ {l:List St} {xs:List Value},StsAt F w l xs↔LsAt (StAt F w) l xs
 | [],xs=>by simp only [StsAt,LsAt]
 | e::l,xs=>by
   simp only [StsAt,LsAt]
   exact ⟨fun ⟨c,r,h1,h2,h3⟩=>⟨c,r,h1,h2,StsAt_ls.1 h3⟩,fun ⟨c,r,h1,h2,h3⟩=>⟨c,r,h1,h2,StsAt_ls.2 h3⟩⟩
theorem ExsAt_ls {F:Nat→Prop} {w:World}:∀ {l:List Ex} {xs:List Value},ExsAt F w l xs↔LsAt (ExAt F w) l xs
 | [],xs=>by simp only [ExsAt,LsAt]
 | e::l,xs=>by
   simp only [ExsAt,LsAt]
   exact ⟨fun ⟨c,r,h1,h2,h3⟩=>⟨c,r,h1,h2,ExsAt_ls.1 h3⟩,fun ⟨c,r,h1,h2,h3⟩=>⟨c,r,h1,h2,ExsAt_ls.2 h3⟩⟩
theorem StAt.len {F:Nat→Prop} {w:World} {s:St} {cs:List Value} (h:StAt F w s cs):cs.length=9:=by
 cases s
 simp only [StAt] at h
 obtain ⟨ec,a,cap,xs,b,cap2,ys,rfl,h2,_⟩:=h
 have:=h2.len
 simp [this]
mutual
theorem StAt.keep {F F':Nat→Prop} {w w':World} (hk:Sy.Keep F w w') (hF:∀ k,F k→F' k):∀ {s:St} {cs:List Value},StAt F w s cs→StAt F' w' s cs
 | .mk kind name e body els,cs,h=>by
   simp only [StAt] at h ⊢
   obtain ⟨ec,a,cap,xs,b,cap2,ys,h1,h2,h3,h4,h5,h6⟩:=h
   exact ⟨ec,a,cap,xs,b,cap2,ys,h1,h2.keep hk hF,(h3.keep hk).mono hF,StsAt.keep hk hF h4,(h5.keep hk).mono hF,StsAt.keep hk hF h6⟩
theorem StsAt.keep {F F':Nat→Prop} {w w':World} (hk:Sy.Keep F w w') (hF:∀ k,F k→F' k):∀ {l:List St} {xs:List Value},StsAt F w l xs→StsAt F' w' l xs
 | [],xs,h=>by simp only [StsAt] at h ⊢;exact h
 | e::l,xs,h=>by
   simp only [StsAt] at h ⊢
   obtain ⟨c,r,h1,h2,h3⟩:=h
   exact ⟨c,r,h1,StAt.keep hk hF h2,StsAt.keep hk hF h3⟩
end
theorem StsAt.at_ {F:Nat→Prop} {w:World} {l1:List St} {e:St} {l3:List St} {xs:List Value} (h:StsAt F w (l1++e::l3) xs):∃ c,StAt F w e c∧∀ j v,c[j]?=some v→xs[l1.length*9+j]?=some v:=
 LsAt.at_ (fun _ _ h=>h.len) (StsAt_ls.1 h)
structure Vr where
 name:List UInt8
 ty:Int
 bits:Int
def VrAt (v:Vr) (cs:List Value):Prop:=cs=[.string (str v.name),.int .u8 v.ty,.int .u64 v.bits]
theorem VrAt.len {v:Vr} {cs:List Value} (h:VrAt v cs):cs.length=3:=by rw [h];rfl
def TxAt (s:List UInt8) (cs:List Value):Prop:=cs=[.string (str s)]
theorem TxAt.len {v:List UInt8} {cs:List Value} (h:TxAt v cs):cs.length=1:=by rw [h];rfl
structure Th where
 name:List UInt8
 locals:List Vr
 body:List St
def ThAt (F:Nat→Prop) (w:World) (t:Th) (cs:List Value):Prop:=
 ∃ a cap xs b cap2 ys,cs=[.string (str t.name),.slice a t.locals.length cap,.slice b t.body.length cap2]∧Sy.SlAt F w a t.locals.length 3 xs∧LsAt VrAt t.locals xs∧Sy.SlAt F w b t.body.length 9 ys∧StsAt F w t.body ys
theorem ThAt.len {F:Nat→Prop} {w:World} {t:Th} {cs:List Value} (h:ThAt F w t cs):cs.length=3:=by
 obtain ⟨a,cap,xs,b,cap2,ys,rfl,_⟩:=h;rfl
theorem ThAt.keep {F F':Nat→Prop} {w w':World} (hk:Sy.Keep F w w') (hF:∀ k,F k→F' k) {t:Th} {cs:List Value} (h:ThAt F w t cs):ThAt F' w' t cs:=by
 obtain ⟨a,cap,xs,b,cap2,ys,h1,h2,h3,h4,h5⟩:=h
 exact ⟨a,cap,xs,b,cap2,ys,h1,(h2.keep hk).mono hF,h3,(h4.keep hk).mono hF,h5.keep hk hF⟩
structure Pg where
 shared:List Vr
 mutexes:List (List UInt8)
 threads:List Th
def PgAt (F:Nat→Prop) (w:World) (p:Pg) (cs:List Value):Prop:=
 ∃ a cap xs b cap2 ys d cap3 zs,cs=[.slice a p.shared.length cap,.slice b p.mutexes.length cap2,.slice d p.threads.length cap3]∧Sy.SlAt F w a p.shared.length 3 xs∧LsAt VrAt p.shared xs∧Sy.SlAt F w b p.mutexes.length 1 ys∧LsAt TxAt p.mutexes ys∧Sy.SlAt F w d p.threads.length 3 zs∧LsAt (ThAt F w) p.threads zs
theorem PgAt.keep {F F':Nat→Prop} {w w':World} (hk:Sy.Keep F w w') (hF:∀ k,F k→F' k) {p:Pg} {cs:List Value} (h:PgAt F w p cs):PgAt F' w' p cs:=by
 obtain ⟨a,cap,xs,b,cap2,ys,d,cap3,zs,h1,h2,h3,h4,h5,h6,h7⟩:=h
 exact ⟨a,cap,xs,b,cap2,ys,d,cap3,zs,h1,(h2.keep hk).mono hF,h3,(h4.keep hk).mono hF,h5,(h6.keep hk).mono hF,h7.imp (fun _ _ h=>h.keep hk hF)⟩
def thw (t:Th):Nat:=1+t.locals.length+swts t.body
def thws:List Th→Nat
 | []=>0
 | t::l=>thw t+thws l
theorem thws_app:∀ (l r:List Th),thws (l++r)=thws l+thws r
 | [],r=>by simp [thws]
 | e::l,r=>by
   rw [List.cons_append]
   simp only [thws]
   rw [thws_app l r]
   omega
theorem thws_len:∀ (l:List Th),l.length≤thws l
 | []=>Nat.zero_le _
 | e::l=>by
   have:=thws_len l
   simp only [thws,List.length_cons,thw]
   omega
def pwt (p:Pg):Nat:=p.shared.length+p.mutexes.length+thws p.threads
end Go.Proofs.YtiacalnkmnckjaaGreatDoor
end
section
namespace Go.Proofs.YtiacalnkmnckjaaGreatDoor
open Go.RowKit Go.As
noncomputable def realP (b:Nat):Option (List UInt8):=open Classical in if h:∃ t,PSpec (toN b) t 0 then some h.choose else none
theorem realP_ok {b:Nat} {t:List UInt8} (h:PSpec (toN b) t 0):realP b=some t:=by
 unfold realP
 have hx:∃ t,PSpec (toN b) t 0:=⟨t,h⟩
 rw [dif_pos hx]
 exact congrArg some (hx.choose_spec.uniq h).1
theorem realP_no {b:Nat} {t:List UInt8} {z:Int} (h:PSpec (toN b) t z) (hz:z≠0):realP b=none:=by
 unfold realP
 rw [dif_neg]
 rintro ⟨s,hs⟩
 exact hz (hs.uniq h).2.symm
def nanBits:Int:=9221120237041090560
def infBits:Int:=9218868437227405312
def signBits:Int:=9223372036854775808
noncomputable def litT (ty bits:Int):Option (List UInt8):=
 if ty=1 then (if bits<signBits then some (Lib.decDigits bits.toNat) else none)
 else if ty=2 then (if bits=1 then some [116,114,117,101] else if bits=0 then some [102,97,108,115,101] else none)
 else if ty=3 then (if bits=nanBits then some [110,97,110] else if bits=infBits then some [105,110,102] else if bits<signBits then realP bits.toNat else none)
 else none
noncomputable def valT (ty bits:Int):Option (List UInt8):=
 if ty=1 then (if bits<signBits then some (Lib.decDigits bits.toNat) else if bits=signBits then none else some (45::Lib.decDigits (18446744073709551616 - bits).toNat))
 else if ty=3 then (if bits<signBits then litT 3 bits else if bits - signBits=nanBits then none else (litT 3 (bits - signBits)).map (45::·))
 else litT ty bits
def signT (op:Int):List UInt8:=
 if op=3 then [124,124] else if op=4 then [38,38] else if op=5 then [61,61] else if op=6 then [33,61] else if op=7 then [60] else if op=8 then [60,61] else if op=9 then [62] else if op=10 then [62,61]
 else if op=11 then [43] else if op=12 then [45] else if op=13 then [42] else if op=14 then [47] else if op=15 then [37] else []
mutual
noncomputable def exT:Ex→Option (List UInt8)
 | .mk op ty bits name kids=>
   if (op≠1∧¬ (ty=0∧bits=0))∨(op≠2∧name≠[]) then none
   else match exTs kids with
    | none=>none
    | some ks=>
      if op=1 then (match ks with | []=>litT ty bits | _=>none)
      else if op=2 then (match ks with | []=>if nameB name=true then some name else none | _=>none)
      else if 3≤op∧op≤15 then (match ks with | [a,b]=>some (40::(a++(32::(signT op++(32::(b++[41])))))) | _=>none)
      else if op=16 then (match ks with | [a]=>some (45::a) | _=>none)
      else if op=17 then (match ks with | [a]=>some (33::a) | _=>none)
      else if op=18 then (match ks with | [a]=>some ([105,110,116,40]++(a++[41])) | _=>none)
      else if op=19 then (match ks with | [a]=>some ([114,101,97,108,40]++(a++[41])) | _=>none)
      else none
noncomputable def exTs:List Ex→Option (List (List UInt8))
 | []=>some []
 | e::l=>match exT e with
   | none=>none
   | some t=>match exTs l with
     | none=>none
     | some ts=>some (t::ts)
end
noncomputable def ex32 (e:Ex):Option (List UInt8):=if hgt e≤32 then exT e else none
def exNone:Ex→Bool
 | .mk op ty bits name kids=>decide (op=0∧ty=0∧bits=0∧name=[]∧kids.length=0)
def margT (deep:Nat):List UInt8:=(List.replicate (deep+1) [32,32]).flatten
mutual
noncomputable def stT (deep:Nat):St→Option (List UInt8)
 | .mk kind name e body els=>
   if kind=1 then (if nameB name=true∧body.length=0∧els.length=0 then (ex32 e).map fun t=>margT deep++(name++([32,61,32]++(t++[59,10]))) else none)
   else if kind=2 then (if nameB name=true∧exNone e=true∧body.length=0∧els.length=0 then some (margT deep++([108,111,99,107,32]++(name++[59,10]))) else none)
   else if kind=3 then (if nameB name=true∧exNone e=true∧body.length=0∧els.length=0 then some (margT deep++([117,110,108,111,99,107,32]++(name++[59,10]))) else none)
   else if kind=4 then (if name=[]∧body.length=0∧els.length=0 then (ex32 e).map fun t=>margT deep++([97,115,115,101,114,116,32]++(t++[59,10])) else none)
   else if kind=7 then (if name=[]∧exNone e=true∧body.length=0∧els.length=0 then some (margT deep++[115,107,105,112,59,10]) else none)
   else if kind=5∨kind=6 then
    match stsT (deep+1) body,stsT (deep+1) els,ex32 e with
    | some b,some l,some t=>
      if name≠[]∨(kind=6∧0<els.length) then none
      else if kind=6 then some (margT deep++([119,104,105,108,101,32]++(t++([32,123,10]++(b++(margT deep++[125,10]))))))
      else if 0<els.length then some (margT deep++([105,102,32]++(t++([32,123,10]++(b++(margT deep++([125,32,101,108,115,101,32,123,10]++(l++(margT deep++[125,10])))))))))
      else some (margT deep++([105,102,32]++(t++([32,123,10]++(b++(margT deep++[125,10]))))))
    | _,_,_=>none
   else none
noncomputable def stsT (deep:Nat):List St→Option (List UInt8)
 | []=>some []
 | s::l=>if 32<deep then none else match stT deep s with
   | none=>none
   | some t=>match stsT deep l with
     | none=>none
     | some ts=>some (t++ts)
end
def typT (ty:Int):List UInt8:=if ty=2 then [98,111,111,108] else if ty=3 then [114,101,97,108] else [105,110,116]
noncomputable def vrT (word:List UInt8) (v:Vr):Option (List UInt8):=
 if nameB v.name=true then (valT v.ty v.bits).map fun t=>word++(32::(v.name++(32::(typT v.ty++([32,61,32]++(t++[59,10]))))) ) else none
def allT {α:Type} (f:α→Option (List UInt8)):List α→Option (List UInt8)
 | []=>some []
 | x::l=>match f x with
   | none=>none
   | some t=>match allT f l with
     | none=>none
     | some ts=>some (t++ts)
def mxT (m:List UInt8):Option (List UInt8):=if nameB m=true then some ([109,117,116,101,120,32]++(m++[59,10])) else none
noncomputable def thT (t:Th):Option (List UInt8):=
 match allT (vrT [32,32,108,111,99,97,108]) t.locals,stsT 0 t.body with
 | some a,some b=>if nameB t.name=true then some ([116,104,114,101,97,100,32]++(t.name++([32,123,10]++(a++(b++[125,10]))))) else none
 | _,_=>none
noncomputable def pgT (p:Pg):Option (List UInt8):=
 match allT (vrT [115,104,97,114,101,100]) p.shared,allT mxT p.mutexes,allT thT p.threads with
 | some a,some b,some c=>some (a++(b++c))
 | _,_,_=>none
noncomputable def printS (p:Pg):List UInt8:=match pgT p with
 | none=>[]
 | some t=>if 16384<t.length then [] else t
noncomputable def printE (p:Pg):Int:=match pgT p with
 | none=>2
 | some t=>if 16384<t.length then 3 else 0
noncomputable def exprS (e:Ex):List UInt8:=match ex32 e with
 | none=>[]
 | some t=>t
noncomputable def exprE (e:Ex):Int:=match ex32 e with
 | none=>2
 | some _=>0
noncomputable def valueS (ty bits:Int):List UInt8:=match valT ty bits with
 | none=>[]
 | some t=>t
noncomputable def valueE (ty bits:Int):Int:=match valT ty bits with
 | none=>2
 | some _=>0
theorem allT_app {α:Type} (f:α→Option (List UInt8)):∀ (l r:List α),allT f (l++r)=match allT f l,allT f r with
  | some a,some b=>some (a++b)
  | _,_=>none
 | [],r=>by
   simp only [List.nil_append,allT]
   cases allT f r <;> simp
 | x::l,r=>by
   simp only [List.cons_append,allT]
   rw [allT_app f l r]
   cases f x with
   | none=>rfl
   | some a=>
     cases allT f l with
     | none=>rfl
     | some b=>
       cases allT f r with
       | none=>rfl
       | some c=>simp
theorem stsT_all (deep:Nat):∀ (l:List St),stsT deep l=if 32<deep∧0<l.length then none else allT (stT deep) l
 | []=>by simp [stsT,allT]
 | s::l=>by
   simp only [stsT,allT]
   rw [stsT_all deep l]
   by_cases h:32<deep
   · simp [h]
   · simp [h]
theorem exTs_len:∀ {l:List Ex} {ks:List (List UInt8)},exTs l=some ks→ks.length=l.length
 | [],ks,h=>by
   simp only [exTs,Option.some.injEq] at h
   subst h
   rfl
 | e::l,ks,h=>by
   simp only [exTs] at h
   split at h
   · cases h
   split at h
   · cases h
   rename_i h1
   injection h with h
   subst h
   simp [exTs_len h1]
end Go.Proofs.YtiacalnkmnckjaaGreatDoor
end
section
namespace Go.Proofs.YtiacalnkmnckjaaGreatDoor
open Go.RowKit Go.As
def kidsN (op:Int):Int:=if op=1∨op=2 then 0 else if 3≤op∧op≤15 then 2 else if 16≤op∧op≤19 then 1 else -1
theorem kids_any (op:Int) (w:World):Calls Tryz.prog 130 #[.int .u8 op] w fun e w'=>e = .returned (.int .i64 (kidsN op))∧w=w':=by
 go_enter Tryz.func130,Tryz.ntmps130
 go_wp2
 all_goals
  go_ret
  refine ⟨ret_int ?_,rfl⟩
  simp only [kidsN]
  (try simp only [decide_eq_true_eq,decide_eq_false_iff_not,beq_iff_eq,bne_iff_ne,Bool.not_eq_true,beq_eq_false_iff_ne] at *)
  repeat' split
  all_goals first | omega | simp_all
def psignT (op:Int):List UInt8:=if op=16 then [45] else if op=17 then [33] else signT op
open Go.Sy in
set_option maxRecDepth 100000 in
theorem psign_any (op:Int) (w:World):Calls Tryz.prog 133 #[.int .u8 op] w fun e w'=>e = .returned (.string (str (psignT op)))∧Below w.heap.size w w':=by
 refine Sy.enter (vs:=[.int .u8 op]) sy_fine Tryz.func133 rfl (fun γ=>norms_LR _) rfl (fun γ0 hγ0=>?_)
 refine rk ?_
 by_cases h3:op=3
 ·
  refine gK true (b:=intEq op 3) (eq_t h3) ?_
  refine rs [] 60 3 ?_
  refine gR (.string (str [124,124])) (fun W hk=>⟨?_,hk.below⟩)
  subst h3
  rfl
 refine gK false (b:=intEq op 3) (eq_f h3) ?_
 refine rk ?_
 by_cases h4:op=4
 ·
  refine gK true (b:=intEq op 4) (eq_t h4) ?_
  refine rs [] 60 3 ?_
  refine gR (.string (str [38,38])) (fun W hk=>⟨?_,hk.below⟩)
  subst h4
  rfl
 refine gK false (b:=intEq op 4) (eq_f h4) ?_
 refine rk ?_
 by_cases h5:op=5
 ·
  refine gK true (b:=intEq op 5) (eq_t h5) ?_
  refine rs [] 60 3 ?_
  refine gR (.string (str [61,61])) (fun W hk=>⟨?_,hk.below⟩)
  subst h5
  rfl
 refine gK false (b:=intEq op 5) (eq_f h5) ?_
 refine rk ?_
 by_cases h6:op=6
 ·
  refine gK true (b:=intEq op 6) (eq_t h6) ?_
  refine rs [] 60 3 ?_
  refine gR (.string (str [33,61])) (fun W hk=>⟨?_,hk.below⟩)
  subst h6
  rfl
 refine gK false (b:=intEq op 6) (eq_f h6) ?_
 refine rk ?_
 by_cases h7:op=7
 ·
  refine gK true (b:=intEq op 7) (eq_t h7) ?_
  refine rs [] 60 3 ?_
  refine gR (.string (str [60])) (fun W hk=>⟨?_,hk.below⟩)
  subst h7
  rfl
 refine gK false (b:=intEq op 7) (eq_f h7) ?_
 refine rk ?_
 by_cases h8:op=8
 ·
  refine gK true (b:=intEq op 8) (eq_t h8) ?_
  refine rs [] 60 3 ?_
  refine gR (.string (str [60,61])) (fun W hk=>⟨?_,hk.below⟩)
  subst h8
  rfl
 refine gK false (b:=intEq op 8) (eq_f h8) ?_
 refine rk ?_
 by_cases h9:op=9
 ·
  refine gK true (b:=intEq op 9) (eq_t h9) ?_
  refine rs [] 60 3 ?_
  refine gR (.string (str [62])) (fun W hk=>⟨?_,hk.below⟩)
  subst h9
  rfl
 refine gK false (b:=intEq op 9) (eq_f h9) ?_
 refine rk ?_
 by_cases h10:op=10
 ·
  refine gK true (b:=intEq op 10) (eq_t h10) ?_
  refine rs [] 60 3 ?_
  refine gR (.string (str [62,61])) (fun W hk=>⟨?_,hk.below⟩)
  subst h10
  rfl
 refine gK false (b:=intEq op 10) (eq_f h10) ?_
 refine rk ?_
 by_cases h11:op=11
 ·
  refine gK true (b:=intEq op 11) (eq_t h11) ?_
  refine rs [] 60 3 ?_
  refine gR (.string (str [43])) (fun W hk=>⟨?_,hk.below⟩)
  subst h11
  rfl
 refine gK false (b:=intEq op 11) (eq_f h11) ?_
 refine rk ?_
 by_cases h12:op=12
 ·
  refine gK true (b:=intEq op 12) (eq_t h12) ?_
  refine rk ?_
  refine gK true (b:=intEq op 12) (eq_t h12) ?_
  refine rs [] 60 3 ?_
  refine gR (.string (str [45])) (fun W hk=>⟨?_,hk.below⟩)
  subst h12
  rfl
 refine gK false (b:=intEq op 12) (eq_f h12) ?_
 refine rk ?_
 by_cases h16:op=16
 ·
  refine gK true (b:=intEq op 16) (eq_t h16) ?_
  refine rs [] 60 3 ?_
  refine gR (.string (str [45])) (fun W hk=>⟨?_,hk.below⟩)
  subst h16
  rfl
 refine gK false (b:=intEq op 16) (eq_f h16) ?_
 refine rk ?_
 by_cases h13:op=13
 ·
  refine gK true (b:=intEq op 13) (eq_t h13) ?_
  refine rs [] 60 3 ?_
  refine gR (.string (str [42])) (fun W hk=>⟨?_,hk.below⟩)
  subst h13
  rfl
 refine gK false (b:=intEq op 13) (eq_f h13) ?_
 refine rk ?_
 by_cases h14:op=14
 ·
  refine gK true (b:=intEq op 14) (eq_t h14) ?_
  refine rs [] 60 3 ?_
  refine gR (.string (str [47])) (fun W hk=>⟨?_,hk.below⟩)
  subst h14
  rfl
 refine gK false (b:=intEq op 14) (eq_f h14) ?_
 refine rk ?_
 by_cases h15:op=15
 ·
  refine gK true (b:=intEq op 15) (eq_t h15) ?_
  refine rs [] 60 3 ?_
  refine gR (.string (str [37])) (fun W hk=>⟨?_,hk.below⟩)
  subst h15
  rfl
 refine gK false (b:=intEq op 15) (eq_f h15) ?_
 refine rk ?_
 by_cases h17:op=17
 ·
  refine gK true (b:=intEq op 17) (eq_t h17) ?_
  refine rs [] 60 3 ?_
  refine gR (.string (str [33])) (fun W hk=>⟨?_,hk.below⟩)
  subst h17
  rfl
 refine gK false (b:=intEq op 17) (eq_f h17) ?_
 refine rk ?_
 refine gR (.string (str [])) (fun W hk=>⟨?_,hk.below⟩)
 simp [psignT,signT,h3,h4,h5,h6,h7,h8,h9,h10,h11,h12,h16,h13,h14,h15,h17]
open Go.Sy in
set_option maxRecDepth 100000 in
theorem rsign_any (op:Int) (w:World):Calls Tryz.prog 134 #[.int .u8 op] w fun e w'=>e = .returned (.string (str (signT op)))∧Below w.heap.size w w':=by
 refine Sy.enter (vs:=[.int .u8 op]) sy_fine Tryz.func134 rfl (fun γ=>norms_LR _) rfl (fun γ0 hγ0=>?_)
 refine rk ?_
 by_cases h3:op=3
 ·
  refine gK true (b:=intEq op 3) (eq_t h3) ?_
  refine rs [] 60 3 ?_
  refine gR (.string (str [124,124])) (fun W hk=>⟨?_,hk.below⟩)
  subst h3
  rfl
 refine gK false (b:=intEq op 3) (eq_f h3) ?_
 refine rk ?_
 by_cases h4:op=4
 ·
  refine gK true (b:=intEq op 4) (eq_t h4) ?_
  refine rs [] 60 3 ?_
  refine gR (.string (str [38,38])) (fun W hk=>⟨?_,hk.below⟩)
  subst h4
  rfl
 refine gK false (b:=intEq op 4) (eq_f h4) ?_
 refine rk ?_
 by_cases h5:op=5
 ·
  refine gK true (b:=intEq op 5) (eq_t h5) ?_
  refine rs [] 60 3 ?_
  refine gR (.string (str [61,61])) (fun W hk=>⟨?_,hk.below⟩)
  subst h5
  rfl
 refine gK false (b:=intEq op 5) (eq_f h5) ?_
 refine rk ?_
 by_cases h6:op=6
 ·
  refine gK true (b:=intEq op 6) (eq_t h6) ?_
  refine rs [] 60 3 ?_
  refine gR (.string (str [33,61])) (fun W hk=>⟨?_,hk.below⟩)
  subst h6
  rfl
 refine gK false (b:=intEq op 6) (eq_f h6) ?_
 refine rk ?_
 by_cases h7:op=7
 ·
  refine gK true (b:=intEq op 7) (eq_t h7) ?_
  refine rs [] 60 3 ?_
  refine gR (.string (str [60])) (fun W hk=>⟨?_,hk.below⟩)
  subst h7
  rfl
 refine gK false (b:=intEq op 7) (eq_f h7) ?_
 refine rk ?_
 by_cases h8:op=8
 ·
  refine gK true (b:=intEq op 8) (eq_t h8) ?_
  refine rs [] 60 3 ?_
  refine gR (.string (str [60,61])) (fun W hk=>⟨?_,hk.below⟩)
  subst h8
  rfl
 refine gK false (b:=intEq op 8) (eq_f h8) ?_
 refine rk ?_
 by_cases h9:op=9
 ·
  refine gK true (b:=intEq op 9) (eq_t h9) ?_
  refine rs [] 60 3 ?_
  refine gR (.string (str [62])) (fun W hk=>⟨?_,hk.below⟩)
  subst h9
  rfl
 refine gK false (b:=intEq op 9) (eq_f h9) ?_
 refine rk ?_
 by_cases h10:op=10
 ·
  refine gK true (b:=intEq op 10) (eq_t h10) ?_
  refine rs [] 60 3 ?_
  refine gR (.string (str [62,61])) (fun W hk=>⟨?_,hk.below⟩)
  subst h10
  rfl
 refine gK false (b:=intEq op 10) (eq_f h10) ?_
 refine rk ?_
 by_cases h11:op=11
 ·
  refine gK true (b:=intEq op 11) (eq_t h11) ?_
  refine rs [] 60 3 ?_
  refine gR (.string (str [43])) (fun W hk=>⟨?_,hk.below⟩)
  subst h11
  rfl
 refine gK false (b:=intEq op 11) (eq_f h11) ?_
 refine rk ?_
 by_cases h12:op=12
 ·
  refine gK true (b:=intEq op 12) (eq_t h12) ?_
  refine rs [] 60 3 ?_
  refine gR (.string (str [45])) (fun W hk=>⟨?_,hk.below⟩)
  subst h12
  rfl
 refine gK false (b:=intEq op 12) (eq_f h12) ?_
 refine rk ?_
 by_cases h13:op=13
 ·
  refine gK true (b:=intEq op 13) (eq_t h13) ?_
  refine rs [] 60 3 ?_
  refine gR (.string (str [42])) (fun W hk=>⟨?_,hk.below⟩)
  subst h13
  rfl
 refine gK false (b:=intEq op 13) (eq_f h13) ?_
 refine rk ?_
 by_cases h14:op=14
 ·
  refine gK true (b:=intEq op 14) (eq_t h14) ?_
  refine rs [] 60 3 ?_
  refine gR (.string (str [47])) (fun W hk=>⟨?_,hk.below⟩)
  subst h14
  rfl
 refine gK false (b:=intEq op 14) (eq_f h14) ?_
 refine rk ?_
 by_cases h15:op=15
 ·
  refine gK true (b:=intEq op 15) (eq_t h15) ?_
  refine rs [] 60 3 ?_
  refine gR (.string (str [37])) (fun W hk=>⟨?_,hk.below⟩)
  subst h15
  rfl
 refine gK false (b:=intEq op 15) (eq_f h15) ?_
 refine rk ?_
 refine gR (.string (str [])) (fun W hk=>⟨?_,hk.below⟩)
 simp [signT,h3,h4,h5,h6,h7,h8,h9,h10,h11,h12,h13,h14,h15]
def ptypT (ty:Int):List UInt8:=if ty=1 then [105,110,116] else if ty=2 then [98,111,111,108] else [114,101,97,108]
open Go.Sy in
set_option maxRecDepth 100000 in
theorem ptype_any (ty:Int) (w:World):Calls Tryz.prog 124 #[.int .u8 ty] w fun e w'=>e = .returned (.string (str (ptypT ty)))∧Below w.heap.size w w':=by
 refine Sy.enter (vs:=[.int .u8 ty]) sy_fine Tryz.func124 rfl (fun γ=>norms_LR _) rfl (fun γ0 hγ0=>?_)
 refine rk ?_
 by_cases h1:ty=1
 ·
  refine gK true (b:=intEq ty 1) (eq_t h1) ?_
  refine rs [] 60 3 ?_
  refine gR (.string (str [105,110,116])) (fun W hk=>⟨?_,hk.below⟩)
  subst h1
  rfl
 refine gK false (b:=intEq ty 1) (eq_f h1) ?_
 refine rk ?_
 by_cases h2:ty=2
 ·
  refine gK true (b:=intEq ty 2) (eq_t h2) ?_
  refine rs [] 60 3 ?_
  refine gR (.string (str [98,111,111,108])) (fun W hk=>⟨?_,hk.below⟩)
  subst h2
  rfl
 refine gK false (b:=intEq ty 2) (eq_f h2) ?_
 refine rk ?_
 refine gR (.string (str [114,101,97,108])) (fun W hk=>⟨?_,hk.below⟩)
 simp [ptypT,h1,h2]
end Go.Proofs.YtiacalnkmnckjaaGreatDoor
end
section
namespace Go.Proofs.YtiacalnkmnckjaaGreatDoor
open Go.RowKit Go.As
theorem rprint_P (b:Nat) (hb:b<18446744073709551616) (w:World) (ht:Tab w):
  Calls Tryz.prog 200 #[.int .u64 (b:Int)] w fun e w'=>e = .returned (.tuple #[.string (str ((realP b).getD [])),.int .i64 (if (realP b).isSome then 0 else 2)])∧Below w.heap.size w w':=by
 refine (rprint_any b hb w ht).mono ?_
 rintro e w' ⟨s,y,rfl,hp,hbl⟩
 refine ⟨?_,hbl⟩
 rcases hp with ⟨h1,h2⟩ | ⟨h1,h2,h3⟩
 · subst h1
   rw [realP_ok (.inl ⟨rfl,h2⟩)]
   rfl
 · subst h1 h2
   rw [realP_no (.inr ⟨rfl,rfl,h3⟩) (by decide)]
   rfl
theorem qprint_P (b:Nat) (hb:b<18446744073709551616) (w:World):
  Calls Tryz.prog 140 #[.int .u64 (b:Int)] w fun e w'=>e = .returned (.tuple #[.string (str ((realP b).getD [])),.int .i64 (if (realP b).isSome then 0 else 2)])∧Below w.heap.size w w':=by
 refine (qprint_any b hb w).mono ?_
 rintro e w' ⟨s,y,rfl,hp,hbl⟩
 refine ⟨?_,hbl⟩
 rcases hp with ⟨h1,h2⟩ | ⟨h1,h2,h3⟩
 · subst h1
   rw [realP_ok (.inl ⟨rfl,h2⟩)]
   rfl
 · subst h1 h2
   rw [realP_no (.inr ⟨rfl,rfl,h3⟩) (by decide)]
   rfl
theorem realP_bound {b:Nat} {t:List UInt8} (h:realP b=some t):toN b=b∧b<9223372036854775808∧PSpec b t 0:=by
 have hx:PSpec (toN b) t 0:=by
  rcases PSpec.total (toN b) with ⟨s,hs⟩ | hs
  · rw [realP_ok hs] at h
    injection h with h
    subst h
    exact hs
  · rw [realP_no hs (by decide)] at h
    cases h
 have hb:∃ k n,LitIs (toN b) k n:=by
  rcases hx with ⟨_,k,n,h1,_⟩ | ⟨h1,_⟩
  · exact ⟨k,n,h1⟩
  · cases h1
 obtain ⟨k,n,hl⟩:=hb
 obtain ⟨_,h2,h3⟩:=hl.bound
 rcases toN_cases b with ⟨_,h4⟩ | ⟨_,h4⟩
 · rw [h4] at h3 hx
   exact ⟨h4,h3,hx⟩
 · rw [h4] at h2
   exact absurd h2 (by decide)
noncomputable def numB (n:Nat):Bool:=decide ((n:Int)=nanBits) || (decide ((n:Int)=infBits) || (realP n).isSome)
theorem ge_pos {n:Nat} (hn:n<18446744073709551616):(!(Sy.intLt (IntKind.wrap .i64 (n:Int)) 0))=decide (n<9223372036854775808):=by
 rw [Sy.intLt_eq,IntKind.wrap_i64]
 by_cases h:n<9223372036854775808
 · rw [decide_eq_true h,decide_eq_false (by omega)]
   rfl
 · rw [decide_eq_false h,decide_eq_true (by omega)]
   rfl
theorem le_one {n:Nat}:(!(Sy.intLt 1 (n:Int)))=decide (n≤1):=by
 rw [Sy.intLt_eq]
 by_cases h:n≤1
 · rw [decide_eq_true h,decide_eq_false (by omega)]
   rfl
 · rw [decide_eq_false h,decide_eq_true (by omega)]
   rfl
theorem and_off {b:Nat} (h:b<18446744073709551616):(b &&& 9223372036854775807)=b % 9223372036854775808:=by
 have:=Nat.and_two_pow_sub_one_eq_mod b 63
 simpa using this
theorem bits_off {b:Nat} (h:b<18446744073709551616):Go.bits .andNot .u64 (b:Int) 9223372036854775808=((b % 9223372036854775808:Nat):Int):=by
 have e:(BitVec.ofInt 64 (b:Int) &&& ~~~(BitVec.ofInt 64 9223372036854775808)).toNat=b % 9223372036854775808:=by
  rw [BitVec.toNat_and]
  have h1:(BitVec.ofInt 64 (b:Int)).toNat=b:=by rw [BitVec.toNat_ofInt];omega
  have h2:(~~~(BitVec.ofInt 64 9223372036854775808)).toNat=9223372036854775807:=by decide
  rw [h1,h2,and_off h]
 show IntKind.u64.wrap _=_
 have e3:∀ n:Int,IntKind.u64.wrap n=n % 18446744073709551616:=fun n=>rfl
 rw [e3]
 have e4:((BitVec.ofInt IntKind.u64.bits (b:Int) &&& ~~~(BitVec.ofInt IntKind.u64.bits 9223372036854775808)).toNat:Nat)=b % 9223372036854775808:=e
 rw [e4]
 omega
theorem cat_str (x y:Operand) (a b:List UInt8) (h:a.length+b.length≤9223372036854775807) (w:World):
  ((do eqGuard .add 9 x y (.string (str a)) (.string (str b));binOp .add 9 (.string (str a)) (.string (str b))):Sem Value).run Tryz.prog w = .ok (.string (str (a++b))) w:=by
 have e:(eqGuard .add 9 x y (.string (str a)) (.string (str b))).run Tryz.prog w = .ok () w:=rfl
 rw [Sem.run_bind,e,← str_append]
 show (Op.stringOp .add (str a) (str b)).run Tryz.prog w=_
 exact run_string_add_sum w (str a) (str b) (by rw [str_size,str_size];exact h)
noncomputable def rTp (n:Nat):List UInt8:=if (n:Int)=9221120237041090560 then [110,97,110] else if (n:Int)=9218868437227405312 then [105,110,102] else (realP n).getD []
noncomputable def rTx (n:Nat):List UInt8:=if n<9223372036854775808 then rTp n else 45::rTp (n - 9223372036854775808)
theorem rTp_len (n:Nat):(rTp n).length≤1048576:=by
 unfold rTp
 split
 · decide
 split
 · decide
 cases h:realP n with
 | none=>decide
 | some t=>exact (realP_bound h).2.2.len
theorem shr_top (n:Nat) (hn:n<18446744073709551616):Int.fdiv (n:Int) (2 ^ min (Int.toNat 63) IntKind.u64.bits)=if n<9223372036854775808 then 0 else 1:=by
 have e:(2:Int) ^ min (Int.toNat 63) IntKind.u64.bits=9223372036854775808:=by decide
 rw [e,Int.fdiv_eq_ediv_of_nonneg _ (by omega)]
 split <;> omega
open Go.Sy in
set_option maxRecDepth 100000 in
theorem number_any (n:Nat) (hn:n<18446744073709551616) (w:World) (ht:Tab w):
  Calls Tryz.prog 136 #[.int .u64 (n:Int)] w fun e w'=>e = .returned (.bool (numB n))∧Below w.heap.size w w':=by
 refine Sy.enter (vs:=[.int .u64 (n:Int)]) sy_fine Tryz.func136 rfl (fun γ=>norms_LR _) rfl (fun γ0 hγ0=>?_)
 refine rs [8] 60 0 ?_
 by_cases h1:(n:Int)=9221120237041090560
 ·
  refine gS 6 (x := .bool (intEq (n:Int) 9221120237041090560)) (.bool true) (by rw [eq_t h1]) ?_
  refine gS 7 (x := .bool (intEq (n:Int) 9221120237041090560)) (.bool true) (by rw [eq_t h1]) ?_
  refine rs [] 60 3 ?_
  refine gR (.bool true) (fun W hk=>⟨?_,hk.below⟩)
  simp [numB,nanBits,h1]
 refine gS 6 (x := .bool (intEq (n:Int) 9221120237041090560)) (.bool false) (by rw [eq_f h1]) ?_
 refine gS 7 (x := .bool (intEq (n:Int) 9221120237041090560)) (.bool false) (by rw [eq_f h1]) ?_
 refine rk ?_
 by_cases h2:(n:Int)=9218868437227405312
 ·
  refine gK true (b:=intEq (n:Int) 9218868437227405312) (eq_t h2) ?_
  refine rk ?_
  refine gR (.bool true) (fun W hk=>⟨?_,hk.below⟩)
  simp [numB,infBits,h2]
 refine gK false (b:=intEq (n:Int) 9218868437227405312) (eq_f h2) ?_
 refine rk ?_
 have hp:=fun W (hk:Keep (·<w.heap.size) w W)=>rprint_P n hn W (ht.below hk.below)
 cases h3:realP n with
 | none=>
   refine gX [.int .u64 (n:Int)] (.tuple #[.string (str []),.int .i64 2]) (fun W hk=>by have:=hp W hk;rw [h3] at this;exact this) ?_
   refine rs [] 60 3 ?_
   refine gR (.bool false) (fun W hk=>⟨?_,hk.below⟩)
   simp [numB,nanBits,infBits,h1,h2,h3]
 | some t=>
   refine gX [.int .u64 (n:Int)] (.tuple #[.string (str t),.int .i64 0]) (fun W hk=>by have:=hp W hk;rw [h3] at this;exact this) ?_
   refine rs [] 60 3 ?_
   refine gP [.int .u64 (n:Int)] (.bool true) (fun W hk=>kmay W (realP_bound h3).1) ?_
   refine rs [] 60 3 ?_
   refine gR (.bool true) (fun W hk=>⟨?_,hk.below⟩)
   simp [numB,h3]
noncomputable def litB (ty:Int) (n:Nat):Bool:=if ty=1 then decide (n<9223372036854775808) else if ty=2 then decide (n≤1) else if ty=3 then numB n else false
open Go.Sy in
set_option maxRecDepth 100000 in
theorem tliteral_any (ty:Int) (n:Nat) (hn:n<18446744073709551616) (w:World) (ht:Tab w):
  Calls Tryz.prog 132 #[.agg #[.int .u8 ty,.int .u64 (n:Int)]] w fun e w'=>e = .returned (.bool (litB ty n))∧Below w.heap.size w w':=by
 refine Sy.enter (vs:=[.agg #[.int .u8 ty,.int .u64 (n:Int)]]) sy_fine Tryz.func132 rfl (fun γ=>norms_LR _) rfl (fun γ0 hγ0=>?_)
 refine rk ?_
 by_cases h1:ty=1
 ·
  refine gK true (b:=intEq ty 1) (eq_t h1) ?_
  refine rs [] 60 3 ?_
  refine gR (.bool (!(intLt (IntKind.wrap .i64 (n:Int)) 0))) (fun W hk=>⟨?_,hk.below⟩)
  rw [litB,if_pos h1,ge_pos hn]
 refine gK false (b:=intEq ty 1) (eq_f h1) ?_
 refine rk ?_
 by_cases h2:ty=2
 ·
  refine gK true (b:=intEq ty 2) (eq_t h2) ?_
  refine rs [] 60 3 ?_
  refine gR (.bool (!(intLt 1 (n:Int)))) (fun W hk=>⟨?_,hk.below⟩)
  rw [litB,if_neg h1,if_pos h2,le_one]
 refine gK false (b:=intEq ty 2) (eq_f h2) ?_
 refine rk ?_
 by_cases h3:ty=3
 ·
  refine gK true (b:=intEq ty 3) (eq_t h3) ?_
  refine rs [] 60 3 ?_
  refine gX [.int .u64 (n:Int)] (.bool (numB n)) (fun W hk=>number_any n hn W (ht.below hk.below)) ?_
  refine rs [] 60 3 ?_
  refine gR (.bool (numB n)) (fun W hk=>⟨?_,hk.below⟩)
  rw [litB,if_neg h1,if_neg h2,if_pos h3]
 refine gK false (b:=intEq ty 3) (eq_f h3) ?_
 refine rs [] 60 3 ?_
 refine gR (.bool false) (fun W hk=>⟨?_,hk.below⟩)
 simp [litB,h1,h2,h3]
open Classical in
noncomputable def firB (ty:Int) (n:Nat):Bool:=if ty=1 then !decide ((n:Int)=9223372036854775808) else if ty=2 then decide (n≤1) else if ty=3 then (if (n:Int)=9221120237041090560 then true else if toN n=n then numB (n % 9223372036854775808) else false) else false
open Go.Sy in
set_option maxRecDepth 100000 in
theorem tfirst_any (ty:Int) (n:Nat) (hn:n<18446744073709551616) (w:World) (ht:Tab w):
  Calls Tryz.prog 62 #[.agg #[.int .u8 ty,.int .u64 (n:Int)]] w fun e w'=>e = .returned (.bool (firB ty n))∧Below w.heap.size w w':=by
 refine Sy.enter (vs:=[.agg #[.int .u8 ty,.int .u64 (n:Int)]]) sy_fine Tryz.func62 rfl (fun γ=>norms_LR _) rfl (fun γ0 hγ0=>?_)
 refine rk ?_
 by_cases h1:ty=1
 ·
  refine gK true (b:=intEq ty 1) (eq_t h1) ?_
  refine rs [] 60 3 ?_
  refine gR (.bool (!(intEq (n:Int) 9223372036854775808))) (fun W hk=>⟨?_,hk.below⟩)
  rw [firB,if_pos h1,intEq_eq]
 refine gK false (b:=intEq ty 1) (eq_f h1) ?_
 refine rk ?_
 by_cases h2:ty=2
 ·
  refine gK true (b:=intEq ty 2) (eq_t h2) ?_
  refine rs [] 60 3 ?_
  refine gR (.bool (!(intLt 1 (n:Int)))) (fun W hk=>⟨?_,hk.below⟩)
  rw [firB,if_neg h1,if_pos h2,le_one]
 refine gK false (b:=intEq ty 2) (eq_f h2) ?_
 refine rk ?_
 by_cases h3:ty=3
 rotate_left
 ·
  refine gK false (b:=intEq ty 3) (eq_f h3) ?_
  refine rs [] 60 3 ?_
  refine gR (.bool false) (fun W hk=>⟨?_,hk.below⟩)
  simp [firB,h1,h2,h3]
 refine gK true (b:=intEq ty 3) (eq_t h3) ?_
 refine rk ?_
 by_cases h4:(n:Int)=9221120237041090560
 ·
  refine gK true (b:=intEq (n:Int) 9221120237041090560) (eq_t h4) ?_
  refine rs [] 60 3 ?_
  refine gR (.bool true) (fun W hk=>⟨?_,hk.below⟩)
  rw [firB,if_neg h1,if_neg h2,if_pos h3,if_pos h4]
 refine gK false (b:=intEq (n:Int) 9221120237041090560) (eq_f h4) ?_
 refine rk ?_
 by_cases h5:toN n=n
 rotate_left
 ·
  refine gP [.int .u64 (n:Int)] (.bool false) (fun W hk=>by have:=pmay_any (n:Int) W;rw [Int.toNat_natCast,beq_false_of_ne (fun h=>h5 (by omega))] at this;exact this) ?_
  refine rs [] 60 3 ?_
  refine gR (.bool false) (fun W hk=>⟨?_,hk.below⟩)
  rw [firB,if_neg h1,if_neg h2,if_pos h3,if_neg h4,if_neg h5]
 refine gP [.int .u64 (n:Int)] (.bool true) (fun W hk=>kmay W h5) ?_
 refine rs [27] 60 3 ?_
 refine gS 26 (x := .int .u64 (Go.bits .andNot .u64 (n:Int) 9223372036854775808)) (.int .u64 ((n % 9223372036854775808:Nat):Int)) (by rw [bits_off hn]) ?_
 refine rs [] 60 3 ?_
 refine gX [.int .u64 ((n % 9223372036854775808:Nat):Int)] (.bool (numB (n % 9223372036854775808))) (fun W hk=>number_any _ (by omega) W (ht.below hk.below)) ?_
 refine rs [] 60 3 ?_
 refine gR (.bool (numB (n % 9223372036854775808))) (fun W hk=>⟨?_,hk.below⟩)
 rw [firB,if_neg h1,if_neg h2,if_pos h3,if_neg h4,if_pos h5]
open Go.Sy in
set_option maxRecDepth 100000 in
theorem realTextP_any (n:Nat) (hp:n<9223372036854775808) (w:World) (ht:Tab w):
  Calls Tryz.prog 139 #[.int .u64 (n:Int)] w fun e w'=>e = .returned (.string (str (rTp n)))∧Below w.heap.size w w':=by
 refine Sy.enter (vs:=[.int .u64 (n:Int)]) sy_fine Tryz.func139 rfl (fun γ=>norms_LR _) rfl (fun γ0 hγ0=>?_)
 refine rk ?_
 by_cases h1:(n:Int)=9221120237041090560
 ·
  refine gK true (b:=intEq (n:Int) 9221120237041090560) (eq_t h1) ?_
  refine rs [] 60 3 ?_
  refine gR (.string (str [110,97,110])) (fun W hk=>⟨?_,hk.below⟩)
  rw [rTp,if_pos h1]
 refine gK false (b:=intEq (n:Int) 9221120237041090560) (eq_f h1) ?_
 refine rk ?_
 by_cases h2:(n:Int)=9218868437227405312
 ·
  refine gK true (b:=intEq (n:Int) 9218868437227405312) (eq_t h2) ?_
  refine rs [] 60 3 ?_
  refine gR (.string (str [105,110,102])) (fun W hk=>⟨?_,hk.below⟩)
  rw [rTp,if_neg h1,if_pos h2]
 refine gK false (b:=intEq (n:Int) 9218868437227405312) (eq_f h2) ?_
 refine rs [12] 60 0 ?_
 refine gS 11 (x := .int .u64 (Int.fdiv (n:Int) (2 ^ min (Int.toNat 63) IntKind.u64.bits))) (.int .u64 0) (by rw [shr_top n (by omega),if_pos hp]) ?_
 refine rs [] 60 1 ?_
 refine gX [.int .u64 (n:Int)] (.tuple #[.string (str ((realP n).getD [])),.int .i64 (if (realP n).isSome then 0 else 2)]) (fun W hk=>rprint_P n (by omega) W (ht.below hk.below)) ?_
 refine rs [] 60 1 ?_
 refine gR (.string (str ((realP n).getD []))) (fun W hk=>⟨?_,hk.below⟩)
 rw [rTp,if_neg h1,if_neg h2]
open Go.Sy in
set_option maxRecDepth 100000 in
theorem realTextN_any (n:Nat) (hn:n<18446744073709551616) (hp:9223372036854775808≤n) (w:World) (ht:Tab w):
  Calls Tryz.prog 139 #[.int .u64 (n:Int)] w fun e w'=>e = .returned (.string (str (rTx n)))∧Below w.heap.size w w':=by
 refine Sy.enter (vs:=[.int .u64 (n:Int)]) sy_fine Tryz.func139 rfl (fun γ=>norms_LR _) rfl (fun γ0 hγ0=>?_)
 refine rk ?_
 have h1:¬ (n:Int)=9221120237041090560:=by omega
 refine gK false (b:=intEq (n:Int) 9221120237041090560) (eq_f h1) ?_
 refine rk ?_
 have h2:¬ (n:Int)=9218868437227405312:=by omega
 refine gK false (b:=intEq (n:Int) 9218868437227405312) (eq_f h2) ?_
 refine rs [12] 60 0 ?_
 refine gS 11 (x := .int .u64 (Int.fdiv (n:Int) (2 ^ min (Int.toNat 63) IntKind.u64.bits))) (.int .u64 1) (by rw [shr_top n (by omega),if_neg (by omega)]) ?_
 refine rs [] 60 1 ?_
 obtain ⟨m,hm⟩:∃ m,m=n - 9223372036854775808:=⟨_,rfl⟩
 have e14:Go.bits .xor .u64 (n:Int) 9223372036854775808=(m:Int):=by rw [bits_neg hn,negW,if_neg (by omega),hm]
 refine gX [.int .u64 (Go.bits .xor .u64 (n:Int) 9223372036854775808)] (.string (str (rTp m))) (fun W hk=>by rw [e14];exact realTextP_any m (by omega) W (ht.below hk.below)) ?_
 refine rs [16] 60 1 ?_
 refine gC [45] (rTp m) (by have:=rTp_len m;simp;omega) ?_
 refine rs [] 60 1 ?_
 refine gR (.string (str ([45]++rTp m))) (fun W hk=>⟨?_,hk.below⟩)
 rw [rTx,if_neg (by omega),← hm]
 rfl
open Go.Sy in
set_option maxRecDepth 100000 in
theorem ifbool_any (b:Bool) (w:World):Calls Tryz.prog 202 #[.bool b] w fun e w'=>e = .returned (.string (str (if b then [116,114,117,101] else [102,97,108,115,101])))∧Below w.heap.size w w':=by
 cases b
 ·
  refine Sy.enter (vs:=[.bool false]) sy_fine Tryz.func202 rfl (fun γ=>norms_LR _) rfl (fun γ0 hγ0=>?_)
  refine rs [] 60 3 ?_
  refine gR (.string (str [102,97,108,115,101])) (fun W hk=>⟨rfl,hk.below⟩)
 ·
  refine Sy.enter (vs:=[.bool true]) sy_fine Tryz.func202 rfl (fun γ=>norms_LR _) rfl (fun γ0 hγ0=>?_)
  refine rs [] 60 3 ?_
  refine gR (.string (str [116,114,117,101])) (fun W hk=>⟨rfl,hk.below⟩)
open Go.Sy in
set_option maxRecDepth 100000 in
theorem fbool_any (b:Bool) (w:World):Calls Tryz.prog 138 #[.bool b] w fun e w'=>e = .returned (.string (str (if b then [116,114,117,101] else [102,97,108,115,101])))∧Below w.heap.size w w':=by
 cases b
 ·
  refine Sy.enter (vs:=[.bool false]) sy_fine Tryz.func138 rfl (fun γ=>norms_LR _) rfl (fun γ0 hγ0=>?_)
  refine rs [] 60 3 ?_
  refine gX [.bool false] (.string (str [102,97,108,115,101])) (fun W hk=>ifbool_any false W) ?_
  refine rs [] 60 3 ?_
  refine gR (.string (str [102,97,108,115,101])) (fun W hk=>⟨rfl,hk.below⟩)
 ·
  refine Sy.enter (vs:=[.bool true]) sy_fine Tryz.func138 rfl (fun γ=>norms_LR _) rfl (fun γ0 hγ0=>?_)
  refine rs [] 60 3 ?_
  refine gX [.bool true] (.string (str [116,114,117,101])) (fun W hk=>ifbool_any true W) ?_
  refine rs [] 60 3 ?_
  refine gR (.string (str [116,114,117,101])) (fun W hk=>⟨rfl,hk.below⟩)
theorem realText_any (n:Nat) (hn:n<18446744073709551616) (w:World) (ht:Tab w):
  Calls Tryz.prog 139 #[.int .u64 (n:Int)] w fun e w'=>e = .returned (.string (str (rTx n)))∧Below w.heap.size w w':=by
 by_cases hp:n<9223372036854775808
 · have:=realTextP_any n hp w ht
   unfold rTx
   rw [if_pos hp]
   exact this
 · exact realTextN_any n hn (by omega) w ht
noncomputable def vTx (ty:Int) (n:Nat):List UInt8:=if ty=1 then Lib.itoa (IntKind.wrap .i64 (n:Int)) else if ty=2 then (if (n:Int)=1 then [116,114,117,101] else [102,97,108,115,101]) else rTx n
open Go.Sy in
set_option maxRecDepth 100000 in
theorem tvalue_any (ty:Int) (n:Nat) (hn:n<18446744073709551616) (w:World) (ht:Tab w):
  Calls Tryz.prog 63 #[.agg #[.int .u8 ty,.int .u64 (n:Int)]] w fun e w'=>e = .returned (.string (str (vTx ty n)))∧Below w.heap.size w w':=by
 refine Sy.enter (vs:=[.agg #[.int .u8 ty,.int .u64 (n:Int)]]) sy_fine Tryz.func63 rfl (fun γ=>norms_LR _) rfl (fun γ0 hγ0=>?_)
 refine rk ?_
 by_cases h1:ty=1
 ·
  refine gK true (b:=intEq ty 1) (eq_t h1) ?_
  refine rk ?_
  refine gX [.int .i64 (IntKind.wrap .i64 (n:Int)),.int .i64 10] (.string (str (Lib.itoa (IntKind.wrap .i64 (n:Int))))) (fun W hk=>(Tryz.strconv_FormatInt_10 _ (by rw [IntKind.wrap_i64];omega) (by rw [IntKind.wrap_i64];omega) W (ht.below hk.below)).mono fun e w' ⟨h1,k,os,h2⟩=>⟨h1,by rw [h2];exact below_growK _ _ _⟩) ?_
  refine rs [] 60 1 ?_
  refine gR (.string (str (Lib.itoa (IntKind.wrap .i64 (n:Int))))) (fun W hk=>⟨?_,hk.below⟩)
  rw [vTx,if_pos h1]
 refine gK false (b:=intEq ty 1) (eq_f h1) ?_
 refine rk ?_
 by_cases h2:ty=2
 ·
  refine gK true (b:=intEq ty 2) (eq_t h2) ?_
  refine rs [16] 60 0 ?_
  by_cases h3:(n:Int)=1
  ·
   refine gS 15 (x := .bool (intEq (n:Int) 1)) (.bool true) (by rw [eq_t h3]) ?_
   refine gX [.bool true] (.string (str [116,114,117,101])) (fun W hk=>fbool_any true W) ?_
   refine rs [] 60 1 ?_
   refine gR (.string (str [116,114,117,101])) (fun W hk=>⟨?_,hk.below⟩)
   rw [vTx,if_neg h1,if_pos h2,if_pos h3]
  ·
   refine gS 15 (x := .bool (intEq (n:Int) 1)) (.bool false) (by rw [eq_f h3]) ?_
   refine gX [.bool false] (.string (str [102,97,108,115,101])) (fun W hk=>fbool_any false W) ?_
   refine rs [] 60 1 ?_
   refine gR (.string (str [102,97,108,115,101])) (fun W hk=>⟨?_,hk.below⟩)
   rw [vTx,if_neg h1,if_pos h2,if_neg h3]
 refine gK false (b:=intEq ty 2) (eq_f h2) ?_
 refine rk ?_
 refine gX [.int .u64 (n:Int)] (.string (str (rTx n))) (fun W hk=>realText_any n hn W (ht.below hk.below)) ?_
 refine rs [] 60 1 ?_
 refine gR (.string (str (rTx n))) (fun W hk=>⟨?_,hk.below⟩)
 rw [vTx,if_neg h1,if_neg h2]
theorem wrap_lo {n:Nat} (h:n<9223372036854775808):Lib.itoa (IntKind.wrap .i64 (n:Int))=Lib.decDigits (n:Int).toNat:=by
 have e:IntKind.wrap .i64 (n:Int)=(n:Int):=by rw [IntKind.wrap_i64];omega
 rw [e]
 unfold Lib.itoa
 rw [if_neg (by omega)]
theorem wrap_hi {n:Nat} (hn:n<18446744073709551616) (h:¬ n<9223372036854775808):Lib.itoa (IntKind.wrap .i64 (n:Int))=45::Lib.decDigits (18446744073709551616 - (n:Int)).toNat:=by
 obtain ⟨z,hz⟩:∃ z,z=IntKind.wrap .i64 (n:Int):=⟨_,rfl⟩
 have e:z=(n:Int) - 18446744073709551616:=by rw [hz,IntKind.wrap_i64];omega
 rw [← hz]
 unfold Lib.itoa
 rw [if_pos (by omega)]
 have e2:z.natAbs=(18446744073709551616 - (n:Int)).toNat:=by omega
 rw [e2]
theorem litT1 (b:Int):litT 1 b=if b<signBits then some (Lib.decDigits b.toNat) else none:=by unfold litT;rw [if_pos rfl]
theorem litT2 (b:Int):litT 2 b=if b=1 then some [116,114,117,101] else if b=0 then some [102,97,108,115,101] else none:=by unfold litT;rw [if_neg (by decide),if_pos rfl]
theorem litT3 (b:Int):litT 3 b=if b=nanBits then some [110,97,110] else if b=infBits then some [105,110,102] else if b<signBits then realP b.toNat else none:=by unfold litT;rw [if_neg (by decide),if_neg (by decide),if_pos rfl]
theorem litT0 {ty:Int} (h1:ty≠1) (h2:ty≠2) (h3:ty≠3) (b:Int):litT ty b=none:=by unfold litT;rw [if_neg h1,if_neg h2,if_neg h3]
theorem lit3 (n:Nat):numB n=(litT 3 (n:Int)).isSome∧∀ t,litT 3 (n:Int)=some t→n<9223372036854775808∧rTp n=t:=by
 rw [litT3]
 unfold numB rTp nanBits infBits signBits
 by_cases h4:(n:Int)=9221120237041090560
 · rw [if_pos h4,if_pos h4,decide_eq_true h4]
   exact ⟨rfl,fun t ht=>⟨by omega,by injection ht⟩⟩
 · rw [if_neg h4,if_neg h4,decide_eq_false h4]
   by_cases h5:(n:Int)=9218868437227405312
   · rw [if_pos h5,if_pos h5,decide_eq_true h5]
     exact ⟨rfl,fun t ht=>⟨by omega,by injection ht⟩⟩
   · rw [if_neg h5,if_neg h5,decide_eq_false h5,Int.toNat_natCast]
     by_cases h6:(n:Int)<9223372036854775808
     · rw [if_pos h6]
       exact ⟨by simp,fun t ht=>⟨by omega,by rw [ht];rfl⟩⟩
     · rw [if_neg h6]
       refine ⟨?_,fun t ht=>by cases ht⟩
       cases h7:realP n with
       | none=>rfl
       | some t=>exact absurd (realP_bound h7).2.1 (by omega)
theorem toN_neg {n m:Nat} (hn:n<18446744073709551616) (h:¬ n<9223372036854775808) (hm:m=n - 9223372036854775808) (hx:toN n≠n):toN m=9221120237041090560:=by
 have hnm:m=negW n:=by rw [hm];unfold negW;rw [if_neg h]
 have h1:nanW n=true:=by
  rcases toN_cases n with ⟨_,h2⟩ | ⟨h2,_⟩
  · exact absurd h2 hx
  · have h3:=nanW_iff n
    cases hb:nanW n with
    | true=>rfl
    | false=>
      rw [hb] at h3
      rw [show FloatKind.f64.format.order n n=none from h2] at h3
      cases h3
 have h2:nanW m=true:=by rw [hnm,nanW_neg hn,h1]
 rcases toN_cases m with ⟨h3,_⟩ | ⟨_,h4⟩
 · have h5:=nanW_iff m
   rw [h2,show FloatKind.f64.format.order m m=some .eq from h3] at h5
   cases h5
 · exact h4
theorem lit_plain (ty:Int) (n:Nat) (hn:n<18446744073709551616):litB ty n=(litT ty (n:Int)).isSome∧∀ t,litT ty (n:Int)=some t→vTx ty n=t:=by
 by_cases h1:ty=1
 · subst h1
   rw [litT1]
   unfold litB vTx signBits
   rw [if_pos rfl,if_pos rfl]
   by_cases h:n<9223372036854775808
   · rw [decide_eq_true h,if_pos (show (n:Int)<9223372036854775808 by omega),wrap_lo h]
     exact ⟨rfl,fun t ht=>by injection ht⟩
   · rw [decide_eq_false h,if_neg (show ¬ (n:Int)<9223372036854775808 by omega)]
     exact ⟨rfl,fun t ht=>by cases ht⟩
 by_cases h2:ty=2
 · subst h2
   rw [litT2]
   unfold litB vTx
   rw [if_neg h1,if_pos rfl,if_neg h1,if_pos rfl]
   by_cases h3:(n:Int)=1
   · rw [if_pos h3,if_pos h3,decide_eq_true (by omega)]
     exact ⟨rfl,fun t ht=>by injection ht⟩
   · rw [if_neg h3,if_neg h3]
     by_cases h4:(n:Int)=0
     · rw [if_pos h4,decide_eq_true (by omega)]
       exact ⟨rfl,fun t ht=>by injection ht⟩
     · rw [if_neg h4,decide_eq_false (by omega)]
       exact ⟨rfl,fun t ht=>by cases ht⟩
 by_cases h3:ty=3
 · subst h3
   obtain ⟨g1,g2⟩:=lit3 n
   unfold litB vTx
   rw [if_neg h1,if_neg h2,if_pos rfl,if_neg h1,if_neg h2]
   refine ⟨g1,fun t ht=>?_⟩
   obtain ⟨g3,g4⟩:=g2 t ht
   unfold rTx
   rw [if_pos g3,g4]
 · rw [litT0 h1 h2 h3]
   unfold litB
   rw [if_neg h1,if_neg h2,if_neg h3]
   exact ⟨rfl,fun t ht=>by cases ht⟩
theorem fir_plain (ty:Int) (n:Nat) (hn:n<18446744073709551616):firB ty n=(valT ty (n:Int)).isSome∧∀ t,valT ty (n:Int)=some t→vTx ty n=t:=by
 by_cases h1:ty=1
 · subst h1
   unfold firB valT vTx signBits
   rw [if_pos rfl,if_pos rfl,if_pos rfl]
   by_cases h:n<9223372036854775808
   · rw [if_pos (show (n:Int)<9223372036854775808 by omega),decide_eq_false (show ¬ (n:Int)=9223372036854775808 by omega),wrap_lo h]
     exact ⟨rfl,fun t ht=>by injection ht⟩
   · rw [if_neg (show ¬ (n:Int)<9223372036854775808 by omega)]
     by_cases h4:(n:Int)=9223372036854775808
     · rw [if_pos h4,decide_eq_true h4]
       exact ⟨rfl,fun t ht=>by cases ht⟩
     · rw [if_neg h4,decide_eq_false h4,wrap_hi hn h]
       exact ⟨rfl,fun t ht=>by injection ht⟩
 have hlit:=lit_plain ty n hn
 by_cases h3:ty=3
 · subst h3
   unfold firB valT vTx
   rw [if_neg h1,if_neg (show ¬ (3:Int)=2 by decide),if_pos (show (3:Int)=3 from rfl),if_neg h1,if_pos (show (3:Int)=3 from rfl),if_neg h1,if_neg (show ¬ (3:Int)=2 by decide)]
   unfold signBits rTx
   by_cases h:n<9223372036854775808
   · rw [if_pos (show (n:Int)<9223372036854775808 by omega),if_pos h]
     obtain ⟨g1,g2⟩:=lit3 n
     refine ⟨?_,fun t ht=>(g2 t ht).2⟩
     rw [← g1,Nat.mod_eq_of_lt h]
     by_cases h4:(n:Int)=9221120237041090560
     · rw [if_pos h4]
       unfold numB nanBits
       rw [decide_eq_true h4]
       rfl
     · rw [if_neg h4]
       by_cases h5:toN n=n
       · rw [if_pos h5]
       · rw [if_neg h5]
         unfold numB nanBits infBits
         have h6:¬ (n:Int)=9218868437227405312:=fun h6=>h5 (by
          have:n=9218868437227405312:=by omega
          subst this
          decide)
         rw [decide_eq_false h4,decide_eq_false h6]
         cases h7:realP n with
         | none=>rfl
         | some t=>exact absurd (realP_bound h7).1 h5
   · rw [if_neg (show ¬ (n:Int)<9223372036854775808 by omega),if_neg h,if_neg (show ¬ (n:Int)=9221120237041090560 by omega)]
     obtain ⟨m,hm⟩:∃ m,m=n - 9223372036854775808:=⟨_,rfl⟩
     have hm1:(n:Int) - 9223372036854775808=(m:Int):=by omega
     have hm2:n % 9223372036854775808=m:=by omega
     rw [hm1,hm2,← hm]
     obtain ⟨g1,g2⟩:=lit3 m
     unfold nanBits
     by_cases h4:(m:Int)=9221120237041090560
     · rw [if_pos h4]
       refine ⟨?_,fun t ht=>by cases ht⟩
       have hmn:m=9221120237041090560:=by omega
       have hn2:n=18444492273895866368:=by omega
       have h5:¬ toN n=n:=by
        rw [hn2]
        decide
       rw [if_neg h5]
       rfl
     · rw [if_neg h4]
       by_cases h5:toN n=n
       · rw [if_pos h5,g1]
         refine ⟨by cases litT 3 (m:Int) <;> rfl,fun t ht=>?_⟩
         cases h6:litT 3 (m:Int) with
         | none=>rw [h6] at ht;cases ht
         | some t'=>
           rw [h6] at ht
           injection ht with ht
           rw [(g2 t' h6).2]
           exact ht
       · rw [if_neg h5]
         have hN:=toN_neg hn h hm h5
         have hnone:litT 3 (m:Int)=none:=by
          rw [litT3]
          unfold nanBits infBits signBits
          rw [if_neg h4]
          have h6:¬ (m:Int)=9218868437227405312:=fun h6=>by
           have hmn:m=9218868437227405312:=by omega
           rw [hmn] at hN
           exact absurd hN (by decide)
          rw [if_neg h6,if_pos (show (m:Int)<9223372036854775808 by omega),Int.toNat_natCast]
          cases h7:realP m with
          | none=>rfl
          | some t=>
            have:=(realP_bound h7).1
            rw [hN] at this
            exact absurd (show (m:Int)=9221120237041090560 by omega) h4
         rw [hnone]
         exact ⟨rfl,fun t ht=>by cases ht⟩
 · have e:valT ty (n:Int)=litT ty (n:Int):=by unfold valT;rw [if_neg h1,if_neg h3]
   rw [e]
   refine ⟨?_,hlit.2⟩
   rw [← hlit.1]
   unfold firB litB
   rw [if_neg h1,if_neg h1,if_neg h3,if_neg h3]
end Go.Proofs.YtiacalnkmnckjaaGreatDoor
end
