/- Texts of this proof, one behind the other. Conditions: those in each theorem. -/
import Derived.Test.YtinjiigdijbjeaaGreatDoorSvQ14
import Derived.Test.YtinjiigdijbjeaaGreatDoorSvQ10
import Derived.Test.YtinjiigdijbjeaaGreatDoorSvQ9
import Derived.Test.YtinjiigdijbjeaaGreatDoorSvQ13
import Derived.Test.YtinjiigdijbjeaaGreatDoorSvQ11
import Derived.Test.YtinjiigdijbjeaaGreatDoorSvQ12
set_option linter.unusedVariables false
set_option linter.unusedSimpArgs false
namespace Go.Proofs.YtinjiigdijbjeaaGreatDoor
open Go.RowKit Go.As
section
set_option maxRecDepth 100000
def vrC:List (List UInt8)→List Vl→List Value
 | n::ns,v::vs => .string (str n) :: .int .u8 v.1 :: .int .u64 v.2::vrC ns vs
 | _,_=>[]
theorem vrC_at:∀ {l1 l3:List (List UInt8)} {x:List UInt8} {vs:List Vl},(l1++x::l3).length=vs.length→∀ j v,[Value.string (str x),.int .u8 (vs.getD l1.length (0,0)).1,.int .u64 (vs.getD l1.length (0,0)).2][j]?=some v→(vrC (l1++x::l3) vs)[l1.length*3+j]?=some v
 | [],l3,x,[],h,j,v,hv=>by simp at h
 | [],l3,x,w::vs,h,j,v,hv=>by
   rcases j with _ | _ | _ | j
   · simpa [vrC] using hv
   · simpa [vrC] using hv
   · simpa [vrC] using hv
   · simp at hv
 | y::l1,l3,x,[],h,j,v,hv=>by simp at h
 | y::l1,l3,x,w::vs,h,j,v,hv=>by
   have:=vrC_at (l1:=l1) (l3:=l3) (x:=x) (vs:=vs) (by simpa using h) j v (by simpa using hv)
   rw [show (y::l1).length*3+j=(l1.length*3+j)+3 by simp;omega]
   simpa [vrC] using this
def DpAt (w:World) (sa ta:Option Addr) (k:Nat) (ns:List (List UInt8)) (vs:List Vl):Prop:=
 k=ns.length∧k=vs.length∧k≤1000000∧Sy.SlAt (·<w.heap.size) w sa k 3 (vrC ns vs)∧Sy.SlAt (·<w.heap.size) w ta 1 3 [.string (str [116]),.slice none 0 0,.slice none 0 0]
theorem DpAt.keep {w w':World} {sa ta:Option Addr} {k:Nat} {ns:List (List UInt8)} {vs:List Vl} (h:DpAt w sa ta k ns vs) (hk:Sy.Keep (·<w.heap.size) w w'):DpAt w' sa ta k ns vs:=by
 obtain ⟨h1,h2,h3,h4,h5⟩:=h
 have up:∀ j,j<w.heap.size→j<w'.heap.size:=fun j h=>Nat.lt_of_lt_of_le h hk.size
 exact ⟨h1,h2,h3,(h4.keep hk).mono up,(h5.keep hk).mono up⟩
def dvrV (ns:List (List UInt8)) (vs:List Vl) (name:List UInt8):Value := .tuple #[.agg #[.string (str (if (atN name ns).isSome then name else [])),.int .u8 (lkV ns vs name).1,.int .u64 (lkV ns vs name).2],.bool (atN name ns).isSome,.bool (atN name ns).isSome]
open Go.Sy
theorem dvar_any (ns:List (List UInt8)) (vs:List Vl) (sa ta:Option Addr) (k cS cT:Nat) (name:List UInt8) (w:World) (hdp:DpAt w sa ta k ns vs):
  CB 141 #[.agg #[.slice sa k cS,.slice none 0 0,.slice ta 1 cT],nI 0,nT name] w (dvrV ns vs name):=by
 obtain ⟨hk1,hk2,hkb,hss,hst⟩:=hdp
 refine eN [.agg #[.slice sa k cS,.slice none 0 0,.slice ta 1 cT],nI 0,nT name] Tryz.func141 (fun γ0 hγ0=>?_)
 refine rk ?_
 refine gV (.pointer (some ⟨gB ta,oB ta+0*3,none⟩)) (S:=Instr.indexAt 56 (.slice ta 1 cT) (nI 0)) (fun W _=>idx_sl (e:=55) hst (by kernel_rfl) (by kernel_rfl) (by decide) W) ?_
 refine rk ?_
 refine gL 52 (.slice none 0 0) 0 1 hst rfl ?_
 refine rk ?_
 refine good_toLp ?_
 refine good_loop (by kernel_rfl) ?_
 refine rs [] 60 1 ?_
 refine good_toLp ?_
 refine good_loopI (fun i:List (List UInt8)×List (List UInt8)=>i.2.length) (fun i=>ns=i.1++i.2∧atN name i.1=none) (fun i=>⟨mkT [(2,vT name),(3,.ptr gz 0),(6,.ptr (gz+1) 0),(11,vI (i.1.length:Int))],mkH [(gz,bK 58 3 [vL sa k cS,vL none 0 0,vL ta 1 cT]),(gz+1,bK 108 3 [vT [],v8 0,v6 0])],gz+2,[]⟩)
  ([],ns) ⟨rfl,rfl⟩ (by kernel_rfl)
  (fun h=>gU _ [(2,vT name),(3,.ptr gz 0),(6,.ptr (gz+1) 0),(11,vI (([]:List (List UInt8)).length:Int))] [(gz,bK 58 3 [vL sa k cS,vL none 0 0,vL ta 1 cT]),(gz+1,bK 108 3 [vT [],v8 0,v6 0])] (gz+2) (gA hγ0) h) ?_
 rintro ⟨l1,l2⟩ ⟨hI,hN⟩ ih
 simp only at hI hN
 have hq:k=l1.length+l2.length:=by rw [hk1,hI,List.length_append]
 refine rk ?_
 cases l2 with
 | nil=>
   refine ky (l1.length:Int) (k:Int) (by rw [hq];simp) ?_
   refine rk ?_
   have hat:atN name ns=none:=by rw [hI,List.append_nil];exact hN
   exact gR (.tuple #[.agg #[nT [],n8 0,n6 0],.bool false,.bool false]) (fun W hk=>⟨by unfold dvrV lkV;rw [hat];rfl,hk.below⟩)
 | cons x l3=>
   have hin:l1.length<k:=by rw [hq,List.length_cons];omega
   have hc:=vrC_at (l1:=l1) (l3:=l3) (x:=x) (vs:=vs) (by rw [← hI];omega)
   rw [← hI] at hc
   obtain ⟨v,hv⟩:∃ v,v=vs.getD l1.length (0,0):=⟨_,rfl⟩
   rw [← hv] at hc
   refine kx (l1.length:Int) (k:Int) (by omega) ?_
   refine rk ?_
   refine gI 52 108 cS l1.length hss hin ?_
   refine rk ?_
   refine gL 9 (nT x) l1.length 0 hss (hc 0 _ rfl) ?_
   refine rk ?_
   refine good_cond (b:=bEqL x name) (by kernel_rfl) (fun hss2=>?_) (fun hss2=>?_)
   ·
    have hx:x=name:=by rw [bEqL_eq] at hss2;simpa using hss2
    have hat:atN name ns=some l1.length:=by rw [hI,atN_app hN];unfold atN;rw [if_pos hx];simp
    have hl:lkV ns vs name=v:=by unfold lkV;rw [hat,hv]
    refine rk ?_
    refine gI 52 108 cS l1.length hss hin ?_
    refine rk ?_
    refine gD 108 3 [nT x,n8 v.1,n6 v.2] l1.length 0 hss rfl hc ?_
    refine rk ?_
    exact gR (.tuple #[.agg #[nT x,n8 v.1,n6 v.2],.bool true,.bool true]) (fun W hk=>⟨by unfold dvrV;rw [hat,hl,hx];rfl,hk.below⟩)
   ·
    have hx:¬ x=name:=by rw [bEqL_eq] at hss2;simpa using hss2
    refine rk ?_
    refine gJ 11 l1 x (by omega) ?_
    exact gU _ [(2,vT name),(3,.ptr gz 0),(6,.ptr (gz+1) 0),(11,vI ((l1++[x]).length:Int))] [(gz,bK 58 3 [vL sa k cS,vL none 0 0,vL ta 1 cT]),(gz+1,bK 108 3 [vT [],v8 0,v6 0])] (gz+2) (gA hγ0) (ih (l1++[x],l3) ⟨(by show ns=(l1++[_])++l3;rw [hI];simp),(by show atN name (l1++[x])=none;rw [atN_app hN];unfold atN;rw [if_neg hx];rfl)⟩ lS1)
theorem dty_lit (ns:List (List UInt8)) (vs:List Vl) (sa ta:Option Addr) (k cS cT:Nat) (ty bits:Int) (name:List UInt8) (a:Option Addr) (cap:Nat) (w:World):CB 87 #[.agg #[.slice sa k cS,.slice none 0 0,.slice ta 1 cT],nI 0,xV 1 ty bits name a 0 cap] w (n8 (tyD (lkV ns vs) (.mk 1 ty bits name []))):=by
 refine eN [.agg #[.slice sa k cS,.slice none 0 0,.slice ta 1 cT],nI 0,xV 1 ty bits name a 0 cap] Tryz.func87 (fun γ0 hγ0=>?_)
 refine rs [] 60 2 ?_
 exact gR (n8 ty) (fun W hk=>⟨by simp [tyD],hk.below⟩)
theorem dty_name (ns:List (List UInt8)) (vs:List Vl) (sa ta:Option Addr) (k cS cT:Nat) (ty bits:Int) (name:List UInt8) (a:Option Addr) (cap:Nat) (w:World) (hdp:DpAt w sa ta k ns vs):CB 87 #[.agg #[.slice sa k cS,.slice none 0 0,.slice ta 1 cT],nI 0,xV 2 ty bits name a 0 cap] w (n8 (tyD (lkV ns vs) (.mk 2 ty bits name []))):=by
 refine eN [.agg #[.slice sa k cS,.slice none 0 0,.slice ta 1 cT],nI 0,xV 2 ty bits name a 0 cap] Tryz.func87 (fun γ0 hγ0=>?_)
 refine rs [] 60 2 ?_
 refine gX [.agg #[.slice sa k cS,.slice none 0 0,.slice ta 1 cT],nI 0,nT name] (dvrV ns vs name) (fun W hk=>dvar_any ns vs sa ta k cS cT name W (hdp.keep hk)) ?_
 refine rk ?_
 exact gR (n8 (lkV ns vs name).1) (fun W hk=>⟨by simp [tyD],hk.below⟩)
set_option maxHeartbeats 4000000 in
theorem dty_tail1 (op y1:Int) (hop:16≤op∧op≤19) (hg1:y1=0∨y1=1∨y1=2∨y1=3) (ty bits:Int) (name:List UInt8) (a:Option Addr) (cap:Nat) (B2:Nat→Prop) (w2:World) (γ1:Gm) {R:Ending→World→Prop} (hfin:∀ r W,Keep B2 w2 W→r = .returned (n8 (tyK op [y1]))→R r W):
  Go.Sy.Good Tryz.prog B2 w2 γ1 Tryz.f87.ntmps (bodyPostD Tryz.prog Tryz.f87 R) ⟨[.code (seqR (seqR (seqR (seqR (seqR (Tryz.f87.body.getD .skip))))))],⟨mkT [(5,.ptr (gz+1) 0),(10,.slg (gz+3) 0 1 1)],mkH [(gz+1,some (.cells 29 false true true 5 (putL .leaf 0 (xA op ty bits name a 1 cap)))),((gz+3),some (.cells 23 true true false 1 (putL .leaf 0 [v8 y1])))],gz+20,[]⟩⟩:=by
 have ho:op=16∨op=17∨op=18∨op=19:=by omega
 rcases ho with rfl | rfl | rfl | rfl <;> rcases hg1 with rfl | rfl | rfl | rfl
 all_goals
  refine rs [] 300 60 ?_
  exact gR (n8 (tyK _ [_])) (fun W hk=>hfin _ W hk rfl)
set_option maxHeartbeats 4000000 in
theorem dty_tail2 (op y1 y2:Int) (hop:3≤op∧op≤15) (hg1:y1=0∨y1=1∨y1=2∨y1=3) (hg2:y2=0∨y2=1∨y2=2∨y2=3) (ty bits:Int) (name:List UInt8) (a:Option Addr) (cap:Nat) (B2:Nat→Prop) (w2:World) (γ1:Gm) {R:Ending→World→Prop} (hfin:∀ r W,Keep B2 w2 W→r = .returned (n8 (tyK op [y1,y2]))→R r W):
  Go.Sy.Good Tryz.prog B2 w2 γ1 Tryz.f87.ntmps (bodyPostD Tryz.prog Tryz.f87 R) ⟨[.code (seqR (seqR (seqR (seqR (seqR (Tryz.f87.body.getD .skip))))))],⟨mkT [(5,.ptr (gz+1) 0),(10,.slg (gz+5) 0 2 1)],mkH [(gz+1,some (.cells 29 false true true 5 (putL .leaf 0 (xA op ty bits name a 2 cap)))),((gz+5),some (.cells 23 true true false 2 (putL .leaf 0 [v8 y1,v8 y2])))],gz+20,[]⟩⟩:=by
 have ho:op=3∨op=4∨op=5∨op=6∨op=7∨op=8∨op=9∨op=10∨op=11∨op=12∨op=13∨op=14∨op=15:=by omega
 rcases ho with rfl | rfl | rfl | rfl | rfl | rfl | rfl | rfl | rfl | rfl | rfl | rfl | rfl <;> rcases hg1 with rfl | rfl | rfl | rfl <;> rcases hg2 with rfl | rfl | rfl | rfl
 all_goals
  refine rs [] 300 60 ?_
  exact gR (n8 (tyK _ [_,_])) (fun W hk=>hfin _ W hk rfl)
theorem dty_1 (ns:List (List UInt8)) (vs:List Vl) (sa ta:Option Addr) (k cS cT:Nat) (N:Nat) (ihN:∀ (e:Ex) (cs:List Value) (w:World) (t:List UInt8),wgt e≤N→exT e=some t→(∀ s∈nmE e,vlG (lkV ns vs s))→ExAt (·<w.heap.size) w e cs→DpAt w sa ta k ns vs→
  CB 87 #[.agg #[.slice sa k cS,.slice none 0 0,.slice ta 1 cT],nI 0,.agg cs.toArray] w (n8 (tyD (lkV ns vs) e)))
  (op ty bits:Int) (name:List UInt8) (op1 ty1 bits1:Int) (name1:List UInt8) (kids1:List Ex) (t1:List UInt8) (ht1:exT (Ex.mk op1 ty1 bits1 name1 kids1)=some t1) (hw1:wgt (Ex.mk op1 ty1 bits1 name1 kids1)≤N) (hns1:∀ s∈nmE (Ex.mk op1 ty1 bits1 name1 kids1),vlG (lkV ns vs s)) (a:Option Addr) (cap:Nat) (xs:List Value) (w:World) (hop:16≤op∧op≤19) (hdp:DpAt w sa ta k ns vs)
  (hsl:SlAt (·<w.heap.size) w a 1 5 xs) (hks:ExsAt (·<w.heap.size) w [(Ex.mk op1 ty1 bits1 name1 kids1)] xs):
  CB 87 #[.agg #[.slice sa k cS,.slice none 0 0,.slice ta 1 cT],nI 0,xV op ty bits name a 1 cap] w (n8 (tyD (lkV ns vs) (.mk op ty bits name [(Ex.mk op1 ty1 bits1 name1 kids1)]))):=by
 have c1:¬ op=1:=by omega
 have c2:¬ op=2:=by omega
 obtain ⟨c1,hc1,hcell1⟩:=ExsAt.at_ (l1:=([]:List Ex)) (e:=(Ex.mk op1 ty1 bits1 name1 kids1)) (l3:=[]) hks
 have hcl1:=hc1.len
 have hc10:=hc1
 simp only [ExAt] at hc10
 obtain ⟨a1,cap1,xs1,rfl,_⟩:=hc10
 have hi1:=fun (W:World) (hk:Keep (·<w.heap.size) w W)=>ihN (Ex.mk op1 ty1 bits1 name1 kids1) _ W t1 hw1 ht1 hns1 (hc1.keep hk (kU hk)) (hdp.keep hk)
 have hg1:tyD (lkV ns vs) (Ex.mk op1 ty1 bits1 name1 kids1)=0∨tyD (lkV ns vs) (Ex.mk op1 ty1 bits1 name1 kids1)=1∨tyD (lkV ns vs) (Ex.mk op1 ty1 bits1 name1 kids1)=2∨tyD (lkV ns vs) (Ex.mk op1 ty1 bits1 name1 kids1)=3:=by
  by_cases h:tyD (lkV ns vs) (Ex.mk op1 ty1 bits1 name1 kids1)=0
  · exact .inl h
  · exact .inr (ty_good (lkV ns vs) _ _ t1 (Nat.le_refl _) ht1 hns1 h)
 rw [tyD_kids c1 c2]
 simp only [tyDs]
 generalize tyD (lkV ns vs) (Ex.mk op1 ty1 bits1 name1 kids1)=y1 at hi1 hg1 ⊢
 refine eN [.agg #[.slice sa k cS,.slice none 0 0,.slice ta 1 cT],nI 0,xV op ty bits name a 1 cap] Tryz.func87 (fun γ0 hγ0=>?_)
 have hγ0:∀ b,gz≤b→γ0 b=none:=hγ0
 refine rk ?_
 refine kw op 1 c1 ?_
 refine rk ?_
 refine kw op 2 c2 ?_
 refine good_lock [gz,gz+1] (gz+2) (by kernel_rfl) (fun b hb=>hγ0 b (by omega)) ?_
 intro γ1 B2 w2 hle1 hγ1 hB12 hB2 hk12 hLk
 have hL2:∀ b,hasNat b [gz,gz+1]=true→∃ p,γ1 b=some p∧B2 p.1:=fun b hb=>let ⟨p,h1,h2,_⟩:=hLk b hb;⟨p,h1,h2⟩
 have hsl2:SlAt B2 w2 a 1 5 xs:=(hsl.keep hk12).mono hB12
 refine rk ?_
 refine good_toLp ?_
 refine good_loop (by kernel_rfl) ?_
 refine rs [] 60 1 ?_
 refine good_plan sy_mixed (.take 0 (.take 1 (.take 2 (.take 3 (.take 4 (.take 5 (.take 6 (.take 7 (.run 8 (.run 9 (.run 10 .done))))))))))) 11 (by kernel_rfl) ?_
 refine p_takes [gz,gz+1] 6 (Bs:=B2) (ws:=w2) (by kernel_rfl) (fun _ h=>h) hL2 ?_
 refine p_val (.pointer (some ⟨gB a,oB a+0*5,none⟩)) (S:=Instr.indexAt 27 (.slice a 1 cap) (nI 0)) (by kernel_rfl) (Bs:=B2) (ws:=w2) (by kernel_rfl) (fun _ h=>h) (fun W _=>idx_sl (e:=29) hsl2 (by kernel_rfl) (by kernel_rfl) (by decide) W) ?_
 refine p_val (xV op1 ty1 bits1 name1 a1 kids1.length cap1) (S:=Instr.loadAt 29 (.pointer (some ⟨gB a,oB a+0*5+0,none⟩))) (by kernel_rfl) (Bs:=B2) (ws:=w2) (by kernel_rfl) (fun _ h=>h) (fun W hk=>load_slA (P:=Tryz.prog) (ty:=29) (m:=5) (cs:=(xL op1 ty1 bits1 name1 a1 kids1.length cap1)) hsl2 (by kernel_rfl) (by kernel_rfl) 0 0 hcl1 hcell1 (W:=W) hk) ?_
 refine pR (Keep B2 w2) (fun _ h=>h) ?_
 refine gX [.agg #[.slice sa k cS,.slice none 0 0,.slice ta 1 cT],nI 0,xV op1 ty1 bits1 name1 a1 kids1.length cap1] (n8 y1) (fun W hk=>hi1 W (hk12.trans (hk.mono hB12))) ?_
 refine rk ?_
 refine pR (Keep B2 w2) (fun _ h=>h) ?_
 refine rk ?_
 refine pR (Keep B2 w2) (fun _ h=>h) ?_
 refine rk ?_
 refine p_done (by kernel_rfl) ?_ (Keep B2 w2) (by kernel_rfl) (fun _ h=>h)
 refine rk ?_
 refine good_loop (by kernel_rfl) ?_
 refine rs [] 11 1 ?_
 refine gU [.code (seqR (seqR (seqR (seqR (seqR (Tryz.f87.body.getD .skip))))))] [(5,.ptr (gz+1) 0),(10,.slg (gz+3) 0 1 1)] [(gz+1,some (.cells 29 false true true 5 (putL .leaf 0 (xA op ty bits name a 1 cap)))),((gz+3),some (.cells 23 true true false 1 (putL .leaf 0 [v8 y1])))] (gz+20) (fun b hb=>hγ1 b (by omega)) ?_
 exact dty_tail1 op y1 (by omega) hg1 ty bits name a cap B2 w2 γ1 (fun r W hk h=>⟨h,(hk12.trans (hk.mono hB12)).below⟩)
theorem dty_2 (ns:List (List UInt8)) (vs:List Vl) (sa ta:Option Addr) (k cS cT:Nat) (N:Nat) (ihN:∀ (e:Ex) (cs:List Value) (w:World) (t:List UInt8),wgt e≤N→exT e=some t→(∀ s∈nmE e,vlG (lkV ns vs s))→ExAt (·<w.heap.size) w e cs→DpAt w sa ta k ns vs→
  CB 87 #[.agg #[.slice sa k cS,.slice none 0 0,.slice ta 1 cT],nI 0,.agg cs.toArray] w (n8 (tyD (lkV ns vs) e)))
  (op ty bits:Int) (name:List UInt8) (op1 ty1 bits1:Int) (name1:List UInt8) (kids1:List Ex) (t1:List UInt8) (ht1:exT (Ex.mk op1 ty1 bits1 name1 kids1)=some t1) (hw1:wgt (Ex.mk op1 ty1 bits1 name1 kids1)≤N) (hns1:∀ s∈nmE (Ex.mk op1 ty1 bits1 name1 kids1),vlG (lkV ns vs s)) (op2 ty2 bits2:Int) (name2:List UInt8) (kids2:List Ex) (t2:List UInt8) (ht2:exT (Ex.mk op2 ty2 bits2 name2 kids2)=some t2) (hw2:wgt (Ex.mk op2 ty2 bits2 name2 kids2)≤N) (hns2:∀ s∈nmE (Ex.mk op2 ty2 bits2 name2 kids2),vlG (lkV ns vs s)) (a:Option Addr) (cap:Nat) (xs:List Value) (w:World) (hop:3≤op∧op≤15) (hdp:DpAt w sa ta k ns vs)
  (hsl:SlAt (·<w.heap.size) w a 2 5 xs) (hks:ExsAt (·<w.heap.size) w [(Ex.mk op1 ty1 bits1 name1 kids1),(Ex.mk op2 ty2 bits2 name2 kids2)] xs):
  CB 87 #[.agg #[.slice sa k cS,.slice none 0 0,.slice ta 1 cT],nI 0,xV op ty bits name a 2 cap] w (n8 (tyD (lkV ns vs) (.mk op ty bits name [(Ex.mk op1 ty1 bits1 name1 kids1),(Ex.mk op2 ty2 bits2 name2 kids2)]))):=by
 have c1:¬ op=1:=by omega
 have c2:¬ op=2:=by omega
 obtain ⟨c1,hc1,hcell1⟩:=ExsAt.at_ (l1:=([]:List Ex)) (e:=(Ex.mk op1 ty1 bits1 name1 kids1)) (l3:=[(Ex.mk op2 ty2 bits2 name2 kids2)]) hks
 have hcl1:=hc1.len
 have hc10:=hc1
 simp only [ExAt] at hc10
 obtain ⟨a1,cap1,xs1,rfl,_⟩:=hc10
 have hi1:=fun (W:World) (hk:Keep (·<w.heap.size) w W)=>ihN (Ex.mk op1 ty1 bits1 name1 kids1) _ W t1 hw1 ht1 hns1 (hc1.keep hk (kU hk)) (hdp.keep hk)
 have hg1:tyD (lkV ns vs) (Ex.mk op1 ty1 bits1 name1 kids1)=0∨tyD (lkV ns vs) (Ex.mk op1 ty1 bits1 name1 kids1)=1∨tyD (lkV ns vs) (Ex.mk op1 ty1 bits1 name1 kids1)=2∨tyD (lkV ns vs) (Ex.mk op1 ty1 bits1 name1 kids1)=3:=by
  by_cases h:tyD (lkV ns vs) (Ex.mk op1 ty1 bits1 name1 kids1)=0
  · exact .inl h
  · exact .inr (ty_good (lkV ns vs) _ _ t1 (Nat.le_refl _) ht1 hns1 h)
 obtain ⟨c2,hc2,hcell2⟩:=ExsAt.at_ (l1:=[(Ex.mk op1 ty1 bits1 name1 kids1)]) (e:=(Ex.mk op2 ty2 bits2 name2 kids2)) (l3:=[]) hks
 have hcl2:=hc2.len
 have hc20:=hc2
 simp only [ExAt] at hc20
 obtain ⟨a2,cap2,xs2,rfl,_⟩:=hc20
 have hi2:=fun (W:World) (hk:Keep (·<w.heap.size) w W)=>ihN (Ex.mk op2 ty2 bits2 name2 kids2) _ W t2 hw2 ht2 hns2 (hc2.keep hk (kU hk)) (hdp.keep hk)
 have hg2:tyD (lkV ns vs) (Ex.mk op2 ty2 bits2 name2 kids2)=0∨tyD (lkV ns vs) (Ex.mk op2 ty2 bits2 name2 kids2)=1∨tyD (lkV ns vs) (Ex.mk op2 ty2 bits2 name2 kids2)=2∨tyD (lkV ns vs) (Ex.mk op2 ty2 bits2 name2 kids2)=3:=by
  by_cases h:tyD (lkV ns vs) (Ex.mk op2 ty2 bits2 name2 kids2)=0
  · exact .inl h
  · exact .inr (ty_good (lkV ns vs) _ _ t2 (Nat.le_refl _) ht2 hns2 h)
 rw [tyD_kids c1 c2]
 simp only [tyDs]
 generalize tyD (lkV ns vs) (Ex.mk op1 ty1 bits1 name1 kids1)=y1 at hi1 hg1 ⊢
 generalize tyD (lkV ns vs) (Ex.mk op2 ty2 bits2 name2 kids2)=y2 at hi2 hg2 ⊢
 refine eN [.agg #[.slice sa k cS,.slice none 0 0,.slice ta 1 cT],nI 0,xV op ty bits name a 2 cap] Tryz.func87 (fun γ0 hγ0=>?_)
 have hγ0:∀ b,gz≤b→γ0 b=none:=hγ0
 refine rk ?_
 refine kw op 1 c1 ?_
 refine rk ?_
 refine kw op 2 c2 ?_
 refine good_lock [gz,gz+1] (gz+2) (by kernel_rfl) (fun b hb=>hγ0 b (by omega)) ?_
 intro γ1 B2 w2 hle1 hγ1 hB12 hB2 hk12 hLk
 have hL2:∀ b,hasNat b [gz,gz+1]=true→∃ p,γ1 b=some p∧B2 p.1:=fun b hb=>let ⟨p,h1,h2,_⟩:=hLk b hb;⟨p,h1,h2⟩
 have hsl2:SlAt B2 w2 a 2 5 xs:=(hsl.keep hk12).mono hB12
 refine rk ?_
 refine good_toLp ?_
 refine good_loop (by kernel_rfl) ?_
 refine rs [] 60 1 ?_
 refine good_plan sy_mixed (.take 0 (.take 1 (.take 2 (.take 3 (.take 4 (.take 5 (.take 6 (.take 7 (.run 8 (.run 9 (.run 10 .done))))))))))) 11 (by kernel_rfl) ?_
 refine p_takes [gz,gz+1] 6 (Bs:=B2) (ws:=w2) (by kernel_rfl) (fun _ h=>h) hL2 ?_
 refine p_val (.pointer (some ⟨gB a,oB a+0*5,none⟩)) (S:=Instr.indexAt 27 (.slice a 2 cap) (nI 0)) (by kernel_rfl) (Bs:=B2) (ws:=w2) (by kernel_rfl) (fun _ h=>h) (fun W _=>idx_sl (e:=29) hsl2 (by kernel_rfl) (by kernel_rfl) (by decide) W) ?_
 refine p_val (xV op1 ty1 bits1 name1 a1 kids1.length cap1) (S:=Instr.loadAt 29 (.pointer (some ⟨gB a,oB a+0*5+0,none⟩))) (by kernel_rfl) (Bs:=B2) (ws:=w2) (by kernel_rfl) (fun _ h=>h) (fun W hk=>load_slA (P:=Tryz.prog) (ty:=29) (m:=5) (cs:=(xL op1 ty1 bits1 name1 a1 kids1.length cap1)) hsl2 (by kernel_rfl) (by kernel_rfl) 0 0 hcl1 hcell1 (W:=W) hk) ?_
 refine pR (Keep B2 w2) (fun _ h=>h) ?_
 refine gX [.agg #[.slice sa k cS,.slice none 0 0,.slice ta 1 cT],nI 0,xV op1 ty1 bits1 name1 a1 kids1.length cap1] (n8 y1) (fun W hk=>hi1 W (hk12.trans (hk.mono hB12))) ?_
 refine rk ?_
 refine pR (Keep B2 w2) (fun _ h=>h) ?_
 refine rk ?_
 refine pR (Keep B2 w2) (fun _ h=>h) ?_
 refine rk ?_
 refine p_done (by kernel_rfl) ?_ (Keep B2 w2) (by kernel_rfl) (fun _ h=>h)
 refine rk ?_
 refine good_loop (by kernel_rfl) ?_
 refine rs [] 60 1 ?_
 refine good_plan sy_mixed (.take 0 (.take 1 (.take 2 (.take 3 (.take 4 (.take 5 (.take 6 (.take 7 (.run 8 (.run 9 (.run 10 .done))))))))))) 11 (by kernel_rfl) ?_
 refine p_takes [gz,gz+1] 6 (Bs:=B2) (ws:=w2) (by kernel_rfl) (fun _ h=>h) hL2 ?_
 refine p_val (.pointer (some ⟨gB a,oB a+1*5,none⟩)) (S:=Instr.indexAt 27 (.slice a 2 cap) (nI 1)) (by kernel_rfl) (Bs:=B2) (ws:=w2) (by kernel_rfl) (fun _ h=>h) (fun W _=>idx_sl (e:=29) hsl2 (by kernel_rfl) (by kernel_rfl) (by decide) W) ?_
 refine p_val (xV op2 ty2 bits2 name2 a2 kids2.length cap2) (S:=Instr.loadAt 29 (.pointer (some ⟨gB a,oB a+1*5+0,none⟩))) (by kernel_rfl) (Bs:=B2) (ws:=w2) (by kernel_rfl) (fun _ h=>h) (fun W hk=>load_slA (P:=Tryz.prog) (ty:=29) (m:=5) (cs:=(xL op2 ty2 bits2 name2 a2 kids2.length cap2)) hsl2 (by kernel_rfl) (by kernel_rfl) 1 0 hcl2 hcell2 (W:=W) hk) ?_
 refine pR (Keep B2 w2) (fun _ h=>h) ?_
 refine gX [.agg #[.slice sa k cS,.slice none 0 0,.slice ta 1 cT],nI 0,xV op2 ty2 bits2 name2 a2 kids2.length cap2] (n8 y2) (fun W hk=>hi2 W (hk12.trans (hk.mono hB12))) ?_
 refine rk ?_
 refine pR (Keep B2 w2) (fun _ h=>h) ?_
 refine rk ?_
 refine pR (Keep B2 w2) (fun _ h=>h) ?_
 refine rk ?_
 refine p_done (by kernel_rfl) ?_ (Keep B2 w2) (by kernel_rfl) (fun _ h=>h)
 refine rk ?_
 refine good_loop (by kernel_rfl) ?_
 refine rs [] 11 1 ?_
 refine gU [.code (seqR (seqR (seqR (seqR (seqR (Tryz.f87.body.getD .skip))))))] [(5,.ptr (gz+1) 0),(10,.slg (gz+5) 0 2 1)] [(gz+1,some (.cells 29 false true true 5 (putL .leaf 0 (xA op ty bits name a 2 cap)))),((gz+5),some (.cells 23 true true false 2 (putL .leaf 0 [v8 y1,v8 y2])))] (gz+20) (fun b hb=>hγ1 b (by omega)) ?_
 exact dty_tail2 op y1 y2 (by omega) hg1 hg2 ty bits name a cap B2 w2 γ1 (fun r W hk h=>⟨h,(hk12.trans (hk.mono hB12)).below⟩)
theorem dtypeof_any (ns:List (List UInt8)) (vs:List Vl) (sa ta:Option Addr) (k cS cT:Nat):∀ (N:Nat),∀ (e:Ex) (cs:List Value) (w:World) (t:List UInt8),wgt e≤N→exT e=some t→(∀ s∈nmE e,vlG (lkV ns vs s))→ExAt (·<w.heap.size) w e cs→DpAt w sa ta k ns vs→
  CB 87 #[.agg #[.slice sa k cS,.slice none 0 0,.slice ta 1 cT],.int .i64 0,.agg cs.toArray] w (.int .u8 (tyD (lkV ns vs) e)):=by
 intro N
 induction N with
 | zero=>intro e cs w t h;have:=wgt_pos e;omega
 | succ N ihN=>
   intro e cs w t hN ht hns hat hdp
   obtain ⟨op,ty,bits,name,kids⟩:=e
   simp only [ExAt] at hat
   obtain ⟨a,cap,xs,rfl,hsl,hks⟩:=hat
   simp only [wgt] at hN
   have one:∀ (x:Ex) (tx:List UInt8),16≤op∧op≤19→kids=[x]→exT x=some tx→CB 87 #[.agg #[.slice sa k cS,.slice none 0 0,.slice ta 1 cT],.int .i64 0,.agg [.int .u8 op,.int .u8 ty,.int .u64 bits,.string (str name),.slice a kids.length cap].toArray] w (.int .u8 (tyD (lkV ns vs) (.mk op ty bits name kids))):=fun x tx hop hk hx=>by
    subst hk
    have hn1:∀ s∈nmE x,vlG (lkV ns vs s):=fun s hs=>hns s (nm_kid (by simp) hs)
    obtain ⟨op1,ty1,bits1,name1,kids1⟩:=x
    simp only [wgts] at hN
    exact dty_1 ns vs sa ta k cS cT N ihN op ty bits name op1 ty1 bits1 name1 kids1 tx hx (by omega) hn1 a cap xs w hop hdp hsl hks
   rcases exT_inv ht with ⟨h1,h2,h3⟩ | ⟨h1,h2,h3⟩ | ⟨h1,x,tx,h2,h3,h4⟩ | ⟨h1,x,tx,h2,h3,h4⟩ | ⟨h1,x,tx,h2,h3,h4⟩ | ⟨h1,x,tx,h2,h3,h4⟩ | ⟨h1,x,y,tx,tY,h2,h3,h4,h5⟩
   · subst h1 h2
     exact dty_lit ns vs sa ta k cS cT ty bits name a cap w
   · subst h1 h2
     exact dty_name ns vs sa ta k cS cT ty bits name a cap w hdp
   · exact one x tx (by omega) h2 h3
   · exact one x tx (by omega) h2 h3
   · exact one x tx (by omega) h2 h3
   · exact one x tx (by omega) h2 h3
   · subst h2
     have hn1:∀ s∈nmE x,vlG (lkV ns vs s):=fun s hs=>hns s (nm_kid (by simp) hs)
     have hn2:∀ s∈nmE y,vlG (lkV ns vs s):=fun s hs=>hns s (nm_kid (by simp) hs)
     obtain ⟨op1,ty1,bits1,name1,kids1⟩:=x
     obtain ⟨op2,ty2,bits2,name2,kids2⟩:=y
     simp only [wgts] at hN
     exact dty_2 ns vs sa ta k cS cT N ihN op ty bits name op1 ty1 bits1 name1 kids1 tx h3 (by omega) hn1 op2 ty2 bits2 name2 kids2 tY h4 (by omega) hn2 a cap xs w (by omega) hdp hsl hks
end
section
set_option maxRecDepth 100000
structure VrI where
 l1:List (List UInt8)
 l2:List (List UInt8)
 v1:List Vl
 v2:List Vl
 X:Sy.AV
 ob:Option Sy.Blk
theorem vrC_len:∀ {l:List (List UInt8)} {v:List Vl},l.length=v.length→(vrC l v).length=l.length*3
 | [],v,h=>by simp [vrC]
 | x::l,[],h=>by simp at h
 | x::l,y::v,h=>by
   simp only [vrC,List.length_cons]
   rw [vrC_len (by simpa using h)]
   omega
theorem vrC_snoc {x:List UInt8} {y:Vl}:∀ {l:List (List UInt8)} {v:List Vl},l.length=v.length→vrC (l++[x]) (v++[y])=vrC l v++[.string (str x),.int .u8 y.1,.int .u64 y.2]
 | [],[],h=>rfl
 | [],y::v,h=>by simp at h
 | z::l,[],h=>by simp at h
 | z::l,y::v,h=>by
   simp only [List.cons_append,vrC]
   rw [vrC_snoc (by simpa using h)]
open Go.Sy
theorem dtyped_any (ns:List (List UInt8)) (vs:List Vl) (sa ta:Option Addr) (k cS cT:Nat) (e:Ex) (cs:List Value) (w:World) (t:List UInt8) (ht:exT e=some t) (hns:∀ s∈nmE e,vlG (lkV ns vs s)) (hat:ExAt (·<w.heap.size) w e cs) (hdp:DpAt w sa ta k ns vs):
  CB 45 #[.agg #[.slice sa k cS,.slice none 0 0,.slice ta 1 cT],nI 0,.agg cs.toArray] w (n8 (tyD (lkV ns vs) e)):=by
 obtain ⟨op,ty,bits,name,kids⟩:=e
 have hat0:=hat
 simp only [ExAt] at hat0
 obtain ⟨a,cap,xs,rfl,_,_⟩:=hat0
 refine eN [.agg #[.slice sa k cS,.slice none 0 0,.slice ta 1 cT],nI 0,xV op ty bits name a kids.length cap] Tryz.func45 (fun γ0 hγ0=>?_)
 refine rk ?_
 refine gX [.agg #[.slice sa k cS,.slice none 0 0,.slice ta 1 cT],nI 0,xV op ty bits name a kids.length cap] (n8 (tyD (lkV ns vs) (Ex.mk op ty bits name kids))) (fun W hk=>dtypeof_any ns vs sa ta k cS cT _ (Ex.mk op ty bits name kids) (xL op ty bits name a kids.length cap) W t (Nat.le_refl _) ht hns (hat.keep hk (kU hk)) (hdp.keep hk)) ?_
 refine rk ?_
 exact gR (n8 (tyD (lkV ns vs) (Ex.mk op ty bits name kids))) (fun W hk=>⟨rfl,hk.below⟩)
theorem dstyped_any (ns:List (List UInt8)) (vs:List Vl) (na va:Option Addr) (k nc vc:Nat) (e:Ex) (cs:List Value) (w:World) (t:List UInt8) (ht:exT e=some t) (hns:∀ s∈nmE e,vlG (lkV ns vs s)) (hat:ExAt (·<w.heap.size) w e cs) (hnv:NvAt w na va k ns vs):
  CB 23 #[.agg #[.slice na k nc,.slice va k vc],.agg cs.toArray] w (n8 (tyD (lkV ns vs) e)):=by
 obtain ⟨op,ty,bits,name,kids⟩:=e
 have hat0:=hat
 simp only [ExAt] at hat0
 obtain ⟨a,cap,xs,rfl,_,_⟩:=hat0
 obtain ⟨hk1,hk2,hkb,hsn,vx,hsv,hlv⟩:=hnv
 refine eN [.agg #[.slice na k nc,.slice va k vc],xV op ty bits name a kids.length cap] Tryz.func23 (fun γ0 hγ0=>?_)
 have hγ0:∀ b,gz≤b→γ0 b=none:=hγ0
 refine rs [9] 60 0 ?_
 refine good_giveC 8 (gz+2) 55 3 1 [nT [116],.slice none 0 0,.slice none 0 0] (by kernel_rfl) (by kernel_rfl) rfl (fun kt cT w1 B1 hk01 hB01 hB1 hst=>?_)
 refine good_lock [gz,gz+1] (gz+2) (by kernel_rfl) (fun b hb=>hγ0 b (by omega)) ?_
 intro γ1 B2 w2 hle1 hγ1 hB12 hB2 hk12 hLk
 have hL2:∀ b,hasNat b [gz,gz+1]=true→∃ p,γ1 b=some p∧B2 p.1:=fun b hb=>let ⟨p,h1,h2,_⟩:=hLk b hb;⟨p,h1,h2⟩
 have hN2:WkI w B2 w2:=⟨hk01.trans (hk12.mono hB01),fun j h=>hB12 j (hB01 j h),hB2⟩
 have hst2:SlAt B2 w2 (some ⟨kt,0,none⟩) 1 3 [nT [116],.slice none 0 0,.slice none 0 0]:=(hst.keep hk12).mono hB12
 refine rk ?_
 refine good_toLp ?_
 refine good_loopB (fun i:VrI=>i.l2.length) (fun i B w1=>ns=i.l1++i.l2∧vs=i.v1++i.v2∧i.l1.length=i.v1.length∧RowAt 108 3 (gz+4) i.l1.length (vrC i.l1 i.v1) i.X i.ob∧WkI w B w1∧Keep B2 w2 w1∧∀ j,B2 j→B j) (fun i=>⟨mkT [(2,.ptr gz 0),(3,.ptr (gz+1) 0),(5,.ptr (gz+3) 0),(6,vI (i.l1.length:Int))],mkH [(gz,some (.cells 67 false true true 2 (putL .leaf 0 [vL na k nc,vL va k vc]))),(gz+1,some (.cells 29 false true true 5 (putL .leaf 0 (xA op ty bits name a kids.length cap)))),((gz+3),bK 58 3 [i.X,vL none 0 0,vL (some ⟨kt,0,none⟩) 1 cT]),((gz+4),i.ob)],gz+5,[]⟩)
  ⟨[],ns,[],vs,vL none 0 0,none⟩ ⟨rfl,rfl,rfl,RowAt.nil _ _ _,hN2,Keep.refl _ _,fun j h=>h⟩ (by kernel_rfl)
  (fun h=>good_sub _ [(2,.ptr gz 0),(3,.ptr (gz+1) 0),(5,.ptr (gz+3) 0),(6,vI (([]:List (List UInt8)).length:Int))] [(gz,some (.cells 67 false true true 2 (putL .leaf 0 [vL na k nc,vL va k vc]))),(gz+1,some (.cells 29 false true true 5 (putL .leaf 0 (xA op ty bits name a kids.length cap)))),((gz+3),bK 58 3 [vL none 0 0,vL none 0 0,vL (some ⟨kt,0,none⟩) 1 cT]),((gz+4),none)] (gz+5) rfl (by kernel_rfl) (by kernel_rfl) (allLtT_cons (by kernel_rfl) (allLtT_cons (by kernel_rfl) (allLtT_cons (by kernel_rfl) (allLtT_cons (by kernel_rfl) rfl)))) (by kernel_rfl) (allLtH_cons (by kernel_rfl) (by kernel_rfl) (allLtH_cons (by kernel_rfl) (by kernel_rfl) (allLtH_cons (by kernel_rfl) (by kernel_rfl) (allLtH_cons (by kernel_rfl) (by kernel_rfl) rfl)))) (fun b hb=>hγ1 b (by omega)) (by kernel_rfl) h) ?_
 rintro ⟨l1,l2,v1,v2,X,ob⟩ B5 w5 ⟨hI,hV,hlv1,hrow,hN5,hk25,hB25⟩ ih
 simp only at hI hV hlv1 hrow
 have hN:WkI w B5 w5:=hN5
 clear hN5
 have hq:k=l1.length+l2.length:=by rw [hk1,hI,List.length_append]
 have hq2:k=v1.length+v2.length:=by rw [hk2,hV,List.length_append]
 refine rk ?_
 cases l2 with
 | nil=>
   have hl1:l1=ns:=by rw [hI];simp
   have hv20:v2=[]:=List.eq_nil_of_length_eq_zero (by simp only [List.length_nil] at hq;omega)
   have hv1:v1=vs:=by rw [hV,hv20];simp
   have hn3:k=l1.length:=by rw [hq];simp
   refine ky (l1.length:Int) (k:Int) (by omega) ?_
   rcases hrow.2 with ⟨hX,hob,h0⟩ | ⟨hX,hob⟩
   ·
    subst hX hob
    obtain rfl:k=0:=by omega
    have hkW:=fun (W:World) (hk:Keep B5 w5 W)=>hN.to ((Keep.refl B5 w5).trans (hk.mono (fun j h=>h)))
    have hdp:∀ W,Keep B5 w5 W→DpAt W (none) (some ⟨kt,0,none⟩) 0 ns vs:=fun W hk=>by
     have up:∀ j,B5 j→j<W.heap.size:=fun j h=>Nat.lt_of_lt_of_le (hN.lt j h) hk.size
     exact ⟨hk1,hk2,hkb,⟨by rw [← hl1,← hv1,vrC_len hlv1];omega,.inl rfl⟩,((hst2.keep (hk25.trans (((Keep.refl B5 w5).trans (hk.mono (fun j h=>h))).mono hB25))).mono fun j h=>up j ((fun j h=>h) j (hB25 j h)))⟩
    refine rk ?_
    refine gX [.agg #[.slice (none) 0 0,.slice none 0 0,.slice (some ⟨kt,0,none⟩) 1 cT],nI 0,xV op ty bits name a kids.length cap] (n8 (tyD (lkV ns vs) (Ex.mk op ty bits name kids))) (fun W hk=>dtyped_any ns vs (none) (some ⟨kt,0,none⟩) 0 0 cT (Ex.mk op ty bits name kids) (xL op ty bits name a kids.length cap) W t ht hns (hat.keep (hkW W hk) fun j h=>Nat.lt_of_lt_of_le h (hkW W hk).size) (hdp W hk)) ?_
    refine rk ?_
    exact gR (n8 (tyD (lkV ns vs) (Ex.mk op ty bits name kids))) (fun W hk=>⟨rfl,(hkW W hk).below⟩)
   ·
    subst hX hob
    refine good_giveB (gz+3) 0 (gz+4) 108 3 l1.length (vrC l1 v1) (by kernel_rfl) (by kernel_rfl) hrow.1 (fun kr rcap w7 B7 hk57 hB57 hB7 hsl7=>?_)
    rw [← hn3,hl1,hv1] at hsl7
    rw [← hn3]
    have hkW:=fun (W:World) (hk:Keep B7 w7 W)=>hN.to (hk57.trans (hk.mono hB57))
    have hdp:∀ W,Keep B7 w7 W→DpAt W (some ⟨kr,0,none⟩) (some ⟨kt,0,none⟩) k ns vs:=fun W hk=>by
     have up:∀ j,B7 j→j<W.heap.size:=fun j h=>Nat.lt_of_lt_of_le (hB7 j h) hk.size
     exact ⟨hk1,hk2,hkb,(hsl7.keep hk).mono up,((hst2.keep (hk25.trans ((hk57.trans (hk.mono hB57)).mono hB25))).mono fun j h=>up j (hB57 j (hB25 j h)))⟩
    refine rk ?_
    refine gX [.agg #[.slice (some ⟨kr,0,none⟩) k rcap,.slice none 0 0,.slice (some ⟨kt,0,none⟩) 1 cT],nI 0,xV op ty bits name a kids.length cap] (n8 (tyD (lkV ns vs) (Ex.mk op ty bits name kids))) (fun W hk=>dtyped_any ns vs (some ⟨kr,0,none⟩) (some ⟨kt,0,none⟩) k rcap cT (Ex.mk op ty bits name kids) (xL op ty bits name a kids.length cap) W t ht hns (hat.keep (hkW W hk) fun j h=>Nat.lt_of_lt_of_le h (hkW W hk).size) (hdp W hk)) ?_
    refine rk ?_
    exact gR (n8 (tyD (lkV ns vs) (Ex.mk op ty bits name kids))) (fun W hk=>⟨rfl,(hkW W hk).below⟩)
 | cons x l3=>
   obtain ⟨y,v3,rfl⟩:∃ y v3,v2=y::v3:=by
    cases v2 with
    | nil=>simp only [List.length_nil,List.length_cons] at hq hq2;omega
    | cons p q=>exact ⟨p,q,rfl⟩
   obtain ⟨yt,yb⟩:=y
   have hin:l1.length<k:=by rw [hq,List.length_cons];omega
   have hsn5:=(hsn.keep hN.keep).mono hN.old
   have hsv5:=(hsv.keep hN.keep).mono hN.old
   rw [hI] at hsn5
   have hlv5:=hlv
   rw [hV] at hlv5
   obtain ⟨c,hc,hcell⟩:=hlv5.at_ (fun _ _ h=>VlAt.len h)
   have hc:c=[n8 yt,n6 yb]:=hc
   subst hc
   rw [← hlv1] at hcell
   have hL5:∀ b,hasNat b [gz,gz+1]=true→∃ p,γ1 b=some p∧B5 p.1:=fun b hb=>let ⟨p,h1,h2⟩:=hL2 b hb;⟨p,h1,hB25 _ h2⟩
   refine kx (l1.length:Int) (k:Int) (by omega) ?_
   refine rk ?_
   refine good_plan sy_mixed (.take 0 (.take 2 (.take 3 (.take 4 (.take 5 (.take 6 (.take 7 (.take 8 (.take 9 (.take 10 (.take 11 (.take 12 (.alt (.run 1 (.run 13 (.run 14 (.take 15 .done)))) (.run 13 (.run 1 (.run 14 (.take 15 .done)))))))))))))))))  16 (by kernel_rfl) ?_
   refine p_takes [gz,gz+1] 4 (Bs:=B5) (ws:=w5) (by kernel_rfl) (fun _ h=>h) hL5 ?_
   refine p_val (.pointer (some ⟨gB na,oB na+l1.length*1,none⟩)) (S:=Instr.indexAt 30 (.slice na k nc) (nI (l1.length:Int))) (by kernel_rfl) (Bs:=B5) (ws:=w5) (by kernel_rfl) (fun _ h=>h) (fun W _=>idx_sl (e:=9) hsn5 (by kernel_rfl) (by kernel_rfl) hin W) ?_
   refine p_val (nT x) (S:=Instr.loadAt 9 (.pointer (some ⟨gB na,oB na+l1.length*1+0,none⟩))) (by kernel_rfl) (Bs:=B5) (ws:=w5) (by kernel_rfl) (fun _ h=>h) (fun W hk=>load_sl hsn5 (by kernel_rfl) l1.length 0 strsV_at hk) ?_
   refine p_takes [gz,gz+1] 3 (Bs:=B5) (ws:=w5) (by kernel_rfl) (fun _ h=>h) hL5 ?_
   refine p_val (.pointer (some ⟨gB va,oB va+l1.length*2,none⟩)) (S:=Instr.indexAt 31 (.slice va k vc) (nI (l1.length:Int))) (by kernel_rfl) (Bs:=B5) (ws:=w5) (by kernel_rfl) (fun _ h=>h) (fun W _=>idx_sl (e:=26) hsv5 (by kernel_rfl) (by kernel_rfl) hin W) ?_
   refine p_val (.agg #[n8 yt,n6 yb]) (S:=Instr.loadAt 26 (.pointer (some ⟨gB va,oB va+l1.length*2+0,none⟩))) (by kernel_rfl) (Bs:=B5) (ws:=w5) (by kernel_rfl) (fun _ h=>h) (fun W hk=>load_slA (P:=Tryz.prog) (ty:=26) (m:=2) (cs:=[n8 yt,n6 yb]) hsv5 (by kernel_rfl) (by kernel_rfl) l1.length 0 rfl hcell (W:=W) hk) ?_
   refine p_takes [gz,gz+1] 1 (Bs:=B5) (ws:=w5) (by kernel_rfl) (fun _ h=>h) hL5 ?_
   refine p_alt (by kernel_rfl) ?_ ?_
   ·
    refine pR (Keep B5 w5) (fun _ h=>h) ?_
    skip
    refine rk ?_
    refine pR (Keep B5 w5) (fun _ h=>h) ?_
    refine rk ?_
    refine pR (Keep B5 w5) (fun _ h=>h) ?_
    refine good_plain (gz+3) 0 (by kernel_rfl) (fun xold=>?_)
    refine good_app (t:=52) (e:=108) (.slg (gz+5) 0 1 3) 3 32 (gz+4) l1.length 0 (vrC l1 v1) X ob [nT x,n8 yt,n6 yb] [18] (by kernel_rfl) (by kernel_rfl) (by kernel_rfl) (by kernel_rfl) hrow (by kernel_rfl) (by kernel_rfl) (by kernel_rfl)
     (by unfold maxLen;omega) (by omega) (hγ1 _ (by omega)) (by kernel_rfl) (by kernel_rfl) (by kernel_rfl) (by kernel_rfl) (by kernel_rfl) (fun X2 ob2 hrow2=>?_)
    rcases hrow2.2 with ⟨_,_,h0⟩ | ⟨hX2,hob2⟩
    · omega
    subst hX2 hob2
    refine rk ?_
    refine p_takes [gz,gz+1] 1 (Bs:=B5) (ws:=w5) (by kernel_rfl) (fun _ h=>h) hL5 ?_
    refine p_done (by kernel_rfl) ?_ (Keep B5 w5) (by kernel_rfl) (fun _ h=>h)
    refine rk ?_
    refine gJ 6 l1 x (by omega) ?_
    have hr2:RowAt 108 3 (gz+4) (l1++[x]).length (vrC (l1++[x]) (v1++[(yt,yb)])) (.slg (gz+4) 0 (l1.length+(0+1)) 3) (some (.row 108 (vrC l1 v1++[nT x,n8 yt,n6 yb]))):=by rw [List.length_append,vrC_snoc hlv1];exact hrow2
    exact good_sub _ [(2,.ptr gz 0),(3,.ptr (gz+1) 0),(5,.ptr (gz+3) 0),(6,vI ((l1++[x]).length:Int))] [(gz,some (.cells 67 false true true 2 (putL .leaf 0 [vL na k nc,vL va k vc]))),(gz+1,some (.cells 29 false true true 5 (putL .leaf 0 (xA op ty bits name a kids.length cap)))),((gz+3),bK 58 3 [.slg (gz+4) 0 (l1.length+(0+1)) 3,vL none 0 0,vL (some ⟨kt,0,none⟩) 1 cT]),((gz+4),some (.row 108 (vrC l1 v1++[nT x,n8 yt,n6 yb])))] (gz+5) (by kernel_rfl) (by kernel_rfl) (by kernel_rfl) (allLtT_cons (by kernel_rfl) (allLtT_cons (by kernel_rfl) (allLtT_cons (by kernel_rfl) (allLtT_cons (by kernel_rfl) rfl)))) (by kernel_rfl) (allLtH_cons (by kernel_rfl) (by kernel_rfl) (allLtH_cons (by kernel_rfl) (by kernel_rfl) (allLtH_cons (by kernel_rfl) (by kernel_rfl) (allLtH_cons (by kernel_rfl) (by kernel_rfl) rfl)))) (fun b hb=>hγ1 b (by omega)) (by kernel_rfl) (ih ⟨l1++[x],l3,v1++[(yt,yb)],v3,_,_⟩ B5 w5 ⟨by show ns=(l1++[_])++l3;rw [hI];simp,by show vs=(v1++[_])++v3;rw [hV];simp,by show (l1++[x]).length=(v1++[(yt,yb)]).length;simp [hlv1],hr2,hN,hk25,hB25⟩ lS1)
   ·
    refine pR (Keep B5 w5) (fun _ h=>h) ?_
    refine rk ?_
    refine pR (Keep B5 w5) (fun _ h=>h) ?_
    skip
    refine rk ?_
    refine pR (Keep B5 w5) (fun _ h=>h) ?_
    refine good_plain (gz+3) 0 (by kernel_rfl) (fun xold=>?_)
    refine good_app (t:=52) (e:=108) (.slg (gz+5) 0 1 3) 3 32 (gz+4) l1.length 0 (vrC l1 v1) X ob [nT x,n8 yt,n6 yb] [18] (by kernel_rfl) (by kernel_rfl) (by kernel_rfl) (by kernel_rfl) hrow (by kernel_rfl) (by kernel_rfl) (by kernel_rfl)
     (by unfold maxLen;omega) (by omega) (hγ1 _ (by omega)) (by kernel_rfl) (by kernel_rfl) (by kernel_rfl) (by kernel_rfl) (by kernel_rfl) (fun X2 ob2 hrow2=>?_)
    rcases hrow2.2 with ⟨_,_,h0⟩ | ⟨hX2,hob2⟩
    · omega
    subst hX2 hob2
    refine rk ?_
    refine p_takes [gz,gz+1] 1 (Bs:=B5) (ws:=w5) (by kernel_rfl) (fun _ h=>h) hL5 ?_
    refine p_done (by kernel_rfl) ?_ (Keep B5 w5) (by kernel_rfl) (fun _ h=>h)
    refine rk ?_
    refine gJ 6 l1 x (by omega) ?_
    have hr2:RowAt 108 3 (gz+4) (l1++[x]).length (vrC (l1++[x]) (v1++[(yt,yb)])) (.slg (gz+4) 0 (l1.length+(0+1)) 3) (some (.row 108 (vrC l1 v1++[nT x,n8 yt,n6 yb]))):=by rw [List.length_append,vrC_snoc hlv1];exact hrow2
    exact good_sub _ [(2,.ptr gz 0),(3,.ptr (gz+1) 0),(5,.ptr (gz+3) 0),(6,vI ((l1++[x]).length:Int))] [(gz,some (.cells 67 false true true 2 (putL .leaf 0 [vL na k nc,vL va k vc]))),(gz+1,some (.cells 29 false true true 5 (putL .leaf 0 (xA op ty bits name a kids.length cap)))),((gz+3),bK 58 3 [.slg (gz+4) 0 (l1.length+(0+1)) 3,vL none 0 0,vL (some ⟨kt,0,none⟩) 1 cT]),((gz+4),some (.row 108 (vrC l1 v1++[nT x,n8 yt,n6 yb])))] (gz+5) (by kernel_rfl) (by kernel_rfl) (by kernel_rfl) (allLtT_cons (by kernel_rfl) (allLtT_cons (by kernel_rfl) (allLtT_cons (by kernel_rfl) (allLtT_cons (by kernel_rfl) rfl)))) (by kernel_rfl) (allLtH_cons (by kernel_rfl) (by kernel_rfl) (allLtH_cons (by kernel_rfl) (by kernel_rfl) (allLtH_cons (by kernel_rfl) (by kernel_rfl) (allLtH_cons (by kernel_rfl) (by kernel_rfl) rfl)))) (fun b hb=>hγ1 b (by omega)) (by kernel_rfl) (ih ⟨l1++[x],l3,v1++[(yt,yb)],v3,_,_⟩ B5 w5 ⟨by show ns=(l1++[_])++l3;rw [hI];simp,by show vs=(v1++[_])++v3;rw [hV];simp,by show (l1++[x]).length=(v1++[(yt,yb)]).length;simp [hlv1],hr2,hN,hk25,hB25⟩ lS1)
end
section
theorem alone_x {x:Ex} {t:List UInt8} (ht:ex32 x=some t):okD (onePg (alS (.mk 4 [] x [] [])))=true:=by
 rw [okD_some]
 have hn:nameB [116]=true:=by kernel_rfl
 simp [alS,onePg,pgT,allT,thT,stsT,stT,ht,hn]
theorem pgB_x {x:Ex} (h:exB x≤2000000):pgB (onePg (alS (.mk 4 [] x [] [])))≤100000000:=by
 simp [onePg,alS,pgB,sumN,thB,stBs,stB]
 omega
theorem pgR_x {x:Ex} (h:exR x):pgR (onePg (alS (.mk 4 [] x [] []))):=by
 simp [onePg,alS,pgR,thR,stRs,stR,h]
theorem LR_pg {γ:Sy.Gm} {kk b:Nat} (h:γ b=some (kk,3)) (e:Value):Sy.LR γ [.agg [.v (.slice none 0 0),.v (.slice none 0 0),.slg b 0 1 3],.v (.int .i64 0),Sy.norm e] [.agg #[.slice none 0 0,.slice none 0 0,.slice (some ⟨kk,0,none⟩) 1 1],.int .i64 0,e]:=⟨rfl,fun i a z h1 h2=>by
 rcases i with _ | _ | _ | i
 · simp at h1 h2
   subst h1 h2
   refine .agg rfl fun i a z h1 h2=>?_
   rcases i with _ | _ | _ | i
   · simp at h1 h2;subst h1 h2;exact .v _
   · simp at h1 h2;subst h1 h2;exact .v _
   · simp at h1 h2;subst h1 h2;exact .slg h (Nat.le_refl _) (by unfold maxLen;omega) (fun _=>⟨rfl,rfl⟩)
   · simp at h1
 · simp at h1 h2;subst h1 h2;exact .v _
 · simp at h1 h2;subst h1 h2;exact Sy.norm_VR _
 · simp at h1⟩
open Go.Sy in
set_option maxRecDepth 100000 in
theorem typeof_any (x:Ex) (cs:List Value) (t:List UInt8) (kk:Nat) (w:World) (htab:Tab w) (ht:ex32 x=some t) (hu:unk (fun _=>none) x=false) (hB:exB x≤2000000) (hR:exR x) (hkk:w.heap[kk]?=some (.cells #[nT [116],.slice none 0 0,.slice none 0 0] 55 (0,0))) (hat:ExAt (·<w.heap.size) w x cs):
  Calls Tryz.prog 16 #[.agg #[.slice none 0 0,.slice none 0 0,.slice (some ⟨kk,0,none⟩) 1 1],nI 0,.agg cs.toArray] w fun r w'=>(∃ u,r = .returned (.tuple #[n8 u,nI (if tyO (fun _=>none) x=0 then 9 else 0)]))∧Below w.heap.size w w':=by
 obtain ⟨op,ty,bits,name,kids⟩:=x
 have hat0:=hat
 simp only [ExAt] at hat0
 obtain ⟨a,cap,xs,rfl,hsl,hks⟩:=hat0
 refine Sy.enterK (kk:=kk) (ty:=55) (c:=([nT [116],.slice none 0 0,.slice none 0 0]:List Value).toArray) (l:=([nT [116],.slice none 0 0,.slice none 0 0]:List Value).map .v) (args:=[.agg [vL none 0 0,vL none 0 0,.slg gz 0 1 3],vI 0,norm (xV op ty bits name a kids.length cap)]) (vs:=[.agg #[.slice none 0 0,.slice none 0 0,.slice (some ⟨kk,0,none⟩) 1 1],nI 0,xV op ty bits name a kids.length cap]) sy_fine Tryz.func16 rfl (fun γ h=>LR_pg h _) rfl hkk (fun γ=>LR.vs _) (fun γ0 hγ0=>?_)
 have hγ0:∀ b,gz+1≤b→γ0 b=none:=hγ0
 refine run_ok (sy_cx _ _) 20000 [30] 80 20 ?_
 have halone:=alone_x ht
 have htx:=ex32_exT ht
 refine gX [yV 4 [] op ty bits name a kids.length cap none 0 0 none 0 0] (.bool true) (fun W hk=>by
  have h:=calone_any0 [] 4 (by decide) (by decide) op ty bits name kids [] [] none none a 0 0 cap [] [] W (htab.below hk.below) (hat.keep hk (kU hk)) (sl_nil _ _ _ _) (by simp only [StsAt]) (sl_nil _ _ _ _) (by simp only [StsAt]) (pgB_x hB) (pgR_x hR)
  rw [halone] at h
  exact h) ?_
 refine rs [] 5 1 ?_
 refine gU [.code (seqR (seqR (seqR (Tryz.f16.body.getD .skip))))] [(1,vI 0),(3,.ptr (gz+1) 0),(5,.ptr (gz+2) 0)] [(gz,some (.cells 55 false true true 3 (putL .leaf 0 (([nT [116],.slice none 0 0,.slice none 0 0]:List Value).map .v)))),(gz+1,bK 58 3 [vL none 0 0,vL none 0 0,.slg gz 0 1 3]),(gz+2,bK 29 5 (xA op ty bits name a kids.length cap))] (gz+108) (fun b hb=>hγ0 b (by omega)) ?_
 refine run_ok (sy_cx _ _) 20000 [36] 80 20 ?_
 refine good_giveMp 9 (gz+109) (by kernel_rfl) (by kernel_rfl) (fun km w1 B1 hk1 hB01 hBk hnB hB1 hnew=>?_)
 have hmp:∀ W,Keep B1 w1 W→ThgAt (·<W.heap.size) W km (fun _=>none):=fun W hk=>(show ThgAt B1 w1 km (fun _=>none) from MpAt.new hBk hnew).keep hk fun k h=>Nat.lt_of_lt_of_le (hB1 k h) hk.size
 have hxW:∀ W,Keep B1 w1 W→ExAt (·<W.heap.size) W (Ex.mk op ty bits name kids) (xL op ty bits name a kids.length cap):=fun W hk=>hat.keep (hk1.trans (hk.mono hB01)) fun k h=>Nat.lt_of_lt_of_le h (Nat.le_trans hk1.size hk.size)
 have hwB:=wgt_exB (Ex.mk op ty bits name kids)
 refine rk ?_
 refine gX [.map (some km),xV op ty bits name a kids.length cap] (.bool false) (fun W hk=>by
  have h:=cunknown_any km (fun _=>none) _ (Ex.mk op ty bits name kids) (xL op ty bits name a kids.length cap) W (Nat.le_refl _) (by omega) (hmp W hk) (hxW W hk)
  rw [hu] at h
  exact h) ?_
 refine rs [] 60 1 ?_
 refine gX [.map (some km),xV op ty bits name a kids.length cap] (n8 (tyO (fun _=>none) (Ex.mk op ty bits name kids))) (fun W hk=>ctype_any km (fun _=>none) _ (Ex.mk op ty bits name kids) (xL op ty bits name a kids.length cap) W t (Nat.le_refl _) htx (hmp W hk) (hxW W hk)) ?_
 refine rk ?_
 by_cases hz:tyO (fun _=>none) (Ex.mk op ty bits name kids)=0
 ·
  refine kz (tyO (fun _=>none) (Ex.mk op ty bits name kids)) 0 hz ?_
  refine rk ?_
  exact gR (.tuple #[n8 0,nI 9]) (fun W hk=>⟨⟨0,by rw [if_pos hz]⟩,(hk1.trans (hk.mono hB01)).below⟩)
 refine kw (tyO (fun _=>none) (Ex.mk op ty bits name kids)) 0 hz ?_
 refine rk ?_
 exact gR (.tuple #[n8 (tyO (fun _=>none) (Ex.mk op ty bits name kids)),nI 0]) (fun W hk=>⟨⟨_,by rw [if_neg hz]⟩,(hk1.trans (hk.mono hB01)).below⟩)
end
section
set_option maxRecDepth 100000
def OutP (o:Option Vl) (m:Int) (r:Ending):Prop:=(∃ u,o=some u∧r = .returned (vlV u))∨(o=none∧r = .panicked [{ v:=trapV m,recovered:=false }])
open Go.Sy
theorem vfront (op ta x tb y:Int) (ty bits:Int) (name:List UInt8) (a:Option Addr) (n cap:Nat) (b:Nat) (lo:Value) (m:Int) (hm:0≤m∧m≤1000000000000) (B1:Nat→Prop) (w1:World) (γ0:Gm) (hγ0:∀ b,gz≤b→γ0 b=none) (hB:B1 b) (hwk:WkAt w1 b lo m) {R:Ending→World→Prop}
  (hg:∀ B2 w2,WkAt w2 b lo (m+1)→Keep (fun k=>B1 k∧¬ k=b) w1 w2→(∀ k,B1 k→B2 k)→(∀ k,B2 k→k<w2.heap.size)→Go.Sy.Good Tryz.prog B2 w2 γ0 Tryz.f41.ntmps (bodyPostD Tryz.prog Tryz.f41 R) ⟨[.code (seqR (seqR (seqR (seqR (Tryz.f41.body.getD .skip)))))],⟨mkT [(0,vP b),(3,.ptr gz 0),(4,.ptr (gz+1) 0),(5,.ptr (gz+2) 0)],mkH [(gz,bK 29 5 (xA op ty bits name a n cap)),(gz+1,bK 26 2 [v8 0,v6 0]),(gz+2,bK 149 4 [v8 ta,v6 x,v8 tb,v6 y])],gz+3,[]⟩⟩):
  Go.Sy.Good Tryz.prog B1 w1 γ0 Tryz.f41.ntmps (bodyPostD Tryz.prog Tryz.f41 R) ⟨[.code (seqR (seqR (seqR (Tryz.f41.body.getD .skip))))],⟨mkT [(0,vP b),(3,.ptr gz 0),(4,.ptr (gz+1) 0),(5,.ptr (gz+2) 0)],mkH [(gz,bK 29 5 (xA op ty bits name a n cap)),(gz+1,bK 26 2 [v8 0,v6 0]),(gz+2,bK 149 4 [v8 ta,v6 x,v8 tb,v6 y])],gz+3,[]⟩⟩:=by
 have hat:=rdBox2 (F:=B1) hwk hB
 have hn:=wr64 (n:=m+1) (by omega) (by omega)
 refine rk ?_
 refine gV (nI m) (S:=Instr.loadAt 3 (.pointer (some ⟨b,0+1,none⟩))) (fun W hk=>ldB hat (by kernel_rfl) 1 rfl hk) ?_
 refine rk ?_
 refine gS 29 (x:=nI (wrapF .i64 (m+1))) (nI (m+1)) (by rw [hn]) ?_
 refine rk ?_
 refine good_storeW 3 (.pointer (some ⟨b,0+1,none⟩)) (nI (m+1)) (fun k=>k=b) (Pr:=fun _ W'=>WkAt W' b lo (m+1)) (by kernel_rfl) (by kernel_rfl) (fun k e=>e ▸ hB) (fun W hk=>putB (vals:=[lo,nI m]) ((hk.block b hB).trans hwk) (by kernel_rfl) 1 (by simp) rfl rfl) ?_
 intro W w2 B2 hk1 hcl _ hk12 hB12 hB2
 refine rs [] 1 0 ?_
 exact gU _ [(0,vP b),(3,.ptr gz 0),(4,.ptr (gz+1) 0),(5,.ptr (gz+2) 0)] [(gz,bK 29 5 (xA op ty bits name a n cap)),(gz+1,bK 26 2 [v8 0,v6 0]),(gz+2,bK 149 4 [v8 ta,v6 x,v8 tb,v6 y])] (gz+3) (fun b hb=>hγ0 b (by omega)) (hg B2 w2 hcl hk12 hB12 hB2)
theorem vtail_or (ta x tb y:Int) (ty bits:Int) (name:List UInt8) (a:Option Addr) (n cap:Nat) (b:Nat) (lo:Value) (m:Int)  (B1:Nat→Prop) (w1:World) (γ0:Gm) (hγ0:∀ b,gz≤b→γ0 b=none) (hB:B1 b) (hwk:WkAt w1 b lo m) {R:Ending→World→Prop}
  (hfin:∀ r W,Keep B1 w1 W→OutP (twoV 3 (ta,x) (tb,y)) m r→R r W):
  Go.Sy.Good Tryz.prog B1 w1 γ0 Tryz.f41.ntmps (bodyPostD Tryz.prog Tryz.f41 R) ⟨[.code (seqR (seqR (seqR (seqR (Tryz.f41.body.getD .skip)))))],⟨mkT [(0,vP b),(3,.ptr gz 0),(4,.ptr (gz+1) 0),(5,.ptr (gz+2) 0)],mkH [(gz,bK 29 5 (xA 3 ty bits name a n cap)),(gz+1,bK 26 2 [v8 0,v6 0]),(gz+2,bK 149 4 [v8 ta,v6 x,v8 tb,v6 y])],gz+3,[]⟩⟩:=by
 have hbl:∀ W,Keep B1 w1 W→WkAt W b lo m:=fun W hk=>(hk.block b hB).trans hwk
 refine rs [54] 120 20 ?_
 rcases Bool.eq_false_or_eq_true (intEq x 1) with hc | hc
 ·
  refine gS 53 (x := .bool (intEq x 1)) (.bool true) (by rw [hc]) ?_
  refine rk ?_
  refine gX [.bool (true)] (boVal (true)) (fun W hk=>truth_any _ W) ?_
  refine rk ?_
  exact gR (vlV (boV (true))) (fun W hk=>hfin _ _ hk (.inl ⟨boV (true),by simp [twoV,hc],rfl⟩))
 ·
  refine gS 53 (x := .bool (intEq x 1)) (.bool false) (by rw [hc]) ?_
  refine rk ?_
  refine gX [.bool (intEq y 1)] (boVal (intEq y 1)) (fun W hk=>truth_any _ W) ?_
  refine rk ?_
  exact gR (vlV (boV (intEq y 1))) (fun W hk=>hfin _ _ hk (.inl ⟨boV (intEq y 1),by simp [twoV,hc],rfl⟩))
theorem vtail_and (ta x tb y:Int) (ty bits:Int) (name:List UInt8) (a:Option Addr) (n cap:Nat) (b:Nat) (lo:Value) (m:Int)  (B1:Nat→Prop) (w1:World) (γ0:Gm) (hγ0:∀ b,gz≤b→γ0 b=none) (hB:B1 b) (hwk:WkAt w1 b lo m) {R:Ending→World→Prop}
  (hfin:∀ r W,Keep B1 w1 W→OutP (twoV 4 (ta,x) (tb,y)) m r→R r W):
  Go.Sy.Good Tryz.prog B1 w1 γ0 Tryz.f41.ntmps (bodyPostD Tryz.prog Tryz.f41 R) ⟨[.code (seqR (seqR (seqR (seqR (Tryz.f41.body.getD .skip)))))],⟨mkT [(0,vP b),(3,.ptr gz 0),(4,.ptr (gz+1) 0),(5,.ptr (gz+2) 0)],mkH [(gz,bK 29 5 (xA 4 ty bits name a n cap)),(gz+1,bK 26 2 [v8 0,v6 0]),(gz+2,bK 149 4 [v8 ta,v6 x,v8 tb,v6 y])],gz+3,[]⟩⟩:=by
 have hbl:∀ W,Keep B1 w1 W→WkAt W b lo m:=fun W hk=>(hk.block b hB).trans hwk
 refine rs [67] 120 20 ?_
 rcases Bool.eq_false_or_eq_true (intEq x 1) with hc | hc
 ·
  refine gS 66 (x := .bool (intEq x 1)) (.bool true) (by rw [hc]) ?_
  refine rk ?_
  refine gX [.bool (intEq y 1)] (boVal (intEq y 1)) (fun W hk=>truth_any _ W) ?_
  refine rk ?_
  exact gR (vlV (boV (intEq y 1))) (fun W hk=>hfin _ _ hk (.inl ⟨boV (intEq y 1),by simp [twoV,hc],rfl⟩))
 ·
  refine gS 66 (x := .bool (intEq x 1)) (.bool false) (by rw [hc]) ?_
  refine rk ?_
  refine gX [.bool (false)] (boVal (false)) (fun W hk=>truth_any _ W) ?_
  refine rk ?_
  exact gR (vlV (boV (false))) (fun W hk=>hfin _ _ hk (.inl ⟨boV (false),by simp [twoV,hc],rfl⟩))
theorem vtail_not (ta x tb y:Int) (ty bits:Int) (name:List UInt8) (a:Option Addr) (n cap:Nat) (b:Nat) (lo:Value) (m:Int)  (B1:Nat→Prop) (w1:World) (γ0:Gm) (hγ0:∀ b,gz≤b→γ0 b=none) (hB:B1 b) (hwk:WkAt w1 b lo m) {R:Ending→World→Prop}
  (hfin:∀ r W,Keep B1 w1 W→OutP (oneV 17 (ta,x)) m r→R r W):
  Go.Sy.Good Tryz.prog B1 w1 γ0 Tryz.f41.ntmps (bodyPostD Tryz.prog Tryz.f41 R) ⟨[.code (seqR (seqR (seqR (seqR (Tryz.f41.body.getD .skip)))))],⟨mkT [(0,vP b),(3,.ptr gz 0),(4,.ptr (gz+1) 0),(5,.ptr (gz+2) 0)],mkH [(gz,bK 29 5 (xA 17 ty bits name a n cap)),(gz+1,bK 26 2 [v8 0,v6 0]),(gz+2,bK 149 4 [v8 ta,v6 x,v8 tb,v6 y])],gz+3,[]⟩⟩:=by
 have hbl:∀ W,Keep B1 w1 W→WkAt W b lo m:=fun W hk=>(hk.block b hB).trans hwk
 refine rs [] 120 20 ?_
 refine gX [.bool (intEq x 0)] (boVal (intEq x 0)) (fun W hk=>truth_any _ W) ?_
 refine rk ?_
 exact gR (vlV (boV (intEq x 0))) (fun W hk=>hfin _ _ hk (.inl ⟨boV (intEq x 0),by simp [oneV],rfl⟩))
theorem vtail_toreal (ta x tb y:Int) (ty bits:Int) (name:List UInt8) (a:Option Addr) (n cap:Nat) (b:Nat) (lo:Value) (m:Int)  (B1:Nat→Prop) (w1:World) (γ0:Gm) (hγ0:∀ b,gz≤b→γ0 b=none) (hB:B1 b) (hwk:WkAt w1 b lo m) {R:Ending→World→Prop}
  (hfin:∀ r W,Keep B1 w1 W→OutP (oneV 19 (ta,x)) m r→R r W):
  Go.Sy.Good Tryz.prog B1 w1 γ0 Tryz.f41.ntmps (bodyPostD Tryz.prog Tryz.f41 R) ⟨[.code (seqR (seqR (seqR (seqR (Tryz.f41.body.getD .skip)))))],⟨mkT [(0,vP b),(3,.ptr gz 0),(4,.ptr (gz+1) 0),(5,.ptr (gz+2) 0)],mkH [(gz,bK 29 5 (xA 19 ty bits name a n cap)),(gz+1,bK 26 2 [v8 0,v6 0]),(gz+2,bK 149 4 [v8 ta,v6 x,v8 tb,v6 y])],gz+3,[]⟩⟩:=by
 have hbl:∀ W,Keep B1 w1 W→WkAt W b lo m:=fun W hk=>(hk.block b hB).trans hwk
 refine rs [] 120 20 ?_
 refine gP [nI (toI x)] (n6 (toN (floatOfInt .f64 (toI x)):Int)) (fun W hk=>pfromint_any (toI x) W) ?_
 refine rk ?_
 exact gR (vlV ((3,(toN (floatOfInt .f64 (toI x)):Int)))) (fun W hk=>hfin _ _ hk (.inl ⟨(3,(toN (floatOfInt .f64 (toI x)):Int)),by simp [oneV],rfl⟩))
theorem vtail_toint (ta x tb y:Int) (ty bits:Int) (name:List UInt8) (a:Option Addr) (n cap:Nat) (b:Nat) (lo:Value) (m:Int)  (B1:Nat→Prop) (w1:World) (γ0:Gm) (hγ0:∀ b,gz≤b→γ0 b=none) (hB:B1 b) (hwk:WkAt w1 b lo m) {R:Ending→World→Prop}
  (hfin:∀ r W,Keep B1 w1 W→OutP (oneV 18 (ta,x)) m r→R r W):
  Go.Sy.Good Tryz.prog B1 w1 γ0 Tryz.f41.ntmps (bodyPostD Tryz.prog Tryz.f41 R) ⟨[.code (seqR (seqR (seqR (seqR (Tryz.f41.body.getD .skip)))))],⟨mkT [(0,vP b),(3,.ptr gz 0),(4,.ptr (gz+1) 0),(5,.ptr (gz+2) 0)],mkH [(gz,bK 29 5 (xA 18 ty bits name a n cap)),(gz+1,bK 26 2 [v8 0,v6 0]),(gz+2,bK 149 4 [v8 ta,v6 x,v8 tb,v6 y])],gz+3,[]⟩⟩:=by
 have hbl:∀ W,Keep B1 w1 W→WkAt W b lo m:=fun W hk=>(hk.block b hB).trans hwk
 refine rs [] 120 20 ?_
 refine gP [n6 x] (.tuple #[nI (tiN x.toNat).1,.bool (tiN x.toNat).2]) (fun W hk=>ptoint_any x W) ?_
 refine rk ?_
 rcases Bool.eq_false_or_eq_true (tiN x.toNat).2 with hc | hc
 ·
  refine gK false (b:=(!(tiN x.toNat).2)) (by rw [hc];rfl) ?_
  refine rk ?_
  exact gR (vlV ((1,toU (tiN x.toNat).1))) (fun W hk=>hfin _ _ hk (.inl ⟨(1,toU (tiN x.toNat).1),by simp [oneV,hc],rfl⟩))
 ·
  refine gK true (b:=(!(tiN x.toNat).2)) (by rw [hc];rfl) ?_
  refine rk ?_
  refine good_callP0 (sy_cx _ _) [nP b] (fun _=>False) (Pr:=fun _ _ _=>False) (Pp:=fun _ v _=>v=trapV m) (by kernel_rfl) (by kernel_rfl) (fun γ vs hl=>closeLL_eq (by kernel_rfl) hl) (by kernel_rfl) (fun k h=>h.elim) (fun W hk=>(traps_any b lo m W (hbl W hk)).mono fun en w' ⟨h1,h2⟩ => .inr ⟨_,h1,rfl,(Keep.of_below h2 (fun k h=>h)).mono fun k h=>h.1⟩) (fun _ _ _ _ _ h=>h.elim) ?_
  rintro W2 v w2 B2 hk2 rfl hkW2 hk12 hB12 hBn2 hB2
  exact goodP_endV (trapV m) (by kernel_rfl) (by kernel_rfl) (fun W3 hk3=>hfin _ _ ((hk12.mono fun k h=>⟨h,fun h=>h⟩).trans (hk3.mono fun k h=>hB12 k h)) (.inr ⟨by simp [oneV,hc],rfl⟩))
theorem vtail_app (op ta x tb y:Int) (o:Option Vl) (ty bits:Int) (name:List UInt8) (a:Option Addr) (n cap:Nat) (b:Nat) (lo:Value) (m:Int) (ho:5≤op∧op≤16) (hta:ta=1∨ta=2∨ta=3) (happ:∀ W,WkAt W b lo m→Calls Tryz.prog 82 #[n8 op,opdV b (ta,x) (tb,y)] W (AppP o m W)) (B1:Nat→Prop) (w1:World) (γ0:Gm) (hγ0:∀ b,gz≤b→γ0 b=none) (hB:B1 b) (hwk:WkAt w1 b lo m) {R:Ending→World→Prop}
  (hfin:∀ r W,Keep B1 w1 W→OutP (o) m r→R r W):
  Go.Sy.Good Tryz.prog B1 w1 γ0 Tryz.f41.ntmps (bodyPostD Tryz.prog Tryz.f41 R) ⟨[.code (seqR (seqR (seqR (seqR (Tryz.f41.body.getD .skip)))))],⟨mkT [(0,vP b),(3,.ptr gz 0),(4,.ptr (gz+1) 0),(5,.ptr (gz+2) 0)],mkH [(gz,bK 29 5 (xA op ty bits name a n cap)),(gz+1,bK 26 2 [v8 0,v6 0]),(gz+2,bK 149 4 [v8 ta,v6 x,v8 tb,v6 y])],gz+3,[]⟩⟩:=by
 have hbl:∀ W,Keep B1 w1 W→WkAt W b lo m:=fun W hk=>(hk.block b hB).trans hwk
 have hcl:∀ v,opdV b (ta,x) (tb,y)=v→∀ W,Keep B1 w1 W→Calls Tryz.prog 82 #[n8 op,v] W fun e w'=>(∃ r,e = .returned r∧(∃ u,o=some u∧r=vlV u)∧Keep (fun k=>k<W.heap.size∧¬ False) W w')∨(∃ r,e = .panicked [{ v:=r,recovered:=false }]∧(o=none∧r=trapV m)∧Keep (fun k=>k<W.heap.size∧¬ False) W w'):=by
  rintro v rfl W hk
  refine (happ W (hbl W hk)).mono fun e w' h=>?_
  rcases h with ⟨u,h1,h2,h3⟩ | ⟨h1,h2,h3⟩
  · exact .inl ⟨_,h2,⟨u,h1,rfl⟩,(Keep.of_below h3 (fun k h=>h)).mono fun k h=>h.1⟩
  · exact .inr ⟨_,h2,⟨h1,rfl⟩,(Keep.of_below h3 (fun k h=>h)).mono fun k h=>h.1⟩
 refine rk ?_
 refine kw op 1 (by omega) ?_
 refine rk ?_
 refine kw op 2 (by omega) ?_
 refine rk ?_
 refine kw op 3 (by omega) ?_
 refine rk ?_
 refine kw op 4 (by omega) ?_
 refine rk ?_
 refine kw op 17 (by omega) ?_
 refine rk ?_
 refine kw op 19 (by omega) ?_
 refine rk ?_
 refine kw op 18 (by omega) ?_
 refine rs [] 120 0 ?_
 rcases hta with rfl | rfl | rfl
 ·
  refine rs [] 120 5 ?_
  refine good_callP0 (sy_cx _ _) [n8 op,.iface 155 (.agg #[nP b,nI (toI x),nI (toI y)])] (fun _=>False) (Pr:=fun _ r _=>∃ u,o=some u∧r=vlV u) (Pp:=fun _ r _=>o=none∧r=trapV m) (by kernel_rfl) (by kernel_rfl) (fun γ vs hl=>norms_uniq hl) (by kernel_rfl) (fun k h=>h.elim) (hcl _ (by simp [opdV])) ?_ ?_
  · rintro W2 v w2 B2 hk2 ⟨u,hu,rfl⟩ hkW2 hk12 hB12 hBn2 hB2
    refine rk ?_
    exact gR (vlV u) (fun W3 hk3=>hfin _ _ ((hk12.mono fun k h=>⟨h,fun h=>h⟩).trans (hk3.mono fun k h=>hB12 k h)) (.inl ⟨u,hu,rfl⟩))
  · rintro W2 v w2 B2 hk2 ⟨hu,rfl⟩ hkW2 hk12 hB12 hBn2 hB2
    exact goodP_endV (trapV m) (by kernel_rfl) (by kernel_rfl) (fun W3 hk3=>hfin _ _ ((hk12.mono fun k h=>⟨h,fun h=>h⟩).trans (hk3.mono fun k h=>hB12 k h)) (.inr ⟨hu,rfl⟩))
 ·
  refine rs [] 120 5 ?_
  refine good_callP0 (sy_cx _ _) [n8 op,.iface 160 (.agg #[n6 x,n6 y])] (fun _=>False) (Pr:=fun _ r _=>∃ u,o=some u∧r=vlV u) (Pp:=fun _ r _=>o=none∧r=trapV m) (by kernel_rfl) (by kernel_rfl) (fun γ vs hl=>norms_uniq hl) (by kernel_rfl) (fun k h=>h.elim) (hcl _ (by simp [opdV])) ?_ ?_
  · rintro W2 v w2 B2 hk2 ⟨u,hu,rfl⟩ hkW2 hk12 hB12 hBn2 hB2
    refine rk ?_
    exact gR (vlV u) (fun W3 hk3=>hfin _ _ ((hk12.mono fun k h=>⟨h,fun h=>h⟩).trans (hk3.mono fun k h=>hB12 k h)) (.inl ⟨u,hu,rfl⟩))
  · rintro W2 v w2 B2 hk2 ⟨hu,rfl⟩ hkW2 hk12 hB12 hBn2 hB2
    exact goodP_endV (trapV m) (by kernel_rfl) (by kernel_rfl) (fun W3 hk3=>hfin _ _ ((hk12.mono fun k h=>⟨h,fun h=>h⟩).trans (hk3.mono fun k h=>hB12 k h)) (.inr ⟨hu,rfl⟩))
 ·
  refine rs [] 120 5 ?_
  refine good_callP0 (sy_cx _ _) [n8 op,.iface 159 (.agg #[n6 x,n6 y])] (fun _=>False) (Pr:=fun _ r _=>∃ u,o=some u∧r=vlV u) (Pp:=fun _ r _=>o=none∧r=trapV m) (by kernel_rfl) (by kernel_rfl) (fun γ vs hl=>norms_uniq hl) (by kernel_rfl) (fun k h=>h.elim) (hcl _ (by simp [opdV])) ?_ ?_
  · rintro W2 v w2 B2 hk2 ⟨u,hu,rfl⟩ hkW2 hk12 hB12 hBn2 hB2
    refine rk ?_
    exact gR (vlV u) (fun W3 hk3=>hfin _ _ ((hk12.mono fun k h=>⟨h,fun h=>h⟩).trans (hk3.mono fun k h=>hB12 k h)) (.inl ⟨u,hu,rfl⟩))
  · rintro W2 v w2 B2 hk2 ⟨hu,rfl⟩ hkW2 hk12 hB12 hBn2 hB2
    exact goodP_endV (trapV m) (by kernel_rfl) (by kernel_rfl) (fun W3 hk3=>hfin _ _ ((hk12.mono fun k h=>⟨h,fun h=>h⟩).trans (hk3.mono fun k h=>hB12 k h)) (.inr ⟨hu,rfl⟩))
end
section
set_option maxRecDepth 100000
def lookV (kv kn:Nat):Value := .func (.func 18) #[] #[.pointer (some ⟨kv,0,none⟩),.pointer (some ⟨kn,0,none⟩)]
def ValP (b:Nat) (lo:Value) (m:Int) (w:World) (p:Option Vl×Nat) (r:Ending) (w':World):Prop:=
 OutP p.1 (m+p.2) r∧(p.1.isSome=true→WkAt w' b lo (m+p.2))∧Sy.Keep (fun k=>k<w.heap.size∧¬ k=b) w w'
theorem lk_G {ns:List (List UInt8)} {vs:List Vl} {s:List UInt8} (hl:ns.length=vs.length) (hv:∀ v∈vs,vlG v) (h:(atN s ns).isSome=true):vlG (lkV ns vs s):=by
 obtain ⟨i,hi⟩:=Option.isSome_iff_exists.1 h
 have h1:=atN_lt hi
 unfold lkV
 rw [hi]
 show vlG (vs.getD i (0,0))
 rw [List.getD_eq_getElem?_getD,List.getElem?_eq_getElem (by omega)]
 exact hv _ (List.getElem_mem _)
theorem atN_len {s:List UInt8} {F:Nat→Prop} {w:World} {kv kn:Nat} {ns:List (List UInt8)} {vs:List Vl} (h:LkAt F w kv kn ns vs):ns.length=vs.length:=by
 obtain ⟨na,va,n,nc,vc,xs,h1,h2,h3,h4,h5,h6,h7,h8,h9,h10⟩:=h
 omega
theorem one_num {t:Int} (h:resT 16 t 0≠0):t=1∨t=3:=by
 simp only [resT] at h
 simp at h
 exact numT_or (cw_or h).1
open Go.Sy
theorem val_lit (kv kn b:Nat) (ns:List (List UInt8)) (vs:List Vl) (ty bits:Int) (name:List UInt8) (a:Option Addr) (cap:Nat) (w:World) (m:Int) (hm:0≤m∧m≤1000000000000) (hwk:WkAt w b (lookV kv kn) m):
  Calls Tryz.prog 41 #[nP b,xV 1 ty bits name a 0 cap] w (ValP b (lookV kv kn) m w (evE (lkV ns vs) (.mk 1 ty bits name []))):=by
 have hblt:b<w.heap.size:=(Array.getElem?_eq_some_iff.1 hwk).1
 refine eN [nP b,xV 1 ty bits name a 0 cap] Tryz.func41 (fun γ0 hγ0=>?_)
 have hγ0:∀ b,gz≤b→γ0 b=none:=hγ0
 refine rk ?_
 refine good_toLp ?_
 refine good_loop (by kernel_rfl) ?_
 refine rs [] 7 1 ?_
 refine gU [.code (seqR (seqR (seqR (Tryz.f41.body.getD .skip))))] [(0,vP b),(3,.ptr gz 0),(4,.ptr (gz+1) 0),(5,.ptr (gz+2) 0)] [(gz,bK 29 5 (xA 1 ty bits name a 0 cap)),(gz+1,bK 26 2 [v8 0,v6 0]),(gz+2,bK 149 4 [v8 0,v6 0,v8 0,v6 0])] (gz+3) (fun b hb=>hγ0 b (by omega)) ?_
 refine vfront 1 0 0 0 0 ty bits name a 0 cap b (lookV kv kn) (m) hm (·<w.heap.size) w γ0 hγ0 hblt hwk ?_
 intro B1 w1 hwk1 hk1 hB1 hB1lt
 refine rs [] 120 20 ?_
 exact gR (vlV (ty,bits)) (fun W hk=>by
  have hk0:Keep (fun k=>k<w.heap.size∧¬ k=b) w W:=hk1.trans (hk.mono fun k h=>hB1 k h.1)
  have hwW:WkAt W b (lookV kv kn) (m+1):=(hk.block b (hB1 b hblt)).trans hwk1
  exact ⟨.inl ⟨(ty,bits),by simp [evE],rfl⟩,fun _=>by simpa [evE] using hwW,hk0⟩)
theorem val_name (kv kn b:Nat) (ns:List (List UInt8)) (vs:List Vl) (F:Nat→Prop) (ty bits:Int) (name:List UInt8) (i:Nat) (hat:atN name ns=some i) (a:Option Addr) (cap:Nat) (w:World) (m:Int) (hm:0≤m∧m≤1000000000000) (hF:∀ k,F k→k<w.heap.size) (hFb:¬ F b) (hlk:LkAt F w kv kn ns vs) (hwk:WkAt w b (lookV kv kn) m):
  Calls Tryz.prog 41 #[nP b,xV 2 ty bits name a 0 cap] w (ValP b (lookV kv kn) m w (evE (lkV ns vs) (.mk 2 ty bits name []))):=by
 have hblt:b<w.heap.size:=(Array.getElem?_eq_some_iff.1 hwk).1
 refine eN [nP b,xV 2 ty bits name a 0 cap] Tryz.func41 (fun γ0 hγ0=>?_)
 have hγ0:∀ b,gz≤b→γ0 b=none:=hγ0
 refine rk ?_
 refine good_toLp ?_
 refine good_loop (by kernel_rfl) ?_
 refine rs [] 7 1 ?_
 refine gU [.code (seqR (seqR (seqR (Tryz.f41.body.getD .skip))))] [(0,vP b),(3,.ptr gz 0),(4,.ptr (gz+1) 0),(5,.ptr (gz+2) 0)] [(gz,bK 29 5 (xA 2 ty bits name a 0 cap)),(gz+1,bK 26 2 [v8 0,v6 0]),(gz+2,bK 149 4 [v8 0,v6 0,v8 0,v6 0])] (gz+3) (fun b hb=>hγ0 b (by omega)) ?_
 refine vfront 2 0 0 0 0 ty bits name a 0 cap b (lookV kv kn) (m) hm (·<w.heap.size) w γ0 hγ0 hblt hwk ?_
 intro B1 w1 hwk1 hk1 hB1 hB1lt
 have hat1:=rdBox2 (F:=B1) hwk1 (hB1 b hblt)
 have hlk1:∀ W,Keep B1 w1 W→LkAt F W kv kn ns vs:=fun W hk=>hlk.keep ((hk1.mono fun k h=>⟨hF k h,fun e=>hFb (e ▸ h)⟩).trans (hk.mono fun k h=>hB1 k (hF k h))) (fun k h=>h)
 refine rs [] 120 20 ?_
 refine good_drawL sy_mixed (by kernel_rfl) ?_
 refine q_run [] 60 ?_
 refine qV (lookV kv kn) (S:=Instr.loadAt 62 (.pointer (some ⟨b,0+0,none⟩))) (fun W hk=>ldB hat1 (by kernel_rfl) 0 rfl hk) ?_
 refine q_run [] 60 ?_
 refine qB [nT name,nP kv,nP kn] (vlV (lkV ns vs name)) (fun W hk=>look_any F ns vs name kv kn i W (fun k h=>Nat.lt_of_lt_of_le (hB1lt k (hB1 k (hF k h))) hk.size) (hlk1 W hk) hat) ?_
 refine q_run [] 60 ?_
 refine qE ?_
 refine rk ?_
 exact gR (vlV (lkV ns vs name)) (fun W hk=>by
  have hk0:Keep (fun k=>k<w.heap.size∧¬ k=b) w W:=hk1.trans (hk.mono fun k h=>hB1 k h.1)
  have hwW:WkAt W b (lookV kv kn) (m+1):=(hk.block b (hB1 b hblt)).trans hwk1
  exact ⟨.inl ⟨lkV ns vs name,by simp [evE],rfl⟩,fun _=>by simpa [evE] using hwW,hk0⟩)
theorem val_1 (kv kn b:Nat) (ns:List (List UInt8)) (vs:List Vl) (hvs:∀ v∈vs,vlG v) (N:Nat) (ihN:∀ (e:Ex) (cs:List Value) (F:Nat→Prop) (w:World) (m:Int) (t:List UInt8),wgt e≤N→exT e=some t→exR e→(∀ s∈nmE e,(atN s ns).isSome=true)→tyD (lkV ns vs) e≠0→0≤m→m+wgt e≤1000000000000→(∀ k,F k→k<w.heap.size)→¬ F b→LkAt F w kv kn ns vs→ExAt F w e cs→WkAt w b (lookV kv kn) m→
  Calls Tryz.prog 41 #[nP b,.agg cs.toArray] w (ValP b (lookV kv kn) m w (evE (lkV ns vs) e)))
  (F:Nat→Prop) (op ty bits:Int) (name:List UInt8) (op1 ty1 bits1:Int) (name1:List UInt8) (kids1:List Ex) (t1:List UInt8) (ht1:exT (Ex.mk op1 ty1 bits1 name1 kids1)=some t1) (hw1:wgt (Ex.mk op1 ty1 bits1 name1 kids1)≤N) (hns1:∀ s∈nmE (Ex.mk op1 ty1 bits1 name1 kids1),(atN s ns).isSome=true) (a:Option Addr) (cap:Nat) (xs:List Value) (w:World) (m:Int) (hop:16≤op∧op≤19) (hR:exRs [(Ex.mk op1 ty1 bits1 name1 kids1)]) (hty:tyD (lkV ns vs) (.mk op ty bits name [(Ex.mk op1 ty1 bits1 name1 kids1)])≠0) (hm:0≤m∧m+((wgt (Ex.mk op1 ty1 bits1 name1 kids1)+1:Nat):Int)≤1000000000000) (hF:∀ k,F k→k<w.heap.size) (hFb:¬ F b) (hlk:LkAt F w kv kn ns vs) (hwk:WkAt w b (lookV kv kn) m)
  (hsl:SlAt F w a 1 5 xs) (hks:ExsAt F w [(Ex.mk op1 ty1 bits1 name1 kids1)] xs):
  Calls Tryz.prog 41 #[nP b,xV op ty bits name a 1 cap] w (ValP b (lookV kv kn) m w (evE (lkV ns vs) (.mk op ty bits name [(Ex.mk op1 ty1 bits1 name1 kids1)]))):=by
 have c1:¬ op=1:=by omega
 have c2:¬ op=2:=by omega
 have hFF:∀ k,F k→k<w.heap.size∧¬ k=b:=fun k h=>⟨hF k h,fun e=>hFb (e ▸ h)⟩
 have hgl:∀ s,(atN s ns).isSome=true→vlG (lkV ns vs s):=fun s h=>lk_G (atN_len (s:=[]) hlk) hvs h
 have hblt:b<w.heap.size:=(Array.getElem?_eq_some_iff.1 hwk).1
 refine eN [nP b,xV op ty bits name a 1 cap] Tryz.func41 (fun γ0 hγ0=>?_)
 have hγ0:∀ b,gz≤b→γ0 b=none:=hγ0
 refine rk ?_
 refine good_toLp ?_
 rw [tyD_kids c1 c2] at hty
 simp only [tyDs] at hty
 simp only [exRs] at hR
 obtain ⟨z1,er⟩:=tyK1 hty
 rw [er] at hty
 have g1:=fun u m h=>ev_good (lkV ns vs) _ (Ex.mk op1 ty1 bits1 name1 kids1) t1 (Nat.le_refl _) ht1 hR.1 (fun s hs=>hgl s (hns1 s hs)) z1 u m h
 have hn1:=ev_n (lkV ns vs) _ (Ex.mk op1 ty1 bits1 name1 kids1) (Nat.le_refl _)
 obtain ⟨c1,hc1,hcell1⟩:=ExsAt.at_ (l1:=([]:List Ex)) (e:=(Ex.mk op1 ty1 bits1 name1 kids1)) (l3:=[]) hks
 have hcl1:=hc1.len
 have hc10:=hc1
 simp only [ExAt] at hc10
 obtain ⟨a1,cap1,xs1,rfl,_⟩:=hc10
 have hslB:=hsl.mono hF
 refine good_loop (by kernel_rfl) ?_
 refine rs [] 60 1 ?_
 refine gI 27 29 cap (([]:List Ex).length) hslB (show ([]:List Ex).length<1 by simp) ?_
 refine rk ?_
 refine gV (xV op1 ty1 bits1 name1 a1 kids1.length cap1) (S:=Instr.loadAt 29 (.pointer (some ⟨gB a,oB a+([]:List Ex).length*5+0,none⟩))) (fun W hk=>load_slA (P:=Tryz.prog) (ty:=29) (m:=5) (cs:=(xL op1 ty1 bits1 name1 a1 kids1.length cap1)) hslB (by kernel_rfl) (by kernel_rfl) (([]:List Ex).length) 0 hcl1 hcell1 (W:=W) hk) ?_
 refine rk ?_
 refine good_callP0 (sy_cx _ _) [nP b,xV op1 ty1 bits1 name1 a1 kids1.length cap1] (fun k=>k=b) (Pr:=fun W v W'=>∃ u,(evE (lkV ns vs) (Ex.mk op1 ty1 bits1 name1 kids1)).1=some u∧v=vlV u∧WkAt W' b (lookV kv kn) (m+(evE (lkV ns vs) (Ex.mk op1 ty1 bits1 name1 kids1)).2)) (Pp:=fun W v W'=>(evE (lkV ns vs) (Ex.mk op1 ty1 bits1 name1 kids1)).1=none∧v=trapV (m+(evE (lkV ns vs) (Ex.mk op1 ty1 bits1 name1 kids1)).2)) (by kernel_rfl) (by kernel_rfl) (fun γ vs hl=>closeLL_eq (by kernel_rfl) hl) (by kernel_rfl) (fun k e=>e ▸ hblt) (fun W hk=>(ihN (Ex.mk op1 ty1 bits1 name1 kids1) _ F W m t1 hw1 ht1 hR.1 hns1 z1 (by omega) (by omega) (fun k h=>Nat.lt_of_lt_of_le (hF k h) hk.size) hFb (hlk.keep (hk.mono hF) (fun k h=>h)) (hc1.keep (hk.mono hF) (fun k h=>h)) ((hk.block b hblt).trans hwk)).mono fun e w' ⟨h1,h2,h3⟩=>h1.elim (fun ⟨u,g1,g2⟩ => .inl ⟨_,g2,⟨u,g1,rfl,h2 (by rw [g1];rfl)⟩,h3⟩) (fun ⟨g1,g2⟩ => .inr ⟨_,g2,⟨g1,rfl⟩,h3⟩)) ?_ ?_
 rotate_left
 · rintro W1 v w1 B1 hkW1 ⟨hu1,rfl⟩ hkk1 hk01 hB01 hBn1 hB1
   have e1:evE (lkV ns vs) (Ex.mk op1 ty1 bits1 name1 kids1)=(none,(evE (lkV ns vs) (Ex.mk op1 ty1 bits1 name1 kids1)).2):=Prod.ext hu1 rfl
   have hev:evE (lkV ns vs) (.mk op ty bits name [(Ex.mk op1 ty1 bits1 name1 kids1)])=(none,(evE (lkV ns vs) (Ex.mk op1 ty1 bits1 name1 kids1)).2):=by
    rw [evE_kids c1 c2]
    simp only [evEs]
    rw [e1]
    rfl
   rw [hev]
   exact goodP_endV (trapV (m+(evE (lkV ns vs) (Ex.mk op1 ty1 bits1 name1 kids1)).2)) (by kernel_rfl) (by kernel_rfl) (fun W3 hk3=>⟨.inr ⟨rfl,by rfl⟩,fun h=>(by cases h),(hk01).trans (hk3.mono fun k h=>hB01 k h.1)⟩)
 rintro W1 v w1 B1 hkW1 ⟨⟨tt1,xx1⟩,hu1,rfl,hwk1⟩ hkk1 hk01 hB01 hBn1 hB1
 have e1:evE (lkV ns vs) (Ex.mk op1 ty1 bits1 name1 kids1)=(some (tt1,xx1),(evE (lkV ns vs) (Ex.mk op1 ty1 bits1 name1 kids1)).2):=Prod.ext hu1 rfl
 obtain ⟨gt1,gv1⟩:=g1 _ _ e1
 refine rk ?_
 have hev:evE (lkV ns vs) (.mk op ty bits name [(Ex.mk op1 ty1 bits1 name1 kids1)])=(oneV op (tt1,xx1),(evE (lkV ns vs) (Ex.mk op1 ty1 bits1 name1 kids1)).2+1):=by
  rw [evE_kids c1 c2]
  simp only [evEs]
  rw [e1]
  rfl
 rw [hev]
 have hr:resT op tt1 0≠0:=by rw [show tt1=tyD (lkV ns vs) (Ex.mk op1 ty1 bits1 name1 kids1) from gt1];exact hty
 have em:m+((evE (lkV ns vs) (Ex.mk op1 ty1 bits1 name1 kids1)).2:Int)+1=m+(((evE (lkV ns vs) (Ex.mk op1 ty1 bits1 name1 kids1)).2+1:Nat):Int):=by omega
 refine good_loop (by kernel_rfl) ?_
 refine rs [] 7 1 ?_
 refine gU [.code (seqR (seqR (seqR (Tryz.f41.body.getD .skip))))] [(0,vP b),(3,.ptr gz 0),(4,.ptr (gz+1) 0),(5,.ptr (gz+2) 0)] [(gz,bK 29 5 (xA op ty bits name a 1 cap)),(gz+1,bK 26 2 [v8 0,v6 0]),(gz+2,bK 149 4 [v8 tt1,v6 xx1,v8 0,v6 0])] (gz+3) (fun b hb=>hγ0 b (by omega)) ?_
 refine vfront op tt1 xx1 0 0 ty bits name a 1 cap b (lookV kv kn) (m+(evE (lkV ns vs) (Ex.mk op1 ty1 bits1 name1 kids1)).2) (by omega) B1 w1 γ0 hγ0 (hB01 b hblt) hwk1 ?_
 intro BZ wZ hwkZ hkZ hBZ hBZlt
 have hend:∀ r W,Keep BZ wZ W→OutP (oneV op (tt1,xx1)) (m+(evE (lkV ns vs) (Ex.mk op1 ty1 bits1 name1 kids1)).2+1) r→ValP b (lookV kv kn) m w (oneV op (tt1,xx1),_) r W:=fun r W hk h=>by
  refine ⟨?_,fun _=>?_,hk01.trans ((hkZ.mono fun k h=>⟨hB01 k h.1,h.2⟩).trans (hk.mono fun k h=>hBZ k (hB01 k h.1)))⟩
  · show OutP _ (m+_) r
    rw [← em]
    exact h
  · show WkAt W b _ (m+_)
    rw [← em]
    exact (hk.block b (hBZ b (hB01 b hblt))).trans hwkZ
 obtain rfl | rfl | rfl | rfl:op=16∨op=17∨op=18∨op=19:=by omega
 · exact vtail_app 16 tt1 xx1 0 0 (oneV 16 (tt1,xx1)) ty bits name a 1 cap b (lookV kv kn) _ (by omega) gv1.1 (fun W hw=>app_neg (tt1,xx1) (one_num hr) b (lookV kv kn) _ W) BZ wZ γ0 hγ0 (hBZ b (hB01 b hblt)) hwkZ hend
 · exact vtail_not tt1 xx1 0 0 ty bits name a 1 cap b (lookV kv kn) _  BZ wZ γ0 hγ0 (hBZ b (hB01 b hblt)) hwkZ hend
 · exact vtail_toint tt1 xx1 0 0 ty bits name a 1 cap b (lookV kv kn) _  BZ wZ γ0 hγ0 (hBZ b (hB01 b hblt)) hwkZ hend
 · exact vtail_toreal tt1 xx1 0 0 ty bits name a 1 cap b (lookV kv kn) _  BZ wZ γ0 hγ0 (hBZ b (hB01 b hblt)) hwkZ hend
theorem val_2 (kv kn b:Nat) (ns:List (List UInt8)) (vs:List Vl) (hvs:∀ v∈vs,vlG v) (N:Nat) (ihN:∀ (e:Ex) (cs:List Value) (F:Nat→Prop) (w:World) (m:Int) (t:List UInt8),wgt e≤N→exT e=some t→exR e→(∀ s∈nmE e,(atN s ns).isSome=true)→tyD (lkV ns vs) e≠0→0≤m→m+wgt e≤1000000000000→(∀ k,F k→k<w.heap.size)→¬ F b→LkAt F w kv kn ns vs→ExAt F w e cs→WkAt w b (lookV kv kn) m→
  Calls Tryz.prog 41 #[nP b,.agg cs.toArray] w (ValP b (lookV kv kn) m w (evE (lkV ns vs) e)))
  (F:Nat→Prop) (op ty bits:Int) (name:List UInt8) (op1 ty1 bits1:Int) (name1:List UInt8) (kids1:List Ex) (t1:List UInt8) (ht1:exT (Ex.mk op1 ty1 bits1 name1 kids1)=some t1) (hw1:wgt (Ex.mk op1 ty1 bits1 name1 kids1)≤N) (hns1:∀ s∈nmE (Ex.mk op1 ty1 bits1 name1 kids1),(atN s ns).isSome=true) (op2 ty2 bits2:Int) (name2:List UInt8) (kids2:List Ex) (t2:List UInt8) (ht2:exT (Ex.mk op2 ty2 bits2 name2 kids2)=some t2) (hw2:wgt (Ex.mk op2 ty2 bits2 name2 kids2)≤N) (hns2:∀ s∈nmE (Ex.mk op2 ty2 bits2 name2 kids2),(atN s ns).isSome=true) (a:Option Addr) (cap:Nat) (xs:List Value) (w:World) (m:Int) (hop:3≤op∧op≤15) (hR:exRs [(Ex.mk op1 ty1 bits1 name1 kids1),(Ex.mk op2 ty2 bits2 name2 kids2)]) (hty:tyD (lkV ns vs) (.mk op ty bits name [(Ex.mk op1 ty1 bits1 name1 kids1),(Ex.mk op2 ty2 bits2 name2 kids2)])≠0) (hm:0≤m∧m+((wgt (Ex.mk op1 ty1 bits1 name1 kids1)+wgt (Ex.mk op2 ty2 bits2 name2 kids2)+1:Nat):Int)≤1000000000000) (hF:∀ k,F k→k<w.heap.size) (hFb:¬ F b) (hlk:LkAt F w kv kn ns vs) (hwk:WkAt w b (lookV kv kn) m)
  (hsl:SlAt F w a 2 5 xs) (hks:ExsAt F w [(Ex.mk op1 ty1 bits1 name1 kids1),(Ex.mk op2 ty2 bits2 name2 kids2)] xs):
  Calls Tryz.prog 41 #[nP b,xV op ty bits name a 2 cap] w (ValP b (lookV kv kn) m w (evE (lkV ns vs) (.mk op ty bits name [(Ex.mk op1 ty1 bits1 name1 kids1),(Ex.mk op2 ty2 bits2 name2 kids2)]))):=by
 have c1:¬ op=1:=by omega
 have c2:¬ op=2:=by omega
 have hFF:∀ k,F k→k<w.heap.size∧¬ k=b:=fun k h=>⟨hF k h,fun e=>hFb (e ▸ h)⟩
 have hgl:∀ s,(atN s ns).isSome=true→vlG (lkV ns vs s):=fun s h=>lk_G (atN_len (s:=[]) hlk) hvs h
 have hblt:b<w.heap.size:=(Array.getElem?_eq_some_iff.1 hwk).1
 refine eN [nP b,xV op ty bits name a 2 cap] Tryz.func41 (fun γ0 hγ0=>?_)
 have hγ0:∀ b,gz≤b→γ0 b=none:=hγ0
 refine rk ?_
 refine good_toLp ?_
 rw [tyD_kids c1 c2] at hty
 simp only [tyDs] at hty
 simp only [exRs] at hR
 obtain ⟨z1,z2,er⟩:=tyK2 hty
 rw [er] at hty
 have g1:=fun u m h=>ev_good (lkV ns vs) _ (Ex.mk op1 ty1 bits1 name1 kids1) t1 (Nat.le_refl _) ht1 hR.1 (fun s hs=>hgl s (hns1 s hs)) z1 u m h
 have hn1:=ev_n (lkV ns vs) _ (Ex.mk op1 ty1 bits1 name1 kids1) (Nat.le_refl _)
 have g2:=fun u m h=>ev_good (lkV ns vs) _ (Ex.mk op2 ty2 bits2 name2 kids2) t2 (Nat.le_refl _) ht2 hR.2.1 (fun s hs=>hgl s (hns2 s hs)) z2 u m h
 have hn2:=ev_n (lkV ns vs) _ (Ex.mk op2 ty2 bits2 name2 kids2) (Nat.le_refl _)
 obtain ⟨c1,hc1,hcell1⟩:=ExsAt.at_ (l1:=([]:List Ex)) (e:=(Ex.mk op1 ty1 bits1 name1 kids1)) (l3:=[(Ex.mk op2 ty2 bits2 name2 kids2)]) hks
 have hcl1:=hc1.len
 have hc10:=hc1
 simp only [ExAt] at hc10
 obtain ⟨a1,cap1,xs1,rfl,_⟩:=hc10
 have hslB:=hsl.mono hF
 refine good_loop (by kernel_rfl) ?_
 refine rs [] 60 1 ?_
 refine gI 27 29 cap (([]:List Ex).length) hslB (show ([]:List Ex).length<2 by simp) ?_
 refine rk ?_
 refine gV (xV op1 ty1 bits1 name1 a1 kids1.length cap1) (S:=Instr.loadAt 29 (.pointer (some ⟨gB a,oB a+([]:List Ex).length*5+0,none⟩))) (fun W hk=>load_slA (P:=Tryz.prog) (ty:=29) (m:=5) (cs:=(xL op1 ty1 bits1 name1 a1 kids1.length cap1)) hslB (by kernel_rfl) (by kernel_rfl) (([]:List Ex).length) 0 hcl1 hcell1 (W:=W) hk) ?_
 refine rk ?_
 refine good_callP0 (sy_cx _ _) [nP b,xV op1 ty1 bits1 name1 a1 kids1.length cap1] (fun k=>k=b) (Pr:=fun W v W'=>∃ u,(evE (lkV ns vs) (Ex.mk op1 ty1 bits1 name1 kids1)).1=some u∧v=vlV u∧WkAt W' b (lookV kv kn) (m+(evE (lkV ns vs) (Ex.mk op1 ty1 bits1 name1 kids1)).2)) (Pp:=fun W v W'=>(evE (lkV ns vs) (Ex.mk op1 ty1 bits1 name1 kids1)).1=none∧v=trapV (m+(evE (lkV ns vs) (Ex.mk op1 ty1 bits1 name1 kids1)).2)) (by kernel_rfl) (by kernel_rfl) (fun γ vs hl=>closeLL_eq (by kernel_rfl) hl) (by kernel_rfl) (fun k e=>e ▸ hblt) (fun W hk=>(ihN (Ex.mk op1 ty1 bits1 name1 kids1) _ F W m t1 hw1 ht1 hR.1 hns1 z1 (by omega) (by omega) (fun k h=>Nat.lt_of_lt_of_le (hF k h) hk.size) hFb (hlk.keep (hk.mono hF) (fun k h=>h)) (hc1.keep (hk.mono hF) (fun k h=>h)) ((hk.block b hblt).trans hwk)).mono fun e w' ⟨h1,h2,h3⟩=>h1.elim (fun ⟨u,g1,g2⟩ => .inl ⟨_,g2,⟨u,g1,rfl,h2 (by rw [g1];rfl)⟩,h3⟩) (fun ⟨g1,g2⟩ => .inr ⟨_,g2,⟨g1,rfl⟩,h3⟩)) ?_ ?_
 rotate_left
 · rintro W1 v w1 B1 hkW1 ⟨hu1,rfl⟩ hkk1 hk01 hB01 hBn1 hB1
   have e1:evE (lkV ns vs) (Ex.mk op1 ty1 bits1 name1 kids1)=(none,(evE (lkV ns vs) (Ex.mk op1 ty1 bits1 name1 kids1)).2):=Prod.ext hu1 rfl
   have hev:evE (lkV ns vs) (.mk op ty bits name [(Ex.mk op1 ty1 bits1 name1 kids1),(Ex.mk op2 ty2 bits2 name2 kids2)])=(none,(evE (lkV ns vs) (Ex.mk op1 ty1 bits1 name1 kids1)).2):=by
    rw [evE_kids c1 c2]
    simp only [evEs]
    rw [e1]
    rfl
   rw [hev]
   exact goodP_endV (trapV (m+(evE (lkV ns vs) (Ex.mk op1 ty1 bits1 name1 kids1)).2)) (by kernel_rfl) (by kernel_rfl) (fun W3 hk3=>⟨.inr ⟨rfl,by rfl⟩,fun h=>(by cases h),(hk01).trans (hk3.mono fun k h=>hB01 k h.1)⟩)
 rintro W1 v w1 B1 hkW1 ⟨⟨tt1,xx1⟩,hu1,rfl,hwk1⟩ hkk1 hk01 hB01 hBn1 hB1
 have e1:evE (lkV ns vs) (Ex.mk op1 ty1 bits1 name1 kids1)=(some (tt1,xx1),(evE (lkV ns vs) (Ex.mk op1 ty1 bits1 name1 kids1)).2):=Prod.ext hu1 rfl
 obtain ⟨gt1,gv1⟩:=g1 _ _ e1
 refine rk ?_
 obtain ⟨c2,hc2,hcell2⟩:=ExsAt.at_ (l1:=[(Ex.mk op1 ty1 bits1 name1 kids1)]) (e:=(Ex.mk op2 ty2 bits2 name2 kids2)) (l3:=[]) hks
 have hcl2:=hc2.len
 have hc20:=hc2
 simp only [ExAt] at hc20
 obtain ⟨a2,cap2,xs2,rfl,_⟩:=hc20
 have hslB:=(hsl.keep (hk01.mono hFF)).mono (fun k h=>hB01 k (hF k h))
 refine good_loop (by kernel_rfl) ?_
 refine rs [] 60 1 ?_
 refine gI 27 29 cap (([(Ex.mk op1 ty1 bits1 name1 kids1)]:List Ex).length) hslB (show ([(Ex.mk op1 ty1 bits1 name1 kids1)]:List Ex).length<2 by simp) ?_
 refine rk ?_
 refine gV (xV op2 ty2 bits2 name2 a2 kids2.length cap2) (S:=Instr.loadAt 29 (.pointer (some ⟨gB a,oB a+([(Ex.mk op1 ty1 bits1 name1 kids1)]:List Ex).length*5+0,none⟩))) (fun W hk=>load_slA (P:=Tryz.prog) (ty:=29) (m:=5) (cs:=(xL op2 ty2 bits2 name2 a2 kids2.length cap2)) hslB (by kernel_rfl) (by kernel_rfl) (([(Ex.mk op1 ty1 bits1 name1 kids1)]:List Ex).length) 0 hcl2 hcell2 (W:=W) hk) ?_
 refine rk ?_
 refine good_callP0 (sy_cx _ _) [nP b,xV op2 ty2 bits2 name2 a2 kids2.length cap2] (fun k=>k=b) (Pr:=fun W v W'=>∃ u,(evE (lkV ns vs) (Ex.mk op2 ty2 bits2 name2 kids2)).1=some u∧v=vlV u∧WkAt W' b (lookV kv kn) ((m+(evE (lkV ns vs) (Ex.mk op1 ty1 bits1 name1 kids1)).2)+(evE (lkV ns vs) (Ex.mk op2 ty2 bits2 name2 kids2)).2)) (Pp:=fun W v W'=>(evE (lkV ns vs) (Ex.mk op2 ty2 bits2 name2 kids2)).1=none∧v=trapV ((m+(evE (lkV ns vs) (Ex.mk op1 ty1 bits1 name1 kids1)).2)+(evE (lkV ns vs) (Ex.mk op2 ty2 bits2 name2 kids2)).2)) (by kernel_rfl) (by kernel_rfl) (fun γ vs hl=>closeLL_eq (by kernel_rfl) hl) (by kernel_rfl) (fun k e=>e ▸ hB01 b hblt) (fun W hk=>(ihN (Ex.mk op2 ty2 bits2 name2 kids2) _ F W (m+(evE (lkV ns vs) (Ex.mk op1 ty1 bits1 name1 kids1)).2) t2 hw2 ht2 hR.2.1 hns2 z2 (by omega) (by omega) (fun k h=>Nat.lt_of_lt_of_le (hB1 k (hB01 k (hF k h))) hk.size) hFb (hlk.keep ((hk01.mono hFF).trans (hk.mono fun k h=>hB01 k (hF k h))) (fun k h=>h)) (hc2.keep ((hk01.mono hFF).trans (hk.mono fun k h=>hB01 k (hF k h))) (fun k h=>h)) ((hk.block b (hB01 b hblt)).trans hwk1)).mono fun e w' ⟨h1,h2,h3⟩=>h1.elim (fun ⟨u,g1,g2⟩ => .inl ⟨_,g2,⟨u,g1,rfl,h2 (by rw [g1];rfl)⟩,h3⟩) (fun ⟨g1,g2⟩ => .inr ⟨_,g2,⟨g1,rfl⟩,h3⟩)) ?_ ?_
 rotate_left
 · rintro W2 v w2 B2 hkW2 ⟨hu2,rfl⟩ hkk2 hk12 hB12 hBn2 hB2
   have e2:evE (lkV ns vs) (Ex.mk op2 ty2 bits2 name2 kids2)=(none,(evE (lkV ns vs) (Ex.mk op2 ty2 bits2 name2 kids2)).2):=Prod.ext hu2 rfl
   have hev:evE (lkV ns vs) (.mk op ty bits name [(Ex.mk op1 ty1 bits1 name1 kids1),(Ex.mk op2 ty2 bits2 name2 kids2)])=(none,(evE (lkV ns vs) (Ex.mk op1 ty1 bits1 name1 kids1)).2+(evE (lkV ns vs) (Ex.mk op2 ty2 bits2 name2 kids2)).2):=by
    rw [evE_kids c1 c2]
    simp only [evEs]
    rw [e1,e2]
    rfl
   rw [hev]
   exact goodP_endV (trapV ((m+(evE (lkV ns vs) (Ex.mk op1 ty1 bits1 name1 kids1)).2)+(evE (lkV ns vs) (Ex.mk op2 ty2 bits2 name2 kids2)).2)) (by kernel_rfl) (by kernel_rfl) (fun W3 hk3=>⟨.inr ⟨rfl,by rw [show m+((((evE (lkV ns vs) (Ex.mk op1 ty1 bits1 name1 kids1)).2+(evE (lkV ns vs) (Ex.mk op2 ty2 bits2 name2 kids2)).2:Nat)):Int)=m+(evE (lkV ns vs) (Ex.mk op1 ty1 bits1 name1 kids1)).2+(evE (lkV ns vs) (Ex.mk op2 ty2 bits2 name2 kids2)).2 by omega]⟩,fun h=>(by cases h),(hk01.trans (hk12.mono fun k h=>⟨hB01 k h.1,h.2⟩)).trans (hk3.mono fun k h=>hB12 k (hB01 k h.1))⟩)
 rintro W2 v w2 B2 hkW2 ⟨⟨tt2,xx2⟩,hu2,rfl,hwk2⟩ hkk2 hk12 hB12 hBn2 hB2
 have e2:evE (lkV ns vs) (Ex.mk op2 ty2 bits2 name2 kids2)=(some (tt2,xx2),(evE (lkV ns vs) (Ex.mk op2 ty2 bits2 name2 kids2)).2):=Prod.ext hu2 rfl
 obtain ⟨gt2,gv2⟩:=g2 _ _ e2
 refine rk ?_
 have hev:evE (lkV ns vs) (.mk op ty bits name [(Ex.mk op1 ty1 bits1 name1 kids1),(Ex.mk op2 ty2 bits2 name2 kids2)])=(twoV op (tt1,xx1) (tt2,xx2),(evE (lkV ns vs) (Ex.mk op1 ty1 bits1 name1 kids1)).2+(evE (lkV ns vs) (Ex.mk op2 ty2 bits2 name2 kids2)).2+1):=by
  rw [evE_kids c1 c2]
  simp only [evEs]
  rw [e1,e2]
  rfl
 rw [hev]
 have hr:resT op tt1 tt2≠0:=by rw [show tt1=tyD (lkV ns vs) (Ex.mk op1 ty1 bits1 name1 kids1) from gt1,show tt2=tyD (lkV ns vs) (Ex.mk op2 ty2 bits2 name2 kids2) from gt2];exact hty
 have em:m+((evE (lkV ns vs) (Ex.mk op1 ty1 bits1 name1 kids1)).2:Int)+((evE (lkV ns vs) (Ex.mk op2 ty2 bits2 name2 kids2)).2:Int)+1=m+(((evE (lkV ns vs) (Ex.mk op1 ty1 bits1 name1 kids1)).2+(evE (lkV ns vs) (Ex.mk op2 ty2 bits2 name2 kids2)).2+1:Nat):Int):=by omega
 refine good_loop (by kernel_rfl) ?_
 refine rs [] 7 1 ?_
 refine gU [.code (seqR (seqR (seqR (Tryz.f41.body.getD .skip))))] [(0,vP b),(3,.ptr gz 0),(4,.ptr (gz+1) 0),(5,.ptr (gz+2) 0)] [(gz,bK 29 5 (xA op ty bits name a 2 cap)),(gz+1,bK 26 2 [v8 0,v6 0]),(gz+2,bK 149 4 [v8 tt1,v6 xx1,v8 tt2,v6 xx2])] (gz+3) (fun b hb=>hγ0 b (by omega)) ?_
 refine vfront op tt1 xx1 tt2 xx2 ty bits name a 2 cap b (lookV kv kn) (m+(evE (lkV ns vs) (Ex.mk op1 ty1 bits1 name1 kids1)).2+(evE (lkV ns vs) (Ex.mk op2 ty2 bits2 name2 kids2)).2) (by omega) B2 w2 γ0 hγ0 (hB12 b (hB01 b hblt)) hwk2 ?_
 intro BZ wZ hwkZ hkZ hBZ hBZlt
 have hend:∀ r W,Keep BZ wZ W→OutP (twoV op (tt1,xx1) (tt2,xx2)) (m+(evE (lkV ns vs) (Ex.mk op1 ty1 bits1 name1 kids1)).2+(evE (lkV ns vs) (Ex.mk op2 ty2 bits2 name2 kids2)).2+1) r→ValP b (lookV kv kn) m w (twoV op (tt1,xx1) (tt2,xx2),_) r W:=fun r W hk h=>by
  refine ⟨?_,fun _=>?_,hk01.trans ((hk12.mono fun k h=>⟨hB01 k h.1,h.2⟩).trans ((hkZ.mono fun k h=>⟨hB12 k (hB01 k h.1),h.2⟩).trans (hk.mono fun k h=>hBZ k (hB12 k (hB01 k h.1)))))⟩
  · show OutP _ (m+_) r
    rw [← em]
    exact h
  · show WkAt W b _ (m+_)
    rw [← em]
    exact (hk.block b (hBZ b (hB12 b (hB01 b hblt)))).trans hwkZ
 obtain rfl | rfl | ho:op=3∨op=4∨5≤op:=by omega
 · exact vtail_or tt1 xx1 tt2 xx2 ty bits name a 2 cap b (lookV kv kn) _  BZ wZ γ0 hγ0 (hBZ b (hB12 b (hB01 b hblt))) hwkZ hend
 · exact vtail_and tt1 xx1 tt2 xx2 ty bits name a 2 cap b (lookV kv kn) _  BZ wZ γ0 hγ0 (hBZ b (hB12 b (hB01 b hblt))) hwkZ hend
 · exact vtail_app op tt1 xx1 tt2 xx2 (twoV op (tt1,xx1) (tt2,xx2)) ty bits name a 2 cap b (lookV kv kn) _ (by omega) gv1.1 (fun W hw=>app_any op (by omega) (tt1,xx1) (tt2,xx2) gv1 gv2 hr b _ _ W hw) BZ wZ γ0 hγ0 (hBZ b (hB12 b (hB01 b hblt))) hwkZ hend
theorem value_any (kv kn b:Nat) (ns:List (List UInt8)) (vs:List Vl) (hvs:∀ v∈vs,vlG v):∀ (N:Nat),∀ (e:Ex) (cs:List Value) (F:Nat→Prop) (w:World) (m:Int) (t:List UInt8),wgt e≤N→exT e=some t→exR e→(∀ s∈nmE e,(atN s ns).isSome=true)→tyD (lkV ns vs) e≠0→0≤m→m+wgt e≤1000000000000→(∀ k,F k→k<w.heap.size)→¬ F b→LkAt F w kv kn ns vs→ExAt F w e cs→WkAt w b (lookV kv kn) m→
  Calls Tryz.prog 41 #[.pointer (some ⟨b,0,none⟩),.agg cs.toArray] w (ValP b (lookV kv kn) m w (evE (lkV ns vs) e)):=by
 intro N
 induction N with
 | zero=>intro e cs F w m t h;have:=wgt_pos e;omega
 | succ N ihN=>
   intro e cs F w m t hN ht hR hns hty hm hm2 hF hFb hlk hat hwk
   obtain ⟨op,ty,bits,name,kids⟩:=e
   simp only [ExAt] at hat
   obtain ⟨a,cap,xs,rfl,hsl,hks⟩:=hat
   have hRk:=(exR_lit hR).2
   simp only [wgt] at hN hm2
   have one:∀ (x:Ex) (tx:List UInt8),16≤op∧op≤19→kids=[x]→exT x=some tx→Calls Tryz.prog 41 #[.pointer (some ⟨b,0,none⟩),.agg [.int .u8 op,.int .u8 ty,.int .u64 bits,.string (str name),.slice a kids.length cap].toArray] w (ValP b (lookV kv kn) m w (evE (lkV ns vs) (.mk op ty bits name kids))):=fun x tx hop hk hx=>by
    subst hk
    have hn1:∀ s∈nmE x,(atN s ns).isSome=true:=fun s hs=>hns s (nm_kid (by simp) hs)
    obtain ⟨op1,ty1,bits1,name1,kids1⟩:=x
    simp only [wgts] at hN hm2
    exact val_1 kv kn b ns vs hvs N ihN F op ty bits name op1 ty1 bits1 name1 kids1 tx hx (by omega) hn1 a cap xs w m hop hRk hty (by omega) hF hFb hlk hwk hsl hks
   rcases exT_inv ht with ⟨h1,h2,h3⟩ | ⟨h1,h2,h3⟩ | ⟨h1,x,tx,h2,h3,h4⟩ | ⟨h1,x,tx,h2,h3,h4⟩ | ⟨h1,x,tx,h2,h3,h4⟩ | ⟨h1,x,tx,h2,h3,h4⟩ | ⟨h1,x,y,tx,tY,h2,h3,h4,h5⟩
   · subst h1 h2
     exact val_lit kv kn b ns vs ty bits name a cap w m (by omega) hwk
   · obtain ⟨i,hi⟩:=Option.isSome_iff_exists.1 (hns _ (nm_name h1))
     subst h1 h2
     exact val_name kv kn b ns vs F ty bits name i hi a cap w m (by omega) hF hFb hlk hwk
   · exact one x tx (by omega) h2 h3
   · exact one x tx (by omega) h2 h3
   · exact one x tx (by omega) h2 h3
   · exact one x tx (by omega) h2 h3
   · subst h2
     have hn1:∀ s∈nmE x,(atN s ns).isSome=true:=fun s hs=>hns s (nm_kid (by simp) hs)
     have hn2:∀ s∈nmE y,(atN s ns).isSome=true:=fun s hs=>hns s (nm_kid (by simp) hs)
     obtain ⟨op1,ty1,bits1,name1,kids1⟩:=x
     obtain ⟨op2,ty2,bits2,name2,kids2⟩:=y
     simp only [wgts] at hN hm2
     exact val_2 kv kn b ns vs hvs N ihN F op ty bits name op1 ty1 bits1 name1 kids1 tx h3 (by omega) hn1 op2 ty2 bits2 name2 kids2 tY h4 (by omega) hn2 a cap xs w m (by omega) hRk hty (by omega) hF hFb hlk hwk hsl hks
end
section
theorem LR_fn {γ:Sy.Gm} (x y:Value):Sy.LR γ [Sy.norm x,.v y] [x,y]:=⟨rfl,fun i a z h1 h2=>by
 rcases i with _ | _ | i
 · simp at h1 h2;subst h1 h2;exact Sy.norm_VR _
 · simp at h1 h2;subst h1 h2;exact .v _
 · simp at h1⟩
def wkR (p:Option Vl×Nat):Value:=match p.1 with
 | some v => .tuple #[vlV v,.int .i64 p.2,.bool false]
 | none => .tuple #[vlV (0,0),.int .i64 p.2,.bool true]
open Go.Sy in
set_option maxRecDepth 100000 in
theorem worked_any (kv kn:Nat) (ns:List (List UInt8)) (vs:List Vl) (hvs:∀ v∈vs,vlG v) (e:Ex) (cs:List Value) (w:World) (t:List UInt8) (ht:exT e=some t) (hR:exR e) (hns:∀ s∈nmE e,(atN s ns).isSome=true) (hty:tyD (lkV ns vs) e≠0) (hbd:wgt e≤1000000000)
  (hlk:LkAt (·<w.heap.size) w kv kn ns vs) (hat:ExAt (·<w.heap.size) w e cs):
  CB 17 #[.agg cs.toArray,lookV kv kn] w (wkR (evE (lkV ns vs) e)):=by
 obtain ⟨op,ty,bits,name,kids⟩:=e
 have hat0:=hat
 simp only [ExAt] at hat0
 obtain ⟨a,cap,xs,rfl,_,_⟩:=hat0
 refine Sy.enter (args:=[norm (xV op ty bits name a kids.length cap),.v (lookV kv kn)]) (vs:=[xV op ty bits name a kids.length cap,lookV kv kn]) sy_fine Tryz.func17 rfl (fun γ=>LR_fn _ _) rfl (fun γ0 hγ0=>?_)
 refine rs [11] 60 0 ?_
 refine gG 7 (gz+4) 102 [lookV kv kn,nI 0] (fun k w1 B1 hk01 hB01 hk1 hkn hB1lt hcl=>?_)
 have hkb:¬ k<w.heap.size:=hkn
 refine rk ?_
 refine good_callP0 (sy_cx _ _) [nP k,xV op ty bits name a kids.length cap] (fun j=>j=k) (Pr:=fun W v W'=>∃ u,(evE (lkV ns vs) (Ex.mk op ty bits name kids)).1=some u∧v=vlV u∧WkAt W' k (lookV kv kn) (0+(evE (lkV ns vs) (Ex.mk op ty bits name kids)).2)) (Pp:=fun W v W'=>(evE (lkV ns vs) (Ex.mk op ty bits name kids)).1=none∧v=trapV (0+(evE (lkV ns vs) (Ex.mk op ty bits name kids)).2)) (by kernel_rfl) (by kernel_rfl) (fun γ vs hl=>closeLL_eq (by kernel_rfl) hl) (by kernel_rfl) (fun j e=>e ▸ hk1) (fun W hk=>(value_any kv kn k ns vs hvs _ (Ex.mk op ty bits name kids) (xL op ty bits name a kids.length cap) (·<w.heap.size) W 0 t (Nat.le_refl _) ht hR hns hty (by omega) (by omega) (fun j h=>Nat.lt_of_lt_of_le h (Nat.le_trans hk01.size hk.size)) hkb (hlk.keep (hk01.trans (hk.mono hB01)) (fun j h=>h)) (hat.keep (hk01.trans (hk.mono hB01)) (fun j h=>h)) ((hk.block k hk1).trans hcl)).mono fun e w' ⟨h1,h2,h3⟩=>h1.elim (fun ⟨u,g1,g2⟩ => .inl ⟨_,g2,⟨u,g1,rfl,h2 (by rw [g1];rfl)⟩,h3⟩) (fun ⟨g1,g2⟩ => .inr ⟨_,g2,⟨g1,rfl⟩,h3⟩)) ?_ ?_
 rotate_left
 · rintro W2 v w2 B2 hkW2 ⟨hu,rfl⟩ hkk2 hk12 hB12 hBn2 hB2
   have hw:wkR (evE (lkV ns vs) (Ex.mk op ty bits name kids)) = .tuple #[vlV (0,0),nI (0+((evE (lkV ns vs) (Ex.mk op ty bits name kids)).2:Int)),.bool true]:=by unfold wkR;rw [hu,Int.zero_add]
   rw [hw]
   exact goodP_defers (sy_cx _ _) 400 (by kernel_rfl) (by kernel_rfl) (fun γ W v _ hv _ hk=>by
    rw [closeT_eq (y := .tuple #[vlV (0,0),nI (0+((evE (lkV ns vs) (Ex.mk op ty bits name kids)).2:Int)),.bool true]) (by kernel_rfl) hv]
    exact ⟨rfl,(hk01.trans ((hk12.mono fun j h=>⟨hB01 j h,fun e=>hkb (e ▸ h)⟩).trans (hk.mono fun j h=>hB12 j (hB01 j h)))).below⟩)
 rintro W2 v w2 B2 hkW2 ⟨⟨tt,xx⟩,hu,rfl,hwk2⟩ hkk2 hk12 hB12 hBn2 hB2
 refine rk ?_
 have hat2:=rdBox2 (F:=B2) hwk2 (hB12 k hk1)
 have hL:∀ b,hasNat b []=true→∃ p,γ0 b=some p∧B2 p.1:=fun b hb=>by cases hb
 refine good_plan sy_mixed (.take 1 (.take 2 (.take 3 (.take 4 (.run 0 (.run 5 (.run 6 .done))))))) 7 (by kernel_rfl) ?_
 refine p_takes [] 3 (Bs:=B2) (ws:=w2) (by kernel_rfl) (fun _ h=>h) hL ?_
 refine p_val (nI (0+((evE (lkV ns vs) (Ex.mk op ty bits name kids)).2:Int))) (S:=Instr.loadAt 3 (.pointer (some ⟨k,0+1,none⟩))) (Bs:=B2) (ws:=w2) (by kernel_rfl) (by kernel_rfl) (fun _ h=>h) (fun W hk=>ldB hat2 (by kernel_rfl) 1 rfl hk) ?_
 refine pR (Keep B2 w2) (fun _ h=>h) ?_
 refine rk ?_
 refine pR (Keep B2 w2) (fun _ h=>h) ?_
 refine rk ?_
 refine pR (Keep B2 w2) (fun _ h=>h) ?_
 refine rk ?_
 refine p_done (by kernel_rfl) ?_ (Keep B2 w2) (by kernel_rfl) (fun _ h=>h)
 refine rk ?_
 have hw:wkR (evE (lkV ns vs) (Ex.mk op ty bits name kids)) = .tuple #[vlV (tt,xx),nI (0+((evE (lkV ns vs) (Ex.mk op ty bits name kids)).2:Int)),.bool false]:=by unfold wkR;rw [hu,Int.zero_add]
 rw [hw]
 exact good_defers (sy_cx _ _) 400 (by kernel_rfl) (by kernel_rfl) (fun γ W v _ hv _ hk=>by
  rw [closeT_eq (y := .tuple #[vlV (tt,xx),nI (0+((evE (lkV ns vs) (Ex.mk op ty bits name kids)).2:Int)),.bool false]) (by kernel_rfl) hv]
  exact ⟨rfl,(hk01.trans ((hk12.mono fun j h=>⟨hB01 j h,fun e=>hkb (e ▸ h)⟩).trans (hk.mono fun j h=>hB12 j (hB01 j h)))).below⟩)
end
section
def vldB (v:Vl):Bool:=if v.1=1 then true else if v.1=2 then !(Sy.intLt 1 v.2) else if v.1=3 then ((toN v.2.toNat:Nat):Int)==v.2 else false
theorem vldB_G {v:Vl} (h:vldB v=true) (hr:vlR v):vlG v:=by
 unfold vldB at h
 refine ⟨?_,fun _=>hr.2⟩
 split at h
 · exact .inl (by assumption)
 split at h
 · exact .inr (.inl (by assumption))
 split at h
 · exact .inr (.inr (by assumption))
 · cases h
def rsV (v:Vl) (n e:Int):Value := .tuple #[vlV v,.int .i64 n,.int .i64 e]
noncomputable def semV (ns:List (List UInt8)) (vs:List Vl) (e:Ex):Value:=
 if (ex32 e).isSome=false∨ns.length≠vs.length then rsV (0,0) 0 2
 else if vs.all vldB=false then rsV (0,0) 0 2
 else match ngt ns vs e with
  | none=>rsV (0,0) 0 6
  | some x=>if tyO (fun _=>none) x=0 then rsV (0,0) 0 2 else match (evE (lkV ns vs) e).1 with
    | some v=>rsV v (evE (lkV ns vs) e).2 0
    | none=>rsV (0,0) (evE (lkV ns vs) e).2 10
open Go.Sy in
set_option maxRecDepth 100000 in
theorem valid_any (ty bits:Int) (w:World):CB 14 #[.agg #[n8 ty,n6 bits]] w (.bool (vldB (ty,bits))):=by
 refine eN [.agg #[n8 ty,n6 bits]] Tryz.func14 (fun γ0 hγ0=>?_)
 refine rk ?_
 by_cases h1:ty=1
 ·
  refine kz ty 1 h1 ?_
  refine rs [] 60 2 ?_
  exact gR (.bool true) (fun W hk=>⟨by simp [vldB,h1],hk.below⟩)
 refine kw ty 1 h1 ?_
 refine rk ?_
 by_cases h2:ty=2
 ·
  refine kz ty 2 h2 ?_
  refine rs [] 60 2 ?_
  exact gR (.bool (!(intLt 1 bits))) (fun W hk=>⟨by simp [vldB,h2],hk.below⟩)
 refine kw ty 2 h2 ?_
 refine rk ?_
 by_cases h3:ty=3
 ·
  refine kz ty 3 h3 ?_
  refine rs [] 60 2 ?_
  refine gP [n6 bits] (.bool (((toN bits.toNat:Nat):Int)==bits)) (fun W hk=>pmay_any bits W) ?_
  refine rk ?_
  exact gR (.bool (((toN bits.toNat:Nat):Int)==bits)) (fun W hk=>⟨by simp [vldB,h3],hk.below⟩)
 refine kw ty 3 h3 ?_
 refine rk ?_
 exact gR (.bool false) (fun W hk=>⟨by simp [vldB,h1,h2,h3],hk.below⟩)
theorem realP_zero:∃ s,realP 0=some s:=by
 have h0:toN 0=0:=by
  unfold toN
  rw [if_pos (by decide)]
 exact ⟨_,realP_ok (t:=litS 0 1) (by rw [h0];exact .inl ⟨rfl,1,0,⟨Nat.le_refl _,by omega,by omega,quoW_zero (Nat.le_refl _) (by omega)⟩,rfl,fun k n hk h=>by have:=h.1;omega⟩)⟩
theorem exT_zero {t:Int} (h:tyG t):∃ s,exT (.mk 1 t 0 [] [])=some s:=by
 have h1:∃ s,litT t 0=some s:=by
  rcases h with rfl | rfl | rfl
  · exact ⟨_,rfl⟩
  · exact ⟨_,rfl⟩
  · obtain ⟨s,hs⟩:=realP_zero
    refine ⟨s,?_⟩
    unfold litT
    rw [if_neg (by decide),if_neg (by decide),if_pos rfl,if_neg (by decide),if_neg (by decide),if_pos (by decide)]
    exact hs
 obtain ⟨s,hs⟩:=h1
 refine ⟨s,?_⟩
 rw [exT]
 simp [exTs,hs]
theorem exT_re1 {op ty bits:Int} {name t a a':List UInt8} {y y':Ex} (hop:16≤op∧op≤19) (h1:exT (.mk op ty bits name [y])=some t) (h:exT y=some a) (h':exT y'=some a'):∃ t',exT (.mk op ty bits name [y'])=some t':=by
 rw [exT] at h1 ⊢
 split at h1
 · cases h1
 rename_i hc
 rw [if_neg hc]
 simp only [exTs,h'] at ⊢
 obtain rfl | rfl | rfl | rfl:op=16∨op=17∨op=18∨op=19:=by omega
 all_goals simp
theorem exT_re2 {op ty bits:Int} {name t a a' b b':List UInt8} {y y' z z':Ex} (hop:3≤op∧op≤15) (h1:exT (.mk op ty bits name [y,z])=some t) (h':exT y'=some a') (g':exT z'=some b'):∃ t',exT (.mk op ty bits name [y',z'])=some t':=by
 rw [exT] at h1 ⊢
 split at h1
 · cases h1
 rename_i hc
 rw [if_neg hc]
 simp only [exTs,h',g'] at ⊢
 rw [if_neg (by omega),if_neg (by omega),if_pos hop]
 exact ⟨_,rfl⟩
theorem ngt_all {ns:List (List UInt8)} {vs:List Vl} (hvs:∀ v∈vs,vlG v) (hl:ns.length=vs.length):∀ (N:Nat) (e x:Ex) (t:List UInt8),wgt e≤N→exT e=some t→exR e→ngt ns vs e=some x→
  (∃ tx,exT x=some tx)∧hgt x=hgt e∧exB x≤exB e∧exR x∧unk (fun _=>none) x=false∧∀ s∈nmE e,(atN s ns).isSome=true
 | 0,e,x,t,h,_,_,_=>by have:=wgt_pos e;omega
 | N+1,.mk op ty bits name kids,x,t,hN,ht,hr,hx=>by
   have hrk:=(exR_lit hr).2
   have hr0:=hr
   simp only [exR] at hr0
   simp only [wgt] at hN
   have one:∀ (y:Ex) (ty':List UInt8),16≤op∧op≤19→kids=[y]→exT y=some ty'→(∃ tx,exT x=some tx)∧hgt x=hgt (.mk op ty bits name kids)∧exB x≤exB (.mk op ty bits name kids)∧exR x∧unk (fun _=>none) x=false∧∀ s∈nmE (.mk op ty bits name kids),(atN s ns).isSome=true:=fun y ty' hop hk hy=>by
    subst hk
    rw [ngt,if_neg (by omega)] at hx
    simp only [ngts] at hx
    cases hy':ngt ns vs y with
    | none=>rw [hy'] at hx;simp at hx
    | some y'=>
      rw [hy'] at hx
      simp only [Option.map_some,Option.some.injEq] at hx
      subst hx
      simp only [wgts] at hN
      simp only [exRs] at hrk
      obtain ⟨⟨a',h1⟩,h2,h3,h4,h5,h6⟩:=ngt_all hvs hl N y y' ty' (by omega) hy hrk.1 hy'
      refine ⟨exT_re1 hop ht hy h1,by simp only [hgt,hgts,h2],by simp only [exB,exBs];omega,by simp only [exR,exRs];exact ⟨hr0.1,hr0.2.1,hr0.2.2.1,h4,trivial⟩,by simp [unk,unks,h5];omega,fun s hs=>?_⟩
      simp only [nmE,nmEs,List.append_nil] at hs
      rw [if_neg (by omega)] at hs
      exact h6 s (by simpa using hs)
   rcases exT_inv ht with ⟨h1,h2,h3⟩ | ⟨h1,h2,h3⟩ | ⟨h1,y,tx,h2,h3,h4⟩ | ⟨h1,y,tx,h2,h3,h4⟩ | ⟨h1,y,tx,h2,h3,h4⟩ | ⟨h1,y,tx,h2,h3,h4⟩ | ⟨h1,y,z,tx,tY,h2,h3,h4,h5⟩
   · subst h1 h2
     rw [ngt,if_neg (by omega)] at hx
     simp only [ngts,Option.map_some,Option.some.injEq] at hx
     subst hx
     exact ⟨⟨t,ht⟩,rfl,Nat.le_refl _,hr,by simp [unk,unks],fun s hs=>by simp [nmE,nmEs] at hs⟩
   · subst h1 h2
     cases hat:atN name ns with
     | none=>rw [ngt_none rfl hat] at hx;cases hx
     | some i=>
       rw [ngt_some rfl hat] at hx
       injection hx with hx
       subst hx
       have hi:=atN_lt hat
       have hg:vlG (vs.getD i (0,0)):=by
        rw [List.getD_eq_getElem?_getD,List.getElem?_eq_getElem (by omega)]
        exact hvs _ (List.getElem_mem _)
       refine ⟨exT_zero hg.1,by simp only [hgt,hgts],by simp only [exB,exBs,List.length_nil];omega,?_,by simp [unk,unks],fun s hs=>?_⟩
       · simp only [exR,exRs]
         rcases hg.1 with h | h | h <;> rw [h] <;> exact ⟨by omega,by omega,by omega,trivial⟩
       · simp only [nmE,nmEs,if_true,List.append_nil,List.mem_singleton] at hs
         rw [hs,hat]
         rfl
   · exact one y tx (by omega) h2 h3
   · exact one y tx (by omega) h2 h3
   · exact one y tx (by omega) h2 h3
   · exact one y tx (by omega) h2 h3
   · subst h2
     rw [ngt,if_neg (by omega)] at hx
     simp only [ngts] at hx
     cases hy':ngt ns vs y with
     | none=>rw [hy'] at hx;simp at hx
     | some y'=>
       cases hz':ngt ns vs z with
       | none=>rw [hy',hz'] at hx;simp at hx
       | some z'=>
         rw [hy',hz'] at hx
         simp only [Option.map_some,Option.some.injEq] at hx
         subst hx
         simp only [wgts] at hN
         simp only [exRs] at hrk
         obtain ⟨⟨a',p1⟩,p2,p3,p4,p5,p6⟩:=ngt_all hvs hl N y y' tx (by omega) h3 hrk.1 hy'
         obtain ⟨⟨b',q1⟩,q2,q3,q4,q5,q6⟩:=ngt_all hvs hl N z z' tY (by omega) h4 hrk.2.1 hz'
         refine ⟨exT_re2 (a:=tx) (b:=tY) h1 ht p1 q1,by simp only [hgt,hgts,p2,q2],by simp only [exB,exBs];omega,by simp only [exR,exRs];exact ⟨hr0.1,hr0.2.1,hr0.2.2.1,p4,q4,trivial⟩,by simp [unk,unks,p5,q5];omega,fun s hs=>?_⟩
         simp only [nmE,nmEs,List.append_nil] at hs
         rw [if_neg (by omega),List.nil_append,List.mem_append] at hs
         exact hs.elim (p6 s) (q6 s)
mutual
theorem ngt_tyD {ns:List (List UInt8)} {vs:List Vl}:∀ {e x:Ex},ngt ns vs e=some x→tyO (fun _=>none) x=tyD (lkV ns vs) e
 | .mk op ty bits name kids,x,hx=>by
   by_cases h2:op=2
   · cases hat:atN name ns with
     | none=>rw [ngt_none h2 hat] at hx;cases hx
     | some i=>
       rw [ngt_some h2 hat] at hx
       injection hx with hx
       subst hx
       rw [tyO,if_pos rfl,tyD,if_neg (by omega),if_pos h2]
       unfold lkV
       rw [hat]
   · rw [ngt,if_neg h2] at hx
     rw [Option.map_eq_some_iff] at hx
     obtain ⟨ks,hks,rfl⟩:=hx
     rw [tyO,tyD]
     by_cases h1:op=1
     · rw [if_pos h1,if_pos h1]
     · rw [if_neg h1,if_neg h2,if_neg h1,if_neg h2,ngts_tyD hks]
theorem ngts_tyD {ns:List (List UInt8)} {vs:List Vl}:∀ {l xs:List Ex},ngts ns vs l=some xs→tyOs (fun _=>none) xs=tyDs (lkV ns vs) l
 | [],xs,h=>by
   simp only [ngts,Option.some.injEq] at h
   subst h
   rfl
 | e::l,xs,h=>by
   simp only [ngts] at h
   cases hx:ngt ns vs e with
   | none=>rw [hx] at h;simp at h
   | some x=>
     rw [hx] at h
     simp only [Option.map_eq_some_iff] at h
     obtain ⟨zs,hz,rfl⟩:=h
     simp only [tyOs,tyDs]
     rw [ngt_tyD hx,ngts_tyD hz]
end
theorem ngt_ok {ns:List (List UInt8)} {vs:List Vl} {e x:Ex} {t:List UInt8} {k:Nat} (hR:exR e) (hvR:∀ v∈vs,vlR v) (hall:vs.all vldB=true) (hk1:k=ns.length) (hk2:k=vs.length) (hx:ex32 e=some t) (h:ngt ns vs e=some x):
  ∃ tx,ex32 x=some tx∧unk (fun _=>none) x=false∧exB x≤exB e∧exR x∧∀ s∈nmE e,(atN s ns).isSome=true:=by
 obtain ⟨⟨tx,h1⟩,h2,h3,h4,h5,h6⟩:=ngt_all (fun v hv=>vldB_G (List.all_eq_true.1 hall v hv) (hvR v hv)) (by omega) _ e x t (Nat.le_refl _) (ex32_exT hx) hR h
 refine ⟨tx,?_,h5,h3,h4,h6⟩
 unfold ex32 at hx ⊢
 rw [h2]
 split at hx
 · rename_i hh
   rw [if_pos hh]
   exact h1
 · cases hx
end
end Go.Proofs.YtinjiigdijbjeaaGreatDoor
