/- Texts of this proof, one behind the other. Conditions: those in each theorem. -/
import Derived.WalkKit
import Derived.WalkSpells
import Derived.WalkLawsBesides
import Derived.WalkSmall
import Derived.Lib.Hide
import Derived.Deep.AppendLies
import Derived.Deep.Draws
import Derived.Maps.AppendAt
import Derived.ChangeSame
import Derived.ProofKit
import Derived.RegionTactic
import Derived.OrdersHeld
import Derived.OpenShut
import Derived.Carry
import Derived.Deep.Slices
import Derived.Test.YtinjiigdijbjeaaGreatDoorRows
import Derived.Handy
import Derived.LaidSub
import Derived.Lib.LaidTab
import Derived.Lib.ItoaNum
import Derived.Laws.Externs
import Derived.Laws.FloatArith
import Derived.Laws.Entries
import Derived.Lib.IndexMore
import Derived.Lib.IndexBytes
set_option linter.unusedVariables false
set_option linter.unusedSimpArgs false
section
namespace Go.As
open Go Go.RowKit
def str (l:List UInt8):ByteArray:=⟨l.toArray⟩
theorem exists_str (s:ByteArray):∃ l:List UInt8,s=str l:=⟨s.data.toList,by simp [str]⟩
@[go_sem] theorem str_of_mk (l:List UInt8):ByteArray.mk l.toArray=str l:=rfl
@[go_sem] theorem str_toList (l:List UInt8):(str l).toList=l:=ByteArray.toList_mk l
theorem str_data (l:List UInt8):(str l).data.toList=l:=by simp [str]
@[go_sem] theorem str_size (l:List UInt8):(str l).size=l.length:=by simp [str,ByteArray.size]
@[go_sem] theorem str_get (l:List UInt8) (i:Nat) (h:i<(str l).size):(str l)[i]=l[i]'(by simpa [str,ByteArray.size] using h):=rfl
@[go_sem] theorem str_extract (l:List UInt8) (a b:Nat):(str l).extract a b=str ((l.drop a).take (b - a)):=ByteArray.extract_mk l a b
@[go_sem] theorem str_append (a b:List UInt8):str a++str b=str (a++b):=by
 apply ByteArray.ext;simp [str,ByteArray.data_append]
theorem ret_int {k:IntKind} {a b:Int} (h:a=b):Ending.returned (.int k a) = .returned (.int k b):=by rw [h]
theorem ret_bool {a b:Bool} (h:a=b):Ending.returned (.bool a) = .returned (.bool b):=by rw [h]
theorem blk_add (a:Addr) (n:Nat):(a.add n).block=a.block:=by unfold Addr.add;split <;> rfl
theorem add_add' (a:Addr) (i j:Nat):(a.add i).add j=a.add (i+j):=by
 unfold Addr.add
 by_cases hi:i=0 <;> by_cases hj:j=0 <;> simp [hi,hj,Nat.add_assoc]
theorem below_then {w w1 w2:World} (h:Below w.heap.size w w1) (h2:Below w1.heap.size w1 w2):Below w.heap.size w w2:=h.trans (h2.mono h.size)
def Sl (w:World) (sz:Nat) (a:Option Addr) (n:Nat) (xs:List Value):Prop:=
 xs.length=n*sz∧(0<n→∃ ad,a=some ad∧ad.block<w.heap.size∧∀ j u,xs[j]?=some u→w.cell? (ad.add j)=some u)
section
variable {w w':World} {sz n:Nat} {a:Option Addr} {xs:List Value}
theorem Sl.len1 (h:Sl w 1 a n xs):xs.length=n:=by have:=h.1;omega
theorem Sl.keep (h:Sl w sz a n xs) (hs:w.heap.size≤w'.heap.size) (hk:∀ p:Addr,p.block<w.heap.size→w'.cell? p=w.cell? p):Sl w' sz a n xs:=
 ⟨h.1,fun hn=>by
  obtain ⟨ad,e,hb,hc⟩:=h.2 hn
  exact ⟨ad,e,by omega,fun j u hu=>(hk _ (by rw [blk_add];exact hb)).trans (hc j u hu)⟩⟩
theorem Sl.below (h:Sl w sz a n xs) (hb:Below w.heap.size w w'):Sl w' sz a n xs:=h.keep hb.size fun _ hp=>hb.cell hp
theorem Sl.at_ {k j:Nat} (h:Sl w sz a n xs) (hk:k<n) (hj:j<sz):∃ ad u,a=some ad∧ad.block<w.heap.size∧xs[k*sz+j]?=some u∧w.cell? (ad.add (k*sz+j))=some u:=by
 obtain ⟨ad,e,hb,hc⟩:=h.2 (by omega)
 have hl:k*sz+j<xs.length:=by
  rw [h.1]
  calc k*sz+j<k*sz+sz:=by omega
   _=(k+1)*sz:=by rw [Nat.add_mul];omega
   _≤n*sz:=Nat.mul_le_mul_right _ hk
 exact ⟨ad,xs[k*sz+j],e,hb,List.getElem?_eq_getElem hl,hc _ _ (List.getElem?_eq_getElem hl)⟩
theorem Sl.at1 {k:Nat} (h:Sl w 1 a n xs) (hk:k<n):∃ ad u,a=some ad∧ad.block<w.heap.size∧xs[k]?=some u∧w.cell? (ad.add k)=some u:=by
 simpa using h.at_ hk (show 0<1 by omega)
end
def Blk (w:World) (g:Nat) (t:TypeId) (cs:Array Value):Prop:=w.heap[g]?=some (.cells cs t (0,0))
section
variable {w w':World} {g:Nat} {t:TypeId} {cs:Array Value}
theorem Blk.lt (h:Blk w g t cs):g<w.heap.size:=by
 rcases Nat.lt_or_ge g w.heap.size with hlt | hge
 · exact hlt
 · unfold Blk at h;rw [Array.getElem?_eq_none hge] at h;cases h
theorem Blk.cell (h:Blk w g t cs) (i:Nat):w.cell? ⟨g,i,none⟩=cs[i]?:=cell_of_row w g i cs t (0,0) h
theorem Blk.frozen (h:Blk w g t cs) (i:Nat):w.frozen? ⟨g,i,none⟩=false:=by
 unfold Blk at h
 simp [World.frozen?,h]
theorem Blk.set_ (h:Blk w g t cs) (i:Nat) (u:Value):Blk (w.setCell ⟨g,i,none⟩ u) g t (cs.setIfInBounds i u):=by
 unfold Blk at h ⊢
 simp [World.setCell,Array.getElem?_modify,h]
end
section
variable {F G:Nat→Prop} {w w' w'':World}
end
end Go.As
end
section
namespace Go.As
open Go
inductive Plan where
 | done
 | take (i:Nat) (p:Plan)
 | run (i:Nat) (p:Plan)
 | alt (p q:Plan)
def Plan.heads:Plan→List Nat
 | .run i _=>[i]
 | .alt p q=>p.heads++q.heads
 | _=>[]
def Plan.depth:Plan→Nat
 | .done=>0
 | .take _ p=>p.depth+1
 | .run _ p=>p.depth+1
 | .alt p q=>max p.depth q.depth
def Plan.fits (md:Region.Mode) (ops:Array Oper):Bool→Plan→Array Bool→Bool
 | true,.done,l=>(Region.ready md ops l).isEmpty
 | true,.take i p,l=>(ops[i]?).isSome&&Region.free md ops l i&&(Region.ready md ops l).contains i&&p.fits md ops true (l.setIfInBounds i true)
 | true,.run i p,l=>(Region.ready md ops l==[i])&&p.fits md ops true (l.setIfInBounds i true)
 | true,.alt p q,l=>!(Region.ready md ops l).isEmpty&&((Region.ready md ops l).all fun i=>p.heads.contains i || q.heads.contains i)&&p.fits md ops false l&&q.fits md ops false l
 | false,.run i p,l=>p.fits md ops true (l.setIfInBounds i true)
 | false,.alt p q,l=>p.fits md ops false l&&q.fits md ops false l
 | false,_,_=>false
section
variable {P:Program} {ops:Array Oper} {Q:Exit→Act→World→Prop} {md:Region.Mode}
def wpPlan (P:Program) (ops:Array Oper) (Q:Exit→Act→World→Prop):Plan→Act→World→Prop
 | .done,a,w=>Q .normal a w
 | .take i p,a,w=>∃ o v,ops[i]?=some o∧Yields P ops o v a∧wpPlan P ops Q p (a.put o.dst v) w
 | .run i p,a,w=>wpOp P ops Q i (wpPlan P ops Q p) a w
 | .alt p q,a,w=>wpPlan P ops Q p a w∧wpPlan P ops Q q a w
theorem wpPlan_sound (hs:Region.noSelect ops=true) (hQ:∀ c a w d v,Q (.panic c) (a.put d v) w→Q (.panic c) a w):∀ (p:Plan) (fuel:Nat) (l:Array Bool) (a:Act) (w:World),
  p.depth≤fuel→
  (p.fits md ops true l=true→wpPlan P ops Q p a w→wpAny P md ops Q fuel l a w)∧
  (p.fits md ops false l=true→wpPlan P ops Q p a w→∀ fuel',fuel=fuel'+1→∀ i∈p.heads,wpOp P ops Q i (wpAny P md ops Q fuel' (l.setIfInBounds i true)) a w):=by
 intro p
 induction p with
 | done=>
   intro fuel l a w _
   refine ⟨fun hf h=>?_,fun hf=>by simp [Plan.fits] at hf⟩
   exact wpAny_done (by simpa [Plan.fits] using hf) h fuel
 | take i p ih=>
   intro fuel l a w hd
   refine ⟨fun hf h=>?_,fun hf=>by simp [Plan.fits] at hf⟩
   simp only [Plan.fits,Bool.and_eq_true] at hf
   obtain ⟨o,v,hi,hy,h⟩:=h
   cases fuel with
   | zero=>simp [Plan.depth] at hd
   | succ fuel=>
     exact wpAny_take hi hs hf.1.1.2 hf.1.2 (fun c a w hq=>hQ _ _ _ _ _ hq) hy (((ih fuel _ _ _ (by simp [Plan.depth] at hd;omega)).1) hf.2 h)
 | run i p ih=>
   intro fuel l a w hd
   cases fuel with
   | zero=>simp [Plan.depth] at hd
   | succ fuel=>
     have hp:p.depth≤fuel:=by simp [Plan.depth] at hd;omega
     refine ⟨fun hf h=>?_,fun hf h fuel' hfu j hj=>?_⟩
     · simp only [Plan.fits,Bool.and_eq_true,beq_iff_eq] at hf
       refine wpAny_all hf.1 (by simp) ?_
       intro j hj
       simp only [List.mem_singleton] at hj
       subst hj
       exact wpOp_mono (fun a w=>(ih fuel _ a w hp).1 hf.2) h
     · simp only [Plan.heads,List.mem_singleton] at hj
       subst hj
       simp only [Plan.fits] at hf
       obtain rfl:fuel=fuel':=by omega
       exact wpOp_mono (fun a w=>(ih fuel _ a w hp).1 hf) h
 | alt p q ihp ihq=>
   intro fuel l a w hd
   have h1:p.depth≤fuel:=by simp [Plan.depth] at hd;omega
   have h2:q.depth≤fuel:=by simp [Plan.depth] at hd;omega
   have key:p.fits md ops false l=true→q.fits md ops false l=true→wpPlan P ops Q (.alt p q) a w→∀ fuel',fuel=fuel'+1→∀ i,i∈p.heads∨i∈q.heads→wpOp P ops Q i (wpAny P md ops Q fuel' (l.setIfInBounds i true)) a w:=by
    intro f1 f2 h fuel' hfu i hi
    rcases hi with hi | hi
    · exact (ihp fuel l a w h1).2 f1 h.1 fuel' hfu i hi
    · exact (ihq fuel l a w h2).2 f2 h.2 fuel' hfu i hi
   refine ⟨fun hf h=>?_,fun hf h fuel' hfu i hi=>?_⟩
   · simp only [Plan.fits,Bool.and_eq_true,List.all_eq_true,Bool.or_eq_true] at hf
     have hne:Region.ready md ops l≠[]:=by
      intro e;rw [e] at hf;simp at hf
     cases fuel with
     | zero=>
       exfalso
       obtain ⟨i,hi⟩:=List.exists_mem_of_ne_nil _ hne
       have hh:∀ r:Plan,r.depth=0→r.heads=[]:=by
        intro r
        induction r with
        | done=>intro _;rfl
        | take i p _=>intro _;rfl
        | run i p _=>intro h;simp [Plan.depth] at h
        | alt p q ip iq=>intro h;simp only [Plan.depth] at h;simp only [Plan.heads,ip (by omega),iq (by omega),List.append_nil]
       have:=hf.1.1.2 i hi
       rw [hh p (by omega),hh q (by omega)] at this
       simp at this
     | succ fuel=>
       refine wpAny_all rfl hne ?_
       intro i hi
       have:=hf.1.1.2 i hi
       exact key hf.1.2 hf.2 h fuel rfl i (by simpa using this)
   · simp only [Plan.fits,Bool.and_eq_true] at hf
     exact key hf.1 hf.2 h fuel' hfu i (by simpa [Plan.heads] using hi)
def NoPan (Q:Exit→Act→World→Prop):Exit→Act→World→Prop
 | .panic c,a,w=>a.defers=[]∧∀ a':Act,a'.defers=[]→Q (.panic c) a' w
 | e,a,w=>Q e a w
theorem NoPan.imp {Q:Exit→Act→World→Prop}:∀ (e:Exit) (a:Act) (w:World),NoPan Q e a w→Q e a w:=fun e a w h=>by
 cases e <;> first | exact h | exact h.2 a h.1
theorem put_defers (a:Act) (d:Option Tmp) (v:Value):(a.put d v).defers=a.defers:=by cases d <;> rfl
theorem NoPan.put {Q:Exit→Act→World→Prop}:∀ (c:List PanicEntry) (a:Act) (w:World) (d:Option Tmp) (v:Value),NoPan Q (.panic c) (a.put d v) w→NoPan Q (.panic c) a w:=fun _ a _ d v h=>⟨(put_defers a d v).symm.trans h.1,h.2⟩
section
variable {i:Nat} {p q:Plan} {a:Act} {w:World} {o:Oper} {v:Value}
end
end
section
variable {P:Program} {ops:Array Oper} {Q:Exit→Act→World→Prop} {md:Region.Mode} {S:World→Prop}
def wpPlanH (P:Program) (ops:Array Oper) (Q:Exit→Act→World→Prop) (S:World→Prop):Plan→Act→World→Prop
 | .done,a,w=>Q .normal a w
 | .take i p,a,w=>S w∧∃ o v,ops[i]?=some o∧YieldsIf P ops S o v a∧wpPlanH P ops Q S p (a.put o.dst v) w
 | .run i p,a,w=>wpOp P ops Q i (fun a' w'=>S w'∧wpPlanH P ops Q S p a' w') a w
 | .alt p q,a,w=>wpPlanH P ops Q S p a w∧wpPlanH P ops Q S q a w
theorem wpPlanH_sound (hs:Region.noSelect ops=true) (hQ:∀ c a w d v,Q (.panic c) (a.put d v) w→Q (.panic c) a w):∀ (p:Plan) (fuel:Nat) (l:Array Bool) (a:Act) (w:World),
  p.depth≤fuel→
  (p.fits md ops true l=true→wpPlanH P ops Q S p a w→wpAnyH P md ops Q S fuel l a w)∧
  (p.fits md ops false l=true→wpPlanH P ops Q S p a w→∀ fuel',fuel=fuel'+1→∀ i∈p.heads,wpOp P ops Q i (fun a' w'=>S w'∧wpAnyH P md ops Q S fuel' (l.setIfInBounds i true) a' w') a w):=by
 intro p
 induction p with
 | done=>
   intro fuel l a w _
   refine ⟨fun hf h=>?_,fun hf=>by simp [Plan.fits] at hf⟩
   exact wpAnyH_done (by simpa [Plan.fits] using hf) h fuel
 | take i p ih=>
   intro fuel l a w hd
   refine ⟨fun hf h=>?_,fun hf=>by simp [Plan.fits] at hf⟩
   simp only [Plan.fits,Bool.and_eq_true] at hf
   obtain ⟨hS,o,v,hi,hy,h⟩:=h
   cases fuel with
   | zero=>simp [Plan.depth] at hd
   | succ fuel=>
     exact wpAnyH_take hi hs hf.1.1.2 hf.1.2 (fun c a w hq=>hQ _ _ _ _ _ hq) hy hS (((ih fuel _ _ _ (by simp [Plan.depth] at hd;omega)).1) hf.2 h)
 | run i p ih=>
   intro fuel l a w hd
   cases fuel with
   | zero=>simp [Plan.depth] at hd
   | succ fuel=>
     have hp:p.depth≤fuel:=by simp [Plan.depth] at hd;omega
     refine ⟨fun hf h=>?_,fun hf h fuel' hfu j hj=>?_⟩
     · simp only [Plan.fits,Bool.and_eq_true,beq_iff_eq] at hf
       refine wpAnyH_all hf.1 (by simp) ?_
       intro j hj
       simp only [List.mem_singleton] at hj
       subst hj
       exact wpOp_mono (fun a w h=>⟨h.1,(ih fuel _ a w hp).1 hf.2 h.2⟩) h
     · simp only [Plan.heads,List.mem_singleton] at hj
       subst hj
       simp only [Plan.fits] at hf
       obtain rfl:fuel=fuel':=by omega
       exact wpOp_mono (fun a w h=>⟨h.1,(ih fuel _ a w hp).1 hf h.2⟩) h
 | alt p q ihp ihq=>
   intro fuel l a w hd
   have h1:p.depth≤fuel:=by simp [Plan.depth] at hd;omega
   have h2:q.depth≤fuel:=by simp [Plan.depth] at hd;omega
   have key:p.fits md ops false l=true→q.fits md ops false l=true→wpPlanH P ops Q S (.alt p q) a w→∀ fuel',fuel=fuel'+1→∀ i,i∈p.heads∨i∈q.heads→wpOp P ops Q i (fun a' w'=>S w'∧wpAnyH P md ops Q S fuel' (l.setIfInBounds i true) a' w') a w:=by
    intro f1 f2 h fuel' hfu i hi
    rcases hi with hi | hi
    · exact (ihp fuel l a w h1).2 f1 h.1 fuel' hfu i hi
    · exact (ihq fuel l a w h2).2 f2 h.2 fuel' hfu i hi
   refine ⟨fun hf h=>?_,fun hf h fuel' hfu i hi=>?_⟩
   · simp only [Plan.fits,Bool.and_eq_true,List.all_eq_true,Bool.or_eq_true] at hf
     have hne:Region.ready md ops l≠[]:=by
      intro e;rw [e] at hf;simp at hf
     cases fuel with
     | zero=>
       exfalso
       obtain ⟨i,hi⟩:=List.exists_mem_of_ne_nil _ hne
       have hh:∀ r:Plan,r.depth=0→r.heads=[]:=by
        intro r
        induction r with
        | done=>intro _;rfl
        | take i p _=>intro _;rfl
        | run i p _=>intro h;simp [Plan.depth] at h
        | alt p q ip iq=>intro h;simp only [Plan.depth] at h;simp only [Plan.heads,ip (by omega),iq (by omega),List.append_nil]
       have:=hf.1.1.2 i hi
       rw [hh p (by omega),hh q (by omega)] at this
       simp at this
     | succ fuel=>
       refine wpAnyH_all rfl hne ?_
       intro i hi
       have:=hf.1.1.2 i hi
       exact key hf.1.2 hf.2 h fuel rfl i (by simpa using this)
   · simp only [Plan.fits,Bool.and_eq_true] at hf
     exact key hf.1 hf.2 h fuel' hfu i (by simpa [Plan.heads] using hi)
section
variable {i:Nat} {p q:Plan} {a:Act} {w:World} {o:Oper} {v:Value}
end
end
end Go.As
end
section
namespace Go.As
open Go Go.RowKit
def SameOrNew (w:World) (v v':Value):Prop:=∀ k,v'.ownBlock=some k→v.ownBlock=some k∨w.heap.size≤k
theorem SameOrNew.rfl (w:World) (v:Value):SameOrNew w v v:=fun _ h => .inl h
section
variable {P:Program} {w:World}
theorem run_app_nil (base:Nat) (t ty e:TypeId) (i:TypeInfo) (sz:Nat) (ht:P.underlying t=some (.slice e)) (hi:P.info? e=some i)
  (v:Value) (n:Nat) (xs:List Value) (hown:w.ownsRow base e sz v n xs) (c:Nat):(Builtin.append_ #[t,t] ty #[v,.slice none 0 c]).run P w = .ok v w:=by
 rcases hown.2 with ⟨rfl,rfl⟩ | ⟨g,cap,cur,rfl,_,_,hnc,_⟩
 · simp [Builtin.append_,run_underlying ht,sizeOf,typeInfo,hi,Builtin.lenOf,Builtin.firstCells]
 · simp [Builtin.append_,run_underlying ht,sizeOf,typeInfo,hi,Builtin.lenOf,Builtin.firstCells,hnc,storeCells]
theorem run_app (base:Nat) (t ty e:TypeId) (z:Value) (sz bytes:Nat) (ht:P.underlying t=some (.slice e))
  (hinf:(P.info? e).map (fun i=>(i.zero,i.size,i.bytes))=some (some z,sz,bytes)) (hzs:z.cells.size=sz) (hsz:0<sz) (hby:0<bytes)
  (v:Value) (n:Nat) (xs:List Value) (hown:w.ownsRow base e sz v n xs)
  (A:Option Addr) (m c:Nat) (news:List Value) (hr:Sl w sz A m news) (h1:∀ u∈news,u.oneCell'=true)
  (hbytes:(n+m)*bytes≤140737488355328) (hbase:base≤w.heap.size):
  ∃ v' w',(Builtin.append_ #[t,t] ty #[v,.slice A m c]).run P w = .ok v' w'∧w'.ownsRow base e sz v' (n+m) (xs++news)∧w.grownBy w' v.ownBlock∧SameOrNew w v v':=by
 obtain ⟨i,hi,hz,hs,hb⟩:=info_parts hinf
 have h63:n+m≤maxLen:=by
  have:(n+m)*1≤(n+m)*bytes:=Nat.mul_le_mul_left _ hby
  simp only [maxLen];omega
 rcases A with _ | ad
 · have hm:m=0:=by
    rcases Nat.eq_zero_or_pos m with h0 | h0
    · exact h0
    · obtain ⟨ad,h,_⟩:=hr.2 h0
      cases h
   subst hm
   have hn:news=[]:=List.eq_nil_of_length_eq_zero (by simpa using hr.1)
   subst hn
   exact ⟨v,w,run_app_nil base t ty e i sz ht hi v n xs hown c,by simpa using hown,⟨rfl,rfl,rfl,Nat.le_refl _,fun _ _ _=>rfl⟩,SameOrNew.rfl _ _⟩
 · have hcells:∀ j u,news[j]?=some u→w.cell? (ad.add j)=some u:=by
    intro j u hu
    rcases Nat.eq_zero_or_pos m with h0 | h0
    · subst h0
      have hn:news=[]:=List.eq_nil_of_length_eq_zero (by simpa using hr.1)
      subst hn
      simp at hu
    · obtain ⟨ad',h,_,hc⟩:=hr.2 h0
      injection h with h
      subst h
      exact hc j u hu
   obtain ⟨v',w',hrun,h2,h3,_,h5⟩:=run_append_own_at (P:=P) w base t ty e i z sz bytes ht hi hz hs hb hzs hsz v n xs hown ad m c news hr.1 hcells h1 h63 hbytes hbase
   refine ⟨v',w',hrun,h2,h3,fun k hk=>?_⟩
   rcases h5 with h5 | h5
   · exact .inl (h5 ▸ hk)
   · rw [hk] at h5;injection h5 with h5;exact .inr (by omega)
section
variable {ops:Array Oper} {rest:List Oper} {o:Oper} {a:Act} {Q:Exit→Act→World→Prop} {K:Act→World→Prop}
end
theorem run_make_zero (t e:TypeId) (z:Value) (sz bytes:Nat) (ht:P.underlying t=some (.slice e))
  (hinf:(P.info? e).map (fun i=>(i.zero,i.size,i.bytes))=some (some z,sz,bytes)) (kl kc:IntKind) (n:Nat) (hb:bytes*n≤281474976710656) (h63:n≤9223372036854775807) (w:World):
  (Instr.makeSlice t (.int kl (n:Int)) (.int kc (n:Int))).run P w = .ok (.slice (some ⟨w.heap.size,0,none⟩) n n) (w.alloc (.cells (madeCells z.cells (n*sz)) e)):=by
 obtain ⟨i,hi,hz,rfl,rfl⟩:=info_parts hinf
 have hb':(i.bytes:Int)*(n:Int)≤281474976710656:=by
  have:((i.bytes*n:Nat):Int)≤281474976710656:=by omega
  rwa [Int.natCast_mul] at this
 have hr:=run_make (P:=P) w t e i z ht hi hz kl kc n n (by omega) (by omega) hb' (by omega)
 simpa using hr
theorem run_slice_hi (t e:TypeId) (z:Value) (sz bytes:Nat) (ht:P.underlying t=some (.slice e))
  (hinf:(P.info? e).map (fun i=>(i.zero,i.size,i.bytes))=some (some z,sz,bytes)) (A:Option Addr) (n c:Nat) (kd:IntKind) (i:Int) (h0:0≤i) (h1:i≤c) (w:World):
  (Instr.slice t (.slice A n c) none (some (.int kd i)) none).run P w = .ok (.slice A i.toNat c) w:=by
 obtain ⟨j,hi,-,rfl,-⟩:=info_parts hinf
 have hj:0≤i∧i≤(c:Int):=⟨h0,h1⟩
 have ha:(if c=0 then A else A.map (·.add (0*j.size)))=A:=by
  split
  · rfl
  · cases A with
    | none=>rfl
    | some ad=>simp [Addr.add]
 simp [Instr.slice,Instr.sliceBounds,Instr.sliceBound,asIntOf,run_underlying ht,sizeOf,typeInfo,hi,hj]
 simpa using ha
end
end Go.As
end
section
namespace Go.As
open Go Go.RowKit Go.WideShapes Go.ChangeShapes Go.ChangeAt
section
variable {H:Type} {enc:TypeId×Value→H} {P:Program}
theorem args_stay (hl:laidOutB P=true) {W W':World} (hb:Below W.heap.size W W') {sp:Nat→Bool}:∀ {ts:List TypeId} {vs:List Value} {ds:List (DataW H)} {ps:List MemPlace},
  (ts.all fun t=>P.readableRec t&&decide (t<P.types.size))=true→
  DataW.TrodAll enc P W 0 (fun _=>true) true ts vs ds ps→(∀ x∈ps,x.block<W.heap.size)→(∀ x∈ps,sp x.block=true)→DataW.TrodAll enc P W' 0 sp true ts vs ds ps
 | [],[],[],_,_,h,_,_=>h
 | t::ts,v::vs,d::ds,ps,hr,h,hlt,hs=>by
   obtain ⟨p,q,h1,h2,e⟩:=h
   rw [List.all_cons,Bool.and_eq_true,Bool.and_eq_true] at hr
   refine ⟨p,q,?_,?_,e⟩
   · exact WideElems.Trod_stays hl hr.1.1 (of_decide_eq_true hr.1.2) h1 (fun x hx=>hb.same (hlt x (by rw [e];exact List.mem_append_left _ hx))) (fun x hx=>hs x (by rw [e];exact List.mem_append_left _ hx))
   · exact args_stay hl hb hr.2 h2 (fun x hx=>hlt x (by rw [e];exact List.mem_append_right _ hx)) (fun x hx=>hs x (by rw [e];exact List.mem_append_right _ hx))
theorem law_post {f:Func} {s:ChangeSpec} {apart again:Bool} {W W':World} {args:Array Value} {ds gs:List (DataW H)} {before:List MemPlace} {T:TypeId}
  (hl:laidOutB P=true) (hr:(f.params.toList.all fun t=>P.readableRec t&&decide (t<P.types.size))=true)
  (hT:P.underlying T=some .bool) (hres:f.resultTypes=#[T]) (hv:s.vars=[])
  (hW:DataW.Whole enc P f.params.toList s.vars apart W args.toList ds gs before)
  (hs:(s.fn H (ds++gs)).results=[.lit (.bool true)]) (ha:(s.fn H (ds++gs)).args=ds) (hvs:(s.fn H (ds++gs)).vars=[])
  (hb:Below W.heap.size W W'):s.post enc P f apart true false again W args (.bool true) W':=by
 have hlt:∀ p∈before,p.block<W.heap.size:=fun p hp=>hW.lt p hp
 obtain ⟨p,q,hA,hV,rfl,hz,hn⟩:=id hW
 rw [hv] at hV
 obtain ⟨rfl,rfl⟩:=trodVars_none hV
 have hpl:∀ x∈p,x.block<W.heap.size:=fun x hx=>hlt x (by simpa using hx)
 have hok:∀ (j:Nat) (t:TypeId) (r:Value),f.resultTypes[j]?=some t→((Value.bool true).resultList f.resultTypes.size)[j]?=some r→Value.okWide P W' .any 0 t r:=by
  rw [hres]
  exact ok_one hres rfl (okWide_bool_mk hT true) |> fun h=>by simpa [hres] using h
 have hres':∀ (b:Nat) (sp:Nat→Bool) (hd:Bool),DataW.TrodAll enc P W' b sp hd f.resultTypes.toList ((Value.bool true).resultList f.resultTypes.size) (s.fn H (ds++[])).results []:=by
  intro b sp hd
  rw [hres,hs]
  exact trodAll_mk1 (shut_bool hT true)
 have hA1:∀ sp:Nat→Bool,(∀ x∈p,sp x.block=true)→DataW.TrodAll enc P W' 0 sp true f.params.toList args.toList (s.fn H (ds++[])).args p:=by
  intro sp hsp
  rw [ha];exact args_stay hl hb hr hA hpl hsp
 have hV1:∀ sp:Nat→Bool,DataW.TrodVars enc P W' sp s.vars (s.fn H (ds++[])).vars []:=by
  intro sp
  rw [hv,hvs];exact rfl
 refine ⟨ds,[],p++[],[],p,[],hW,hres' _ _ _,hA1 _ (fun x hx=>by simpa using hpl x hx),hV1 _,World.keptBut_mono (fun x hx=>⟨hx,Or.inr (by simpa using hx)⟩) (hb.frame (·∈p++[])),fun _=>?_⟩
 refine ⟨hok,_,_,([]++p)++[],⟨[]++p,[],trodAll_append (hA1 _ (fun _ _=>rfl)) (hres' _ _ _),hV1 _,rfl,?_,?_⟩,?_⟩
 · intro b off hp
   have hin:MemPlace.cell b off∈p++[]:=by simpa using hp
   rw [hb.frozen (hlt _ hin)]
   exact hz b off hin
 · intro h
   have:=hn h
   simpa using this
 · intro x hx _
   simpa using hx
end
end Go.As
end
namespace Go.Proofs.YtinjiigdijbjeaaGreatDoor
open Go.RowKit Go.As
section
def Tab (W:World):Prop:=Lib.TabIs Tryz.prog W "internal/strconv.uint64pow10" .u64 Lib.pow10Tab
theorem Tab.below {w w':World} (h:Tab w) (hb:Below w.heap.size w w'):Tab w':=by
 unfold Tab Lib.TabIs World.var? at *
 cases hg:Tryz.prog.globalNamed "internal/strconv.uint64pow10" with
 | none=>simp [hg] at h
 | some g=>
   simp only [hg,Option.bind_some] at h ⊢
   have hlt:g<w.heap.size:=by
    rcases Nat.lt_or_ge g w.heap.size with h' | h'
    · exact h'
    · rw [Array.getElem?_eq_none h'] at h;simp at h
   rw [hb.block g hlt]
   exact h
theorem tab_of_laid {laid:List (String×DataW Unit)} {W:World} (hl:laid.filter (fun x=>x.1 == "internal/strconv.uint64pow10")=[("internal/strconv.uint64pow10",Lib.tabData .u64 Lib.pow10Tab)]) (h:laidMetH Tryz.prog laid W):Tab W:=by
 have h2:=h.filter (fun x=>x.1 == "internal/strconv.uint64pow10")
 rw [hl] at h2
 have h2:laidMet Tryz.prog [("internal/strconv.uint64pow10",Lib.tabData .u64 Lib.pow10Tab)] W:=h2
 exact Lib.tabIs_of_head (P:=Tryz.prog) (g:=1) (t:=274) (e:=24) (n:=20) (by kernel_rfl) (by kernel_rfl) Tryz.underlying274 Tryz.underlying24 (by kernel_rfl) (by kernel_rfl) h2
end
section
def letterB (c:Int):Bool:=decide (97≤c∧c≤122∨65≤c∧c≤90∨c=95)
def digitB (c:Int):Bool:=decide (48≤c∧c≤57)
theorem letter_any (c:Int) (w:World):Calls Tryz.prog 107 #[.int .u8 c] w fun e w'=>e = .returned (.bool (letterB c))∧w=w':=by
 go_enter Tryz.func107,Tryz.ntmps107
 go_wp2
 all_goals
  go_ret
  refine ⟨ret_bool ?_,rfl⟩
  rw [Bool.eq_iff_iff];simp [letterB] at *;omega
theorem letterR_any (c:Int) (w:World):Calls Tryz.prog 136 #[.int .u8 c] w fun e w'=>e = .returned (.bool (letterB c))∧w=w':=by
 go_enter Tryz.func136,Tryz.ntmps136
 go_wp2
 all_goals
  go_ret
  refine ⟨ret_bool ?_,rfl⟩
  rw [Bool.eq_iff_iff];simp [letterB] at *;omega
theorem digit_any (c:Int) (w:World):Calls Tryz.prog 111 #[.int .u8 c] w fun e w'=>e = .returned (.bool (digitB c))∧w=w':=by
 go_enter Tryz.func111,Tryz.ntmps111
 go_wp2
 all_goals
  go_ret
  refine ⟨ret_bool ?_,rfl⟩
  rw [Bool.eq_iff_iff];simp [digitB] at *;omega
theorem digitR_any (c:Int) (w:World):Calls Tryz.prog 138 #[.int .u8 c] w fun e w'=>e = .returned (.bool (digitB c))∧w=w':=by
 go_enter Tryz.func138,Tryz.ntmps138
 go_wp2
 all_goals
  go_ret
  refine ⟨ret_bool ?_,rfl⟩
  rw [Bool.eq_iff_iff];simp [digitB] at *;omega
theorem name1_any (c:Int) (w:World):Calls Tryz.prog 110 #[.int .u8 c] w fun e w'=>e = .returned (.bool (letterB c || digitB c))∧w=w':=by
 go_enter Tryz.func110,Tryz.ntmps110
 go_wp2_with (first | (go_at_call 107;refine (letter_any _ _).mono ?_;rintro e w' ⟨rfl,rfl⟩) | (go_at_call 111;refine (digit_any _ _).mono ?_;rintro e w' ⟨rfl,rfl⟩))
 all_goals
  go_ret
  refine ⟨ret_bool ?_,rfl⟩
  simp [*]
def runL (p:Int→Bool) (l:List UInt8) (at_:Nat):Nat:=at_+((l.drop at_).takeWhile fun c=>p (c.toNat:Int)).length
theorem runL_stop (p:Int→Bool) (l:List UInt8) (k:Nat) (h:l.length≤k):runL p l k=k:=by
 unfold runL;simp [List.drop_eq_nil_of_le h]
theorem runL_go (p:Int→Bool) (l:List UInt8) (k:Nat) (h:k<l.length):runL p l k=if p (l[k].toNat:Int) then runL p l (k+1) else k:=by
 unfold runL
 rw [List.drop_eq_getElem_cons h,List.takeWhile_cons]
 split <;> simp_all <;> omega
set_option maxHeartbeats 400000 in
theorem run_any (F:Nat) (p:Int→Bool) (l:List UInt8) (k0:Nat) (w:World) (hs:l.length≤maxLen) (hk0:k0≤l.length)
  (hc:∀ args w,(callFunc F args).run Tryz.prog w = .ok (.enter F args) w)
  (hF:Hid (∀ (c:Int) (w:World),Calls Tryz.prog F #[.int .u8 c] w fun e w'=>e = .returned (.bool (p c))∧w=w')):
  Calls Tryz.prog 109 #[.string (str l),.int .i64 k0,.func (.func F) #[] #[]] w fun e w'=>e = .returned (.int .i64 (runL p l k0))∧w=w':=by
 unfold maxLen at hs
 go_enter Tryz.func109,Tryz.ntmps109
 go_wp2_with fail
 go_loop [1] (fun i=>∃ k:Nat,k≤l.length∧i = .int .i64 k∧runL p l k=runL p l k0) (fun i=>l.length - (intOf i).toNat)
 case atStart=>exact ⟨k0,hk0,rfl,rfl⟩
 case round=>
  obtain ⟨k,hk,rfl,he⟩:=hrel
  have HE:=Lib.hid he
  clear he
  by_cases hlt:k<l.length
  · have hg:=Lib.hid (runL_go p l k hlt)
    go_wp2_with fail
    refine (hF.out _ _).mono ?_
    rintro e w' ⟨rfl,rfl⟩
    cases hp:p (l[k].toNat:Int)
    all_goals
     have HP:=Lib.hid hp
     clear hp
     go_wp2_with fail
    · go_ret
      refine ⟨ret_int ?_,rfl⟩
      rw [← HE.out,hg.out,if_neg]
      simpa using HP.out
    · go_round
      case rel=>exact ⟨k+1,by omega,by go_num,by rw [← HE.out,hg.out,if_pos];simpa using HP.out⟩
      case measure=>simp [intOf];omega
  · go_wp2_with fail
    go_ret
    refine ⟨ret_int ?_,rfl⟩
    rw [← HE.out,runL_stop _ _ _ (by omega)]
def wordsL:List (List UInt8):=[[115,104,97,114,101,100],[109,117,116,101,120],[116,104,114,101,97,100],[108,111,99,97,108],[105,110,116],[98,111,111,108],[114,101,97,108],[108,111,99,107],[117,110,108,111,99,107],[97,115,115,101,114,116],[105,102],[101,108,115,101],[119,104,105,108,101],[115,107,105,112],[116,114,117,101],[102,97,108,115,101],[110,97,110],[105,110,102]]
def wordB (l:List UInt8):Bool:=wordsL.contains l
set_option maxHeartbeats 800000 in
theorem word_any (l:List UInt8) (w:World):Calls Tryz.prog 108 #[.string (str l)] w fun e w'=>e = .returned (.bool (wordB l))∧w=w':=by
 go_enter Tryz.func108,Tryz.ntmps108
 go_wp2
 all_goals
  go_ret
  refine ⟨ret_bool ?_,rfl⟩
  simp_all [wordB,wordsL]
def wordVals:List Value:=wordsL.map fun l => .string (str l)
theorem words_any (w:World):Calls Tryz.prog 178 #[] w fun e w'=>e = .returned (.slice (some ⟨w.heap.size,0,none⟩) 18 18)∧w'=w.alloc (.cells wordVals.toArray 9):=by
 go_enter Tryz.func178,Tryz.ntmps178
 go_wp2
 go_ret
 exact ⟨rfl,rfl⟩
end
section
theorem contains_take {l:List UInt8} {k:Nat} {x:List UInt8} (h:(wordsL.take k).contains l=false) (hx:wordsL[k]?=some x) (hn:(x==l)=false):(wordsL.take (k+1)).contains l=false:=by
 rw [List.take_add_one,hx]
 have hn':x≠l:=by simpa using hn
 have hn2:¬ l=x:=fun e=>hn' e.symm
 simp_all
set_option maxHeartbeats 400000 in
theorem wordR_any (l:List UInt8) (w:World):Calls Tryz.prog 137 #[.string (str l)] w fun e w'=>e = .returned (.bool (wordB l))∧Below w.heap.size w w':=by
 go_enter Tryz.func137,Tryz.ntmps137
 go_wp2_with (go_at_call 178;refine (words_any _).mono ?_;rintro e w' ⟨rfl,rfl⟩)
 have hb:Below w.heap.size w (w.alloc (.cells wordVals.toArray 9)):=(Below.refl _ _).alloc (Nat.le_refl _) _
 have hcell:∀ k x,wordsL[k]?=some x→(w.alloc (.cells wordVals.toArray 9)).cell? ⟨w.heap.size,k,none⟩=some (.string (str x)):=by
  intro k x h
  rw [World.cell?_alloc_at _ _ _ _ rfl]
  simp [wordVals,h]
 generalize hW:w.alloc (.cells wordVals.toArray 9)=W at *
 have HB:=Lib.hid hb
 have HC:=Lib.hid hcell
 clear hb hcell hW
 go_loop [4] (fun i=>∃ k:Nat,k≤18∧i = .int .i64 k∧(wordsL.take k).contains l=false) (fun i=>18 - (intOf i).toNat)
 case atStart=>exact ⟨0,by omega,rfl,rfl⟩
 case round=>
  obtain ⟨k,hk,rfl,he⟩:=hrel
  have HE:=Lib.hid he
  clear he
  by_cases hlt:k<18
  · obtain ⟨x,hx⟩:∃ x,wordsL[k]?=some x:=⟨_,List.getElem?_eq_getElem (show k<wordsL.length from hlt)⟩
    have hg:=HC.out k x hx
    have HX:=Lib.hid hx
    clear hx
    cases heq:(x==l)
    · go_wp2_with fail
      go_round
      case rel=>exact ⟨k+1,by omega,by go_num,contains_take HE.out HX.out heq⟩
      case measure=>simp [intOf];omega
    · go_wp2_with fail
      go_ret
      refine ⟨ret_bool ?_,HB.out⟩
      simp only [beq_iff_eq] at heq
      subst heq
      have:=List.mem_of_getElem? HX.out
      simp [wordB,this]
  · go_wp2_with fail
    go_ret
    refine ⟨ret_bool ?_,HB.out⟩
    have:=HE.out
    rw [List.take_of_length_le (show wordsL.length≤k by show 18≤k;omega)] at this
    simp only [wordB,this]
def nmC (c:Int):Bool:=letterB c || digitB c
def allN (l:List UInt8):Bool:=l.all fun c=>nmC (c.toNat:Int)
def nameB (l:List UInt8):Bool:=
 if l.length<1 then false else if 24<l.length then false else
 if letterB ((l.headD 0).toNat:Int) then if wordB l then false else allN l else false
theorem allN_take {l:List UInt8} {k:Nat} (hk:k<l.length) (h:allN (l.take k)=true) (hx:nmC (l[k].toNat:Int)=true):allN (l.take (k+1))=true:=by
 rw [List.take_succ_eq_append_getElem hk]
 simp only [allN,List.all_append,List.all_cons,List.all_nil,Bool.and_true,Bool.and_eq_true]
 exact ⟨h,hx⟩
theorem allN_no {l:List UInt8} {k:Nat} (hk:k<l.length) (hx:nmC (l[k].toNat:Int)=false):allN l=false:=by
 simp only [allN,List.all_eq_false]
 exact ⟨l[k],List.getElem_mem _,by simp [hx]⟩
theorem head_get {l:List UInt8} (h:0<l.length):l.headD 0=l[0]:=by
 cases l with
 | nil=>simp at h
 | cons c r=>rfl
set_option maxHeartbeats 800000 in
theorem nameR_any (l:List UInt8) (w:World) (hl:l.length≤maxLen):Calls Tryz.prog 84 #[.string (str l)] w fun e w'=>e = .returned (.bool (nameB l))∧Below w.heap.size w w':=by
 unfold maxLen at hl
 by_cases h0:l.length<1
 · go_enter Tryz.func84,Tryz.ntmps84
   go_wp2_with fail
   go_ret
   exact ⟨ret_bool (by simp [nameB,h0]),Below.refl _ _⟩
 by_cases h1:24<l.length
 · go_enter Tryz.func84,Tryz.ntmps84
   go_wp2_with fail
   go_ret
   exact ⟨ret_bool (by simp [nameB,h1]),Below.refl _ _⟩
 have h00:0<l.length:=by omega
 cases hL:letterB (l[0].toNat:Int)
 · have HL:=Lib.hid hL
   clear hL
   go_enter Tryz.func84,Tryz.ntmps84
   go_wp2_with (go_at_call 136;refine (letterR_any _ _).mono ?_;rintro e w' ⟨rfl,rfl⟩;have hL:=HL.out)
   go_ret
   exact ⟨ret_bool (by simp only [nameB,head_get h00,HL.out];simp),Below.refl _ _⟩
 cases hw:wordB l
 all_goals
  have HL:=Lib.hid hL
  have HW:=Lib.hid hw
  clear hL hw
  go_enter Tryz.func84,Tryz.ntmps84
  go_wp2_with (first | (go_at_call 136;refine (letterR_any _ _).mono ?_;rintro e w' ⟨rfl,rfl⟩;have hL:=HL.out) | (go_at_call 137;refine (wordR_any _ _).mono ?_;rintro e w1 ⟨rfl,hb⟩;have hw:=HW.out))
 · have HB:=Lib.hid hb
   clear hb hL hw
   go_loop [3] (fun i=>∃ k:Nat,k≤l.length∧i = .int .i64 k∧allN (l.take k)=true) (fun i=>l.length - (intOf i).toNat)
   case atStart=>exact ⟨0,by omega,rfl,by simp [allN]⟩
   case round=>
    obtain ⟨k,hk,rfl,he⟩:=hrel
    have HE:=Lib.hid he
    clear he
    by_cases hlt:k<l.length
    · cases hc:letterB (l[k].toNat:Int)
      · cases hd:digitB (l[k].toNat:Int)
        · have hn:nmC (l[k].toNat:Int)=false:=by simp [nmC,hc,hd]
          have HN:=Lib.hid hn
          have HC:=Lib.hid hc
          have HD:=Lib.hid hd
          clear hn hc hd
          go_wp2_with (first | (go_at_call 136;refine (letterR_any _ _).mono ?_;rintro e w' ⟨rfl,rfl⟩;have hc:=HC.out) | (go_at_call 138;refine (digitR_any _ _).mono ?_;rintro e w' ⟨rfl,rfl⟩;have hd:=HD.out))
          go_ret
          exact ⟨ret_bool (by simp only [nameB,head_get h00,HL.out,HW.out,allN_no hlt HN.out];simp),HB.out⟩
        · have hn:nmC (l[k].toNat:Int)=true:=by simp [nmC,hc,hd]
          have HN:=Lib.hid hn
          have HC:=Lib.hid hc
          have HD:=Lib.hid hd
          clear hn hc hd
          go_wp2_with (first | (go_at_call 136;refine (letterR_any _ _).mono ?_;rintro e w' ⟨rfl,rfl⟩;have hc:=HC.out) | (go_at_call 138;refine (digitR_any _ _).mono ?_;rintro e w' ⟨rfl,rfl⟩;have hd:=HD.out))
          go_round
          case rel=>exact ⟨k+1,by omega,by go_num,allN_take hlt HE.out HN.out⟩
          case measure=>simp [intOf];omega
      · have hn:nmC (l[k].toNat:Int)=true:=by simp [nmC,hc]
        have HN:=Lib.hid hn
        have HC:=Lib.hid hc
        clear hn hc
        go_wp2_with (first | (go_at_call 136;refine (letterR_any _ _).mono ?_;rintro e w' ⟨rfl,rfl⟩;have hc:=HC.out))
        go_round
        case rel=>exact ⟨k+1,by omega,by go_num,allN_take hlt HE.out HN.out⟩
        case measure=>simp [intOf];omega
    · go_wp2_with fail
      go_ret
      have:=HE.out
      rw [List.take_of_length_le (by omega)] at this
      exact ⟨ret_bool (by simp only [nameB,head_get h00,HL.out,HW.out,this,if_neg h0,if_neg h1];simp),HB.out⟩
 · go_ret
   exact ⟨ret_bool (by simp only [nameB,head_get h00,HL.out,HW.out];simp),hb⟩
end
end Go.Proofs.YtinjiigdijbjeaaGreatDoor
section
namespace Go.As
open Go Ieee
theorem order_self (d:Datum):d.order d=some .eq∨∃ s p,d = .nan s p:=by
 cases d with
 | nan s p=>exact .inr ⟨s,p,rfl⟩
 | infinity s=>left;cases s <;> rfl
 | number s m i=>left;simp [Datum.order]
theorem order_nan_l (s:Bool) (p:Nat) (d:Datum):(Datum.nan s p).order d=none:=by cases d <;> rfl
theorem cut_zero_lt {n drop B:Nat} (s:Bool) (hB:0<B) (h:n<B*2 ^ drop):Toward.zero.cut s n drop<B:=by
 simp only [Toward.cut,Bool.toNat_false,Nat.add_zero,Nat.shiftLeft_eq,Nat.one_mul]
 rcases Nat.le_total drop (n.log2+2) with hl | hl
 · rw [Nat.min_eq_left hl]
   exact (Nat.div_lt_iff_lt_mul (Nat.two_pow_pos _)).2 h
 · rw [Nat.min_eq_right hl,Nat.div_eq_of_lt]
   · exact hB
   · exact Nat.lt_of_lt_of_le Nat.lt_log2_self (Nat.pow_le_pow_right (by omega) (by omega))
theorem cut_zero_le {n drop B:Nat} (s:Bool) (h:n≤B*2 ^ drop):Toward.zero.cut s n drop≤B:=by
 simp only [Toward.cut,Bool.toNat_false,Nat.add_zero,Nat.shiftLeft_eq,Nat.one_mul]
 rcases Nat.le_total drop (n.log2+2) with hl | hl
 · rw [Nat.min_eq_left hl]
   exact Nat.div_le_of_le_mul (by rw [Nat.mul_comm];exact h)
 · rw [Nat.min_eq_right hl,Nat.div_eq_of_lt]
   · omega
   · exact Nat.lt_of_lt_of_le Nat.lt_log2_self (Nat.pow_le_pow_right (by omega) (by omega))
theorem size_lt {m:Nat} {i:Int} (h:m*2 ^ (i - min i 11).toNat<2 ^ 52*2 ^ (11 - min i 11).toNat):m*2 ^ i.toNat<2 ^ 63*2 ^ (-i).toNat:=by
 rcases Int.le_total i 11 with hi | hi
 · rw [Int.min_eq_left hi,Int.sub_self,Int.toNat_zero,Nat.pow_zero,Nat.mul_one] at h
   rcases Int.le_total 0 i with h0 | h0
   · obtain ⟨k,rfl⟩:=Int.eq_ofNat_of_zero_le h0
     have hk:k≤11:=by omega
     rw [show (11 - (k:Int)).toNat=11 - k by omega] at h
     rw [show (-(k:Int)).toNat=0 by omega,show ((k:Int)).toNat=k by omega,Nat.pow_zero,Nat.mul_one]
     have:2 ^ 52*2 ^ (11 - k)*2 ^ k=2 ^ 63:=by rw [Nat.mul_assoc,← Nat.pow_add,show 11 - k+k=11 by omega]
     rw [← this]
     exact Nat.mul_lt_mul_of_pos_right h (Nat.two_pow_pos _)
   · rw [show i.toNat=0 by omega,Nat.pow_zero,Nat.mul_one,show (11 - i).toNat=11+(-i).toNat by omega,Nat.pow_add,← Nat.mul_assoc] at *
     exact h
 · rw [Int.min_eq_right hi,Int.sub_self,Int.toNat_zero,Nat.pow_zero,Nat.mul_one] at h
   rw [show (-i).toNat=0 by omega,Nat.pow_zero,Nat.mul_one,show i.toNat=(i - 11).toNat+11 by omega,Nat.pow_add,← Nat.mul_assoc]
   have:=Nat.mul_lt_mul_of_pos_right h (show 0<2 ^ 11 by omega)
   simpa using this
theorem size_le {m:Nat} {i:Int} (h:m*2 ^ (i - min i 11).toNat≤2 ^ 52*2 ^ (11 - min i 11).toNat):m*2 ^ i.toNat≤2 ^ 63*2 ^ (-i).toNat:=by
 rcases Int.le_total i 11 with hi | hi
 · rw [Int.min_eq_left hi,Int.sub_self,Int.toNat_zero,Nat.pow_zero,Nat.mul_one] at h
   rcases Int.le_total 0 i with h0 | h0
   · obtain ⟨k,rfl⟩:=Int.eq_ofNat_of_zero_le h0
     have hk:k≤11:=by omega
     rw [show (11 - (k:Int)).toNat=11 - k by omega] at h
     rw [show (-(k:Int)).toNat=0 by omega,show ((k:Int)).toNat=k by omega,Nat.pow_zero,Nat.mul_one]
     have:2 ^ 52*2 ^ (11 - k)*2 ^ k=2 ^ 63:=by rw [Nat.mul_assoc,← Nat.pow_add,show 11 - k+k=11 by omega]
     rw [← this]
     exact Nat.mul_le_mul_right _ h
   · rw [show i.toNat=0 by omega,Nat.pow_zero,Nat.mul_one,show (11 - i).toNat=11+(-i).toNat by omega,Nat.pow_add,← Nat.mul_assoc] at *
     exact h
 · rw [Int.min_eq_right hi,Int.sub_self,Int.toNat_zero,Nat.pow_zero,Nat.mul_one] at h
   rw [show (-i).toNat=0 by omega,Nat.pow_zero,Nat.mul_one,show i.toNat=(i - 11).toNat+11 by omega,Nat.pow_add,← Nat.mul_assoc]
   have:=Nat.mul_le_mul_right (2 ^ 11) h
   simpa using this
theorem toInt_range (d:Datum) (h1:d.order (.number false 4503599627370496 11)=some .lt) (h2:d.order (.number true 4503599627370496 11)=some .gt∨d.order (.number true 4503599627370496 11)=some .eq):
  ∃ n,d.toInt .zero=some n ∧ -9223372036854775808≤n∧n≤9223372036854775807:=by
 cases d with
 | nan s p=>simp [Datum.order] at h1
 | infinity s=>cases s <;> simp [Datum.order] at h1 h2
 | number s m i=>
   refine ⟨signed s (Toward.zero.cut s (m <<< i.toNat) (-i).toNat) 0,rfl,?_⟩
   simp only [Datum.order,Option.some.injEq] at h1 h2
   simp only [signed,Nat.shiftLeft_eq,Nat.pow_zero,Nat.mul_one] at h1 h2 ⊢
   cases s with
   | false=>
     simp only [Bool.false_eq_true,if_false,Int.compare_eq_lt] at h1 ⊢
     have h3:=size_lt (m:=m) (i:=i) (by rw [show 2 ^ 52=4503599627370496 by rfl];omega)
     have:=cut_zero_lt false (show 0<2 ^ 63 by omega) h3
     omega
   | true=>
     simp only [if_true,Int.compare_eq_gt,Int.compare_eq_eq] at h2 ⊢
     have h3:=size_le (m:=m) (i:=i) (by rw [show 2 ^ 52=4503599627370496 by rfl];omega)
     have:=cut_zero_le true h3
     omega
theorem nan_read (t:Nat):∃ s p,FloatKind.f64.format.read ((t % 2)*2 ^ 63+0x7ff0000000000000+1+(t / 2) % (2 ^ 52 - 1)) = .nan s p:=by
 have hsw:FloatKind.f64.format.signWeight=9223372036854775808:=by decide
 have hb:FloatKind.f64.format.binade=4503599627370496:=by decide
 have hi:FloatKind.f64.format.infRung=9218868437227405312:=by decide
 have hr:(t / 2) % (2 ^ 52 - 1)<4503599627370495:=Nat.mod_lt _ (by omega)
 generalize (t / 2) % (2 ^ 52 - 1)=r at hr ⊢
 have ht:t % 2<2:=Nat.mod_lt _ (by omega)
 generalize t % 2=q at ht ⊢
 have hm:(q*2 ^ 63+0x7ff0000000000000+1+r) % 9223372036854775808=9218868437227405312+1+r:=by omega
 unfold Format.read
 simp only [hsw,hb,hi,hm]
 rw [if_neg (by omega),if_neg (by omega),if_neg (by omega)]
 exact ⟨_,_,rfl⟩
def toN (b:Nat):Nat:=if FloatKind.f64.format.order b b=some .eq then b else 9221120237041090560
theorem toN_nan {b:Nat} {s:Bool} {p:Nat} (h:FloatKind.f64.format.read b = .nan s p):FloatKind.f64.format.order b b=none:=by
 unfold Format.order;rw [h];exact order_nan_l _ _ _
theorem toN_cases (b:Nat):(FloatKind.f64.format.order b b=some .eq∧toN b=b)∨(FloatKind.f64.format.order b b=none∧toN b=9221120237041090560):=by
 rcases order_self (FloatKind.f64.format.read b) with h | ⟨s,p,h⟩
 · have h':FloatKind.f64.format.order b b=some .eq:=h
   exact .inl ⟨h',by simp [toN,h']⟩
 · have h':=toN_nan h
   exact .inr ⟨h',by simp [toN,h']⟩
theorem read_two63:FloatKind.f64.format.read 4890909195324358656 = .number false 4503599627370496 11:=by decide
theorem read_neg63:FloatKind.f64.format.read 14114281232179134464 = .number true 4503599627370496 11:=by decide
theorem ti_cases (a:Nat):(FloatKind.f64.format.order a a=none∧FloatKind.f64.format.order a 4890909195324358656=none∧FloatKind.f64.format.order a 14114281232179134464=none)∨
  ∃ c d,FloatKind.f64.format.order a a=some .eq∧FloatKind.f64.format.order a 4890909195324358656=some c∧FloatKind.f64.format.order a 14114281232179134464=some d:=by
 unfold Format.order
 rw [read_two63,read_neg63]
 rcases order_self (FloatKind.f64.format.read a) with h | ⟨s,p,h⟩
 · right
   cases hd:FloatKind.f64.format.read a with
   | nan s p=>rw [hd,order_nan_l] at h;cases h
   | infinity s=>exact ⟨_,_,by rw [← hd];exact h,rfl,rfl⟩
   | number s m i=>exact ⟨_,_,by rw [← hd];exact h,rfl,rfl⟩
 · rw [h]
   exact .inl ⟨order_nan_l _ _ _,order_nan_l _ _ _,order_nan_l _ _ _⟩
def tiN (a:Nat):Int×Bool:=
 if FloatKind.f64.format.order a 4890909195324358656=some .lt∧(FloatKind.f64.format.order a 14114281232179134464=some .gt∨FloatKind.f64.format.order a 14114281232179134464=some .eq)
 then (((FloatKind.f64.format.read a).toInt .zero).getD 0,true) else (0,false)
theorem ti_val {a:Nat} (h1:FloatKind.f64.format.order a 4890909195324358656=some .lt) (h2:FloatKind.f64.format.order a 14114281232179134464=some .gt∨FloatKind.f64.format.order a 14114281232179134464=some .eq):
  floatToIntVal .f64 a .i64=some (tiN a).1∧tiN a=((tiN a).1,true):=by
 have ht:tiN a=(((FloatKind.f64.format.read a).toInt .zero).getD 0,true):=by unfold tiN;rw [if_pos ⟨h1,h2⟩]
 have h1':=h1
 have h2':=h2
 unfold Format.order at h1' h2'
 rw [read_two63] at h1'
 rw [read_neg63] at h2'
 obtain ⟨n,hn,hlo,hhi⟩:=toInt_range _ h1' h2'
 rw [ht,hn]
 refine ⟨?_,rfl⟩
 unfold floatToIntVal FloatKind.decode
 rw [hn]
 have e1:IntKind.i64.min = -9223372036854775808:=by decide
 have e2:IntKind.i64.max=9223372036854775807:=by decide
 simp only [Option.getD_some,e1,e2]
 rw [if_pos ⟨hlo,hhi⟩]
def arN (op:BinOp) (a b:Nat):Nat:=match floatBits op .f64 a b with
 | some r=>toN r
 | none=>9221120237041090560
theorem run_float_nan {P:Program} (w:World) (op:BinOp) (t:TypeId) (a b:Nat) (hop:op = .add∨op = .sub∨op = .mul∨op = .quo) (h:floatBits op .f64 a b=none):
  ∃ r,(binOp op t (.float .f64 a) (.float .f64 b)).run P w = .ok (.float .f64 r) w.drew∧FloatKind.f64.format.order r r=none:=by
 obtain ⟨s,p,hr⟩:=nan_read (w.tape w.drawn (.nanBits .f64 a b))
 refine ⟨_,?_,toN_nan hr⟩
 unfold floatBits at h
 rcases hop with rfl | rfl | rfl | rfl
 all_goals
  simp only at h
  simp [binOp,Op.floatArith,h,Question.forced,Question.cut]
end Go.As
end
namespace Go.Proofs.YtinjiigdijbjeaaGreatDoor
open Go.RowKit Go.As
section
theorem tobits (b:Nat) (w:World):(callFunc 161 #[.float .f64 b]).run Tryz.prog w = .ok (.value (.int .u64 b)) w:=by
 rw [run_callFunc_extern (P:=Tryz.prog) Tryz.func161 (by kernel_rfl) (by kernel_rfl) (e:=Extern.MathFloatBits.float64bits) (by kernel_rfl) (by kernel_rfl)]
 rfl
theorem pto_any (b:Nat) (w:World):Calls Tryz.prog 116 #[.float .f64 b] w fun e w'=>e = .returned (.int .u64 (toN b))∧w=w':=by
 have h1:=tobits
 rcases toN_cases b with ⟨h2,h3⟩ | ⟨h2,h3⟩
 · rw [h3]
   clear h3
   go_enter Tryz.func116,Tryz.ntmps116
   go_wp2
   go_ret
   exact ⟨rfl,rfl⟩
 · rw [h3]
   clear h3
   go_enter Tryz.func116,Tryz.ntmps116
   go_wp2
   go_ret
   exact ⟨rfl,rfl⟩
end
end Go.Proofs.YtinjiigdijbjeaaGreatDoor
section
namespace Go.As
open Go Ieee
abbrev fd:Format:=FloatKind.f64.format
theorem fd_sw:fd.signWeight=9223372036854775808:=by decide
theorem fd_bin:fd.binade=4503599627370496:=by decide
theorem fd_inf:fd.infRung=9218868437227405312:=by decide
theorem fd_lp:fd.leastPlace = -1074:=by decide
theorem fd_fb:fd.fractionBits=52:=rfl
theorem read_num {b:Nat} {s:Bool} {m:Nat} {i:Int} (h:fd.read b = .number s m i):m<9007199254740992 ∧ -1074≤i∧i≤971:=by
 unfold Format.read at h
 simp only [fd_sw,fd_bin,fd_inf,fd_lp] at h
 split at h
 · injection h with h1 h2 h3
   omega
 · split at h
   · injection h with h1 h2 h3
     have:b % 9223372036854775808 / 4503599627370496<2047:=by omega
     have:=Nat.mod_lt (b % 9223372036854775808) (show 4503599627370496 > 0 by omega)
     omega
   · split at h <;> cases h
def Big (B:Nat):Prop:=0<B∧∀ m k:Nat,m<9007199254740992→k≤2045→m <<< k<B
theorem big_is:∃ B,Big B:=by
 obtain ⟨e,he⟩:∃ e:Nat,e=2045:=⟨_,rfl⟩
 refine ⟨9007199254740992*2 ^ e,Nat.mul_pos (by omega) (Nat.two_pow_pos _),fun m k hm hk=>?_⟩
 rw [← he] at hk
 rw [Nat.shiftLeft_eq]
 exact Nat.mul_lt_mul_of_lt_of_le hm (Nat.pow_le_pow_right (by omega) hk) (Nat.two_pow_pos _)
def val (B:Nat):Datum→Int
 | .number s m i=>signed s m (i+1074).toNat
 | .infinity s=>if s then -(B:Int) else B
 | .nan _ _=>0
theorem signed_add (s:Bool) (m a b:Nat):signed s m (a+b)=signed s m a*2 ^ b:=by
 unfold signed
 rw [Nat.shiftLeft_add]
 cases s
 · simp [Nat.shiftLeft_eq]
 · simp [Nat.shiftLeft_eq,Int.neg_mul]
theorem compare_mul {x y:Int} {k:Nat}:compare (x*2 ^ k) (y*2 ^ k)=compare x y:=by
 have hk:(0:Int)<2 ^ k:=Int.pow_pos (by omega)
 rcases Int.lt_trichotomy x y with h | h | h
 · rw [Int.compare_eq_lt.2 h,Int.compare_eq_lt.2 (Int.mul_lt_mul_of_pos_right h hk)]
 · rw [h];simp
 · rw [Int.compare_eq_gt.2 h,Int.compare_eq_gt.2 (Int.mul_lt_mul_of_pos_right h hk)]
theorem val_lt {B:Nat} (hB:Big B) {b:Nat} {s:Bool} {m:Nat} {i:Int} (h:fd.read b = .number s m i) : - (B:Int)<signed s m (i+1074).toNat∧signed s m (i+1074).toNat<(B:Int):=by
 obtain ⟨h1,h2,h3⟩:=read_num h
 have:=hB.2 m (i+1074).toNat h1 (by omega)
 unfold signed
 generalize m <<< (i+1074).toNat=z at *
 cases s <;> simp only [Bool.false_eq_true,if_false,if_true] <;> omega
theorem order_val {B:Nat} (hB:Big B) {x y:Nat} (hx:(fd.read x).isNaN=false) (hy:(fd.read y).isNaN=false):fd.order x y=some (compare (val B (fd.read x)) (val B (fd.read y))):=by
 unfold Format.order
 have hB0:=hB.1
 cases hdx:fd.read x with
 | nan s p=>rw [hdx] at hx;cases hx
 | infinity s=>
   cases hdy:fd.read y with
   | nan s p=>rw [hdy] at hy;cases hy
   | infinity t=>
     cases s <;> cases t <;> simp only [Datum.order,val,Bool.toNat,if_true,Bool.false_eq_true,if_false,cond_true,cond_false] <;> congr 1
     · simp
     · rw [Int.compare_eq_gt.2 (by omega)];rfl
     · rw [Int.compare_eq_lt.2 (by omega)];rfl
     · simp
   | number t n j=>
     have:=val_lt hB hdy
     cases s <;> simp only [Datum.order,val,if_true,Bool.false_eq_true,if_false] <;> congr 1
     · rw [Int.compare_eq_gt.2 this.2]
     · rw [Int.compare_eq_lt.2 this.1]
 | number s m i=>
   have h1:=val_lt hB hdx
   cases hdy:fd.read y with
   | nan s p=>rw [hdy] at hy;cases hy
   | infinity t=>
     cases t <;> simp only [Datum.order,val,if_true,Bool.false_eq_true,if_false] <;> congr 1
     · rw [Int.compare_eq_lt.2 h1.2]
     · rw [Int.compare_eq_gt.2 h1.1]
   | number t n j=>
     have h2:=read_num hdx
     have h3:=read_num hdy
     simp only [Datum.order,val]
     congr 1
     rw [show (i+1074).toNat=(i - min i j).toNat+(min i j+1074).toNat by omega,show (j+1074).toNat=(j - min i j).toNat+(min i j+1074).toNat by omega,signed_add,signed_add,compare_mul]
theorem order_nan {x y:Nat} (h:(fd.read x).isNaN=true∨(fd.read y).isNaN=true):fd.order x y=none:=by
 unfold Format.order
 cases hx:fd.read x with
 | nan s p=>cases fd.read y <;> rfl
 | infinity s=>cases hy:fd.read y with
   | nan t q=>rfl
   | _=>rw [hx,hy] at h;simp [Datum.isNaN] at h
 | number s m i=>cases hy:fd.read y with
   | nan t q=>rfl
   | _=>rw [hx,hy] at h;simp [Datum.isNaN] at h
def negW (b:Nat):Nat:=if b<9223372036854775808 then b+9223372036854775808 else b - 9223372036854775808
theorem xor_lo {b:Nat} (h:b<9223372036854775808):b ^^^ 9223372036854775808=b+9223372036854775808:=by
 have e0:=Nat.two_pow_add_eq_or_of_lt (i:=63) (b:=b) h 1
 rw [Nat.mul_one] at e0
 rw [Nat.add_comm,show 9223372036854775808=2 ^ 63 by rfl,e0]
 apply Nat.eq_of_testBit_eq
 intro i
 rw [Nat.testBit_xor,Nat.testBit_or,Nat.testBit_two_pow]
 by_cases hi:63=i
 · subst hi
   rw [Nat.testBit_lt_two_pow h]
   simp
 · simp [hi]
theorem xor_neg {b:Nat} (h:b<18446744073709551616):b ^^^ 9223372036854775808=negW b:=by
 unfold negW
 split
 · rename_i hl;exact xor_lo hl
 · rename_i hl
   have:=xor_lo (b:=b - 9223372036854775808) (by omega)
   rw [show b - 9223372036854775808+9223372036854775808=b by omega] at this
   have h2:b ^^^ 9223372036854775808=(b - 9223372036854775808 ^^^ 9223372036854775808) ^^^ 9223372036854775808:=by rw [this]
   rw [Nat.xor_assoc,Nat.xor_self,Nat.xor_zero] at h2
   exact h2
theorem negW_lt {b:Nat} (h:b<18446744073709551616):negW b<18446744073709551616:=by unfold negW;split <;> omega
theorem bits_neg {b:Nat} (h:b<18446744073709551616):bits .xor .u64 (b:Int) 9223372036854775808=(negW b:Int):=by
 have e:(BitVec.ofInt 64 (b:Int) ^^^ BitVec.ofInt 64 9223372036854775808).toNat=negW b:=by
  rw [BitVec.toNat_xor]
  have h1:(BitVec.ofInt 64 (b:Int)).toNat=b:=by rw [BitVec.toNat_ofInt];omega
  have h2:(BitVec.ofInt 64 9223372036854775808).toNat=9223372036854775808:=by decide
  rw [h1,h2,xor_neg h]
 show IntKind.u64.wrap _=_
 have h2:=negW_lt h
 have:IntKind.u64.wrap ((negW b:Nat):Int)=(negW b:Int):=by
  have e3:∀ n:Int,IntKind.u64.wrap n=n % 18446744073709551616:=fun n=>rfl
  rw [e3]
  omega
 rw [← this]
 congr 1
 exact congrArg Int.ofNat e
theorem read_neg {b:Nat} (h:b<18446744073709551616):fd.read (negW b)=(fd.read b).opposite:=by
 have e1:negW b % 9223372036854775808=b % 9223372036854775808:=by unfold negW;split <;> omega
 have e2:(negW b / 9223372036854775808 % 2==1)=!(b / 9223372036854775808 % 2==1):=by
  unfold negW
  split
  · rw [show (b+9223372036854775808) / 9223372036854775808 % 2=1 by omega,show b / 9223372036854775808 % 2=0 by omega];rfl
  · rw [show (b - 9223372036854775808) / 9223372036854775808 % 2=0 by omega,show b / 9223372036854775808 % 2=1 by omega];rfl
 unfold Format.read
 simp only [fd_sw,fd_bin,fd_inf,fd_lp]
 rw [e1,e2]
 generalize b % 9223372036854775808=r
 generalize (b / 9223372036854775808 % 2==1)=q
 split
 · rfl
 · split
   · rfl
   · split <;> rfl
theorem opp_nan (d:Datum):d.opposite.isNaN=d.isNaN:=by cases d <;> rfl
def nanW (b:Nat):Bool:=(fd.read b).isNaN
theorem nanW_iff (b:Nat):fd.order b b=if nanW b then none else some .eq:=by
 obtain ⟨B,hB⟩:=big_is
 cases h:nanW b with
 | true=>exact order_nan (.inl h)
 | false=>rw [order_val hB h h];simp
theorem log2_mul_pow {m k:Nat} (h:0<m):(m*2 ^ k).log2=m.log2+k:=by
 have hp:=Nat.two_pow_pos k
 have h0:m*2 ^ k≠0:=Nat.ne_of_gt (Nat.mul_pos h hp)
 rw [Nat.log2_eq_iff h0]
 constructor
 · rw [Nat.pow_add]
   exact Nat.mul_le_mul_right _ (Nat.log2_self_le (by omega))
 · rw [show m.log2+k+1=m.log2+1+k by omega,Nat.pow_add]
   exact Nat.mul_lt_mul_of_pos_right Nat.lt_log2_self hp
def rnd (n D:Nat):Nat:=n / D+(decide (D<2*(n % D)) || (D==2*(n % D)&&n / D % 2==1)).toNat
theorem cut_even (s:Bool) (n drop:Nat):Toward.even.cut s n drop=rnd n (2 ^ drop):=by
 simp only [Toward.cut,Nat.shiftLeft_eq,Nat.one_mul]
 rcases Nat.le_total drop (n.log2+2) with hl | hl
 · rw [Nat.min_eq_left hl];rfl
 · rw [Nat.min_eq_right hl]
   have h1:n<2 ^ (n.log2+1):=Nat.lt_log2_self
   have h2:2 ^ (n.log2+2)≤2 ^ drop:=Nat.pow_le_pow_right (by omega) hl
   have h3:2 ^ (n.log2+2)=2*2 ^ (n.log2+1):=by rw [Nat.pow_succ];omega
   have key:∀ D,2*n<D→rnd n D=0:=by
    intro D hD
    unfold rnd
    rw [Nat.div_eq_of_lt (by omega),Nat.mod_eq_of_lt (by omega)]
    have e1:decide (D<2*n)=false:=decide_eq_false (by omega)
    have e2:(D==2*n)=false:=beq_false_of_ne (by omega)
    rw [e1,e2];rfl
   rw [key (2 ^ drop) (by omega)]
   exact key (2 ^ (n.log2+2)) (by omega)
theorem rnd_exact {K D:Nat} (hD:0<D):rnd (K*D) D=K:=by
 unfold rnd
 rw [Nat.mul_div_cancel _ hD,Nat.mul_mod_left]
 have e2:(D==2*0)=false:=beq_false_of_ne (by omega)
 simp [e2]
theorem read_word (neg:Bool) {q K:Nat} (hq:q≤2045) (hK:K<9007199254740992) (hn:q=0∨4503599627370496≤K):fd.read (fd.word neg (min (q*fd.binade+K) fd.infRung)) = .number neg K ((q:Int) - 1074):=by
 rw [fd_bin,fd_inf,Nat.min_eq_left (by omega)]
 have e0:fd.word neg (q*4503599627370496+K)=(if neg then 9223372036854775808 else 0)+(q*4503599627370496+K):=by
  unfold Format.word
  rw [fd_sw]
  cases neg
  · simp
  · simp
 rw [e0]
 have e1:((if neg then 9223372036854775808 else 0)+(q*4503599627370496+K)) % 9223372036854775808=q*4503599627370496+K:=by
  cases neg
  · simp only [Bool.false_eq_true,if_false];omega
  · simp only [if_true];omega
 have e2:(((if neg then 9223372036854775808 else 0)+(q*4503599627370496+K)) / 9223372036854775808 % 2==1)=neg:=by
  cases neg
  · simp only [Bool.false_eq_true,if_false]
    rw [show (0+(q*4503599627370496+K)) / 9223372036854775808 % 2=0 by omega];rfl
  · simp only [if_true]
    rw [show (9223372036854775808+(q*4503599627370496+K)) / 9223372036854775808 % 2=1 by omega];rfl
 unfold Format.read
 simp only [fd_sw,fd_bin,fd_inf,fd_lp]
 rw [e1,e2]
 split
 · obtain rfl:q=0:=by omega
   congr 1 <;> omega
 · rw [if_pos (by omega)]
   congr 1 <;> omega
theorem nearest_exact (neg:Bool) {mag M:Nat} {place E Z:Int} (hM:0<M) (hM2:M<9007199254740992) (hE : -1074≤E) (hE2:E≤971) (hp:0≤place+Z) (hz:0≤E+Z)
  (h:mag*2 ^ (place+Z).toNat=M*2 ^ (E+Z).toNat):∃ K last,fd.read (fd.nearest neg mag place) = .number neg K last ∧ -1074≤last∧last≤E∧K=M*2 ^ (E - last).toNat∧last=max (E+(M.log2:Int) - 52) (-1074)∧fd.nearest neg mag place=fd.word neg ((last+1074).toNat*4503599627370496+K):=by
 have hmag:0<mag:=by
  rcases Nat.eq_zero_or_pos mag with e | e
  · rw [e,Nat.zero_mul] at h
    have:=Nat.mul_pos hM (Nat.two_pow_pos (E+Z).toNat)
    omega
  · exact e
 have hlog:(mag.log2:Int)+place=M.log2+E:=by
  have:=congrArg Nat.log2 h
  rw [log2_mul_pow hmag,log2_mul_pow hM] at this
  omega
 have hl:M.log2≤52:=by
  have:=(Nat.log2_lt (n:=M) (k:=53) (by omega)).2 hM2
  omega
 unfold Format.nearest
 rw [if_neg (by omega),fd_lp,fd_fb]
 obtain ⟨last,hlast⟩:∃ last,last=max (place+(mag.log2:Int) - (52:Nat)) (-1074):=⟨_,rfl⟩
 simp only
 rw [← hlast,cut_even,Nat.shiftLeft_eq]
 have h1 : -1074≤last∧last≤E:=by omega
 obtain ⟨K,hK⟩:∃ K,K=M*2 ^ (E - last).toNat:=⟨_,rfl⟩
 have hval:mag*2 ^ (place - last).toNat=K*2 ^ (last - place).toNat:=by
  rcases Int.le_total last place with hc | hc
  · rw [show (last - place).toNat=0 by omega,Nat.pow_zero,Nat.mul_one,hK]
    apply Nat.eq_of_mul_eq_mul_right (Nat.two_pow_pos (last+Z).toNat)
    rcases Int.le_total 0 (last+Z) with hcc | hcc
    · rw [Nat.mul_assoc,Nat.mul_assoc,← Nat.pow_add,← Nat.pow_add,show (place - last).toNat+(last+Z).toNat=(place+Z).toNat by omega,show (E - last).toNat+(last+Z).toNat=(E+Z).toNat by omega]
      exact h
    · apply Nat.eq_of_mul_eq_mul_right (Nat.two_pow_pos (last+Z).toNat)
      rw [show (last+Z).toNat=0 by omega,Nat.pow_zero,Nat.mul_one,Nat.mul_one,Nat.mul_one,Nat.mul_one]
      rw [show (place - last).toNat=(place+Z).toNat+(-(last+Z)).toNat by omega,show (E - last).toNat=(E+Z).toNat+(-(last+Z)).toNat by omega,Nat.pow_add,Nat.pow_add,← Nat.mul_assoc,← Nat.mul_assoc,h]
  · rw [show (place - last).toNat=0 by omega,Nat.pow_zero,Nat.mul_one,hK]
    apply Nat.eq_of_mul_eq_mul_right (Nat.two_pow_pos (place+Z).toNat)
    rw [h,Nat.mul_assoc,Nat.mul_assoc,← Nat.pow_add,← Nat.pow_add]
    congr 2
    omega
 have hKpos:0<K:=by rw [hK];exact Nat.mul_pos hM (Nat.two_pow_pos _)
 have hKlog:(K.log2:Int)+last=M.log2+E:=by
  rw [hK,log2_mul_pow hM]
  omega
 have hK53:K<9007199254740992:=by
  have:K.log2<53:=by omega
  exact (Nat.log2_lt (n:=K) (k:=53) (by omega)).1 this
 have hKlo:(last+1074).toNat=0∨4503599627370496≤K:=by
  rcases Int.le_total last (-1074) with hc | hc
  · left;omega
  · by_cases e:last = -1074
    · left;omega
    · right
      have:52≤K.log2:=by omega
      exact (Nat.le_log2 (n:=K) (k:=52) (by omega)).1 this
 rw [hval,rnd_exact (Nat.two_pow_pos _),show last - -1074=last+1074 by omega,read_word neg (by omega) hK53 hKlo]
 refine ⟨K,last,?_,h1.1,h1.2,hK,by omega,?_⟩
 · congr 1
   omega
 · rw [fd_bin,fd_inf,Nat.min_eq_left (by omega)]
theorem nearest_zero (neg:Bool) (place:Int):fd.read (fd.nearest neg 0 place) = .number neg 0 (-1074):=by
 unfold Format.nearest
 rw [if_pos rfl]
 have:=read_word neg (q:=0) (K:=0) (by omega) (by omega) (.inl rfl)
 simpa using this
def IsI (b:Nat) (N:Int):Prop:=∃ s i,fd.read b = .number s (N.natAbs*2 ^ (-i).toNat) i ∧ -1074≤i∧i≤0∧(0<N→s=false)∧(N<0→s=true)
theorem signed_int {s:Bool} {N:Int} (h1:0<N→s=false) (h2:N<0→s=true) (a c:Nat):signed s (N.natAbs*2 ^ a) c=N*2 ^ (a+c):=by
 unfold signed
 rw [Nat.shiftLeft_eq,Nat.mul_assoc,← Nat.pow_add]
 rcases Int.lt_trichotomy N 0 with h | h | h
 · rw [h2 h,if_pos rfl,Int.natCast_mul,Int.natCast_pow]
   have:((N.natAbs:Nat):Int) = -N:=by omega
   rw [this,Int.neg_mul,Int.neg_neg]
   rfl
 · subst h
   cases s <;> simp
 · rw [h1 h,if_neg (by decide),Int.natCast_mul,Int.natCast_pow]
   have:((N.natAbs:Nat):Int)=N:=by omega
   rw [this]
   rfl
theorem isI_nearest {s:Bool} {N:Int} (hN:N.natAbs<9007199254740992) (h1:0<N→s=false) (h2:N<0→s=true) {mag:Nat} {place Z:Int} (hp:0≤place+Z) (hz:0≤Z)
  (h:mag*2 ^ (place+Z).toNat=N.natAbs*2 ^ Z.toNat):IsI (fd.nearest s mag place) N:=by
 by_cases h0:N=0
 · subst h0
   have:mag=0:=by
    have:=Nat.two_pow_pos (place+Z).toNat
    rw [Int.natAbs_zero,Nat.zero_mul] at h
    exact (Nat.mul_eq_zero.1 h).resolve_right (by omega)
   subst this
   exact ⟨s,-1074,by rw [nearest_zero,Int.natAbs_zero,Nat.zero_mul],by omega,by omega,h1,h2⟩
 · obtain ⟨K,last,e1,e2,e3,e4,_⟩:=nearest_exact s (M:=N.natAbs) (E:=0) (Z:=Z) (by omega) hN (by omega) (by omega) hp (by omega) (by rw [Int.zero_add];exact h)
   refine ⟨s,last,?_,e2,e3,h1,h2⟩
   rw [e1,e4,Int.zero_sub]
theorem isI_int {N:Int} (hN:N.natAbs<9007199254740992):IsI (floatOfInt .f64 N) N:=by
 unfold floatOfInt
 exact isI_nearest (Z:=0) hN (fun h=>decide_eq_false (by omega)) (fun h=>decide_eq_true h) (by omega) (by omega) (by simp)
theorem toN_of {b:Nat} (h:nanW b=false):toN b=b:=by
 unfold toN
 have:=nanW_iff b
 rw [h] at this
 rw [if_pos (by simpa using this)]
theorem isI_order {a b:Nat} {A B:Int} (ha:IsI a A) (hb:IsI b B):fd.order a b=some (compare A B):=by
 obtain ⟨s,i,e1,l1,u1,p1,n1⟩:=ha
 obtain ⟨t,j,e2,l2,u2,p2,n2⟩:=hb
 unfold Format.order
 rw [e1,e2]
 simp only [Datum.order]
 rw [signed_int p1 n1,signed_int p2 n2,show (-i).toNat+(i - min i j).toNat=(-min i j).toNat by omega,show (-j).toNat+(j - min i j).toNat=(-min i j).toNat by omega,compare_mul]
theorem isI_toInt {a:Nat} {A:Int} (ha:IsI a A):(fd.read a).toInt .zero=some A:=by
 obtain ⟨s,i,e1,l1,u1,p1,n1⟩:=ha
 rw [e1]
 have hc:Toward.zero.cut s ((A.natAbs*2 ^ (-i).toNat) <<< i.toNat) (-i).toNat=A.natAbs:=by
  simp only [Toward.cut,Bool.toNat_false,Nat.add_zero,Nat.shiftLeft_eq,Nat.one_mul]
  rw [show i.toNat=0 by omega,Nat.pow_zero,Nat.mul_one]
  generalize hd:(-i).toNat=d
  have hp:=Nat.two_pow_pos d
  rcases Nat.le_total d ((A.natAbs*2 ^ d).log2+2) with hl | hl
  · rw [Nat.min_eq_left hl,Nat.mul_div_cancel _ hp]
  · rcases Nat.eq_zero_or_pos A.natAbs with h0 | h0
    · rw [h0];simp
    · rw [log2_mul_pow h0] at hl ⊢
      rw [Nat.min_eq_left (by omega),Nat.mul_div_cancel _ hp]
 show (match (Datum.number s (A.natAbs*2 ^ (-i).toNat) i).integral .zero with | .number s m _=>some (signed s m 0) | _=>none)=_
 simp only [Datum.integral]
 rw [hc]
 congr 1
 have:=signed_int p1 n1 0 0
 simpa using this
theorem nan_lit:nanW 9221120237041090560=true:=by decide
theorem toN_nanW {b:Nat} (h:nanW b=true):toN b=9221120237041090560:=by
 unfold toN
 have:=nanW_iff b
 rw [h] at this
 rw [if_neg (by rw [show FloatKind.f64.format.order b b=_ from this];simp)]
theorem toN_toN (b:Nat):toN (toN b)=toN b:=by
 cases h:nanW b with
 | true=>rw [toN_nanW h,toN_nanW nan_lit]
 | false=>rw [toN_of h,toN_of h]
theorem nanW_neg {b:Nat} (h:b<18446744073709551616):nanW (negW b)=nanW b:=by unfold nanW;rw [read_neg h,opp_nan]
theorem read_canon {a:Nat} (h:a<18446744073709551616) {s:Bool} {m:Nat} {i:Int} (hr:fd.read a = .number s m i):
  a=fd.word s ((i+1074).toNat*4503599627370496+m)∧(i = -1074∨4503599627370496≤m):=by
 have hs:(a / 9223372036854775808 % 2==1)=s∧a % 9223372036854775808=(i+1074).toNat*4503599627370496+m∧(i = -1074∨4503599627370496≤m):=by
  unfold Format.read at hr
  simp only [fd_sw,fd_bin,fd_inf,fd_lp] at hr
  split at hr
  · injection hr with h1 h2 h3
    exact ⟨h1,by omega,by omega⟩
  · split at hr
    · injection hr with h1 h2 h3
      exact ⟨h1,by omega,by omega⟩
    · split at hr <;> cases hr
 refine ⟨?_,hs.2.2⟩
 rw [← hs.2.1]
 unfold Format.word
 rw [fd_sw]
 have:=hs.1
 cases s with
 | true=>
   have:=beq_iff_eq.1 this
   rw [if_pos rfl];omega
 | false=>
   have:=beq_eq_false_iff_ne.1 this
   rw [if_neg (by decide)];omega
theorem read_inf {a:Nat} (h:a<18446744073709551616) {s:Bool} (hr:fd.read a = .infinity s):a=fd.word s fd.infRung:=by
 have hs:(a / 9223372036854775808 % 2==1)=s∧a % 9223372036854775808=9218868437227405312:=by
  unfold Format.read at hr
  simp only [fd_sw,fd_bin,fd_inf,fd_lp] at hr
  split at hr
  · cases hr
  · split at hr
    · cases hr
    · split at hr
      · injection hr with h1
        exact ⟨h1,by assumption⟩
      · cases hr
 unfold Format.word
 rw [fd_sw,fd_inf]
 have:=hs.1
 cases s with
 | true=>
   have:=beq_iff_eq.1 this
   rw [if_pos rfl];omega
 | false=>
   have:=beq_eq_false_iff_ne.1 this
   rw [if_neg (by decide)];omega
theorem rnd_bounds {n D lo hi:Nat} (hD:0<D) (h1:lo*D≤n) (h2:n<hi*D):lo≤rnd n D∧rnd n D≤hi:=by
 have a1:lo≤n / D:=(Nat.le_div_iff_mul_le hD).2 h1
 have a2:n / D<hi:=(Nat.div_lt_iff_lt_mul hD).2 h2
 unfold rnd
 generalize (decide (D<2*(n % D)) || (D==2*(n % D)&&n / D % 2==1))=b
 cases b
 · simp only [Bool.toNat_false];omega
 · simp only [Bool.toNat_true];omega
theorem round_step {q st ρ M D a r R:Nat} (hD:D=4∨D=8) (hρ:ρ<M) (hst:(ρ=0∧st=0)∨(0<ρ∧st=1)) (hN:2*q+st=D*a+r) (hr:r<D)
  (hR:(R=a∧2*r≤D)∨(R=a+1∧D≤2*r)):
  2*(R*D*M)≤2*(2*(q*M+ρ))+D*M∧2*(2*(q*M+ρ))≤2*(R*D*M)+D*M:=by
 have e1:2*(q*M)+st*M=D*(a*M)+r*M:=by
  rw [← Nat.mul_assoc,← Nat.mul_assoc,← Nat.add_mul,← Nat.add_mul,hN]
 have e2:a*D*M=D*(a*M):=by rw [Nat.mul_comm a D,Nat.mul_assoc]
 have e3:(a+1)*D*M=D*(a*M)+D*M:=by rw [Nat.mul_comm (a+1) D,Nat.mul_assoc,Nat.add_mul,Nat.one_mul,Nat.mul_add]
 have hr8:r=0∨r=1∨r=2∨r=3∨r=4∨r=5∨r=6∨r=7:=by omega
 generalize hqM:q*M=X at *
 generalize haM:a*M=Y at *
 rcases hR with ⟨rfl,h2⟩ | ⟨rfl,h2⟩
 · rw [e2]
   rcases hD with rfl | rfl <;> rcases hst with ⟨rfl,rfl⟩ | ⟨h0,rfl⟩ <;> rcases hr8 with rfl | rfl | rfl | rfl | rfl | rfl | rfl | rfl <;> omega
 · rw [e3]
   rcases hD with rfl | rfl <;> rcases hst with ⟨rfl,rfl⟩ | ⟨h0,rfl⟩ <;> rcases hr8 with rfl | rfl | rfl | rfl | rfl | rfl | rfl | rfl <;> omega
theorem rnd_cases (n:Nat) {D:Nat} (hD:0<D):(rnd n D=n / D∧2*(n % D)≤D)∨(rnd n D=n / D+1∧D≤2*(n % D)):=by
 unfold rnd
 by_cases h1:D<2*(n % D)
 · right
   rw [decide_eq_true h1]
   exact ⟨rfl,by omega⟩
 · rw [decide_eq_false h1,Bool.false_or]
   by_cases h2:(D==2*(n % D)&&n / D % 2==1)=true
   · right
     rw [h2]
     have:=(Bool.and_eq_true _ _ ▸ h2).1
     have:=beq_iff_eq.1 this
     exact ⟨rfl,by omega⟩
   · left
     have h2:(D==2*(n % D)&&n / D % 2==1)=false:=by simpa using h2
     rw [h2]
     exact ⟨rfl,by omega⟩
theorem quo_round {K M:Nat} (hK1:4503599627370496≤K) (hK2:K<9007199254740992) (hM1:4503599627370496≤M) (hM2:M<9007199254740992):
  ∃ d R,(d=2∨d=3)∧(2*(K*2 ^ 54 / M)+(K*2 ^ 54 % M != 0).toNat).log2=52+d∧rnd (2*(K*2 ^ 54 / M)+(K*2 ^ 54 % M != 0).toNat) (2 ^ d)=R∧
    4503599627370496≤R∧R≤9007199254740992∧2*(R*2 ^ d*M)≤2*(2*(K*2 ^ 54))+2 ^ d*M∧2*(2*(K*2 ^ 54))≤2*(R*2 ^ d*M)+2 ^ d*M:=by
 have hM0:0<M:=by omega
 obtain ⟨V,hV⟩:∃ V,V=K*2 ^ 54:=⟨_,rfl⟩
 rw [← hV]
 have hV1:2 ^ 106≤V:=by rw [hV,show (2:Nat) ^ 106=4503599627370496*2 ^ 54 by rfl];exact Nat.mul_le_mul_right _ hK1
 have hV2:V<2 ^ 107:=by rw [hV,show (2:Nat) ^ 107=9007199254740992*2 ^ 54 by rfl];exact Nat.mul_lt_mul_of_pos_right hK2 (Nat.two_pow_pos _)
 have hdm:=Nat.div_add_mod V M
 have hρ:=Nat.mod_lt V hM0
 have hq1:2 ^ 53≤V / M:=(Nat.le_div_iff_mul_le hM0).2 (Nat.le_trans (Nat.mul_le_mul_left _ (Nat.le_of_lt hM2)) (by rw [show (2:Nat) ^ 53*9007199254740992=2 ^ 106 by rfl];exact hV1))
 have hq2:V / M<2 ^ 55:=(Nat.div_lt_iff_lt_mul hM0).2 (Nat.lt_of_lt_of_le hV2 (by rw [show (2:Nat) ^ 107=2 ^ 55*4503599627370496 by rfl];exact Nat.mul_le_mul_left _ hM1))
 generalize V / M=q at *
 have hst:(V % M=0∧(V % M != 0).toNat=0)∨(0<V % M∧(V % M != 0).toNat=1):=by
  rcases Nat.eq_zero_or_pos (V % M) with h | h
  · left;rw [h];exact ⟨rfl,rfl⟩
  · right
    have:(V % M != 0)=true:=by simp;omega
    rw [this];exact ⟨h,rfl⟩
 generalize (V % M != 0).toNat=st at *
 generalize V % M=ρ at *
 have hst1:st≤1:=by omega
 rw [show (2:Nat) ^ 53=9007199254740992 by rfl] at hq1
 rw [show (2:Nat) ^ 55=36028797018963968 by rfl] at hq2
 have hN0:2*q+st≠0:=by omega
 have hVq:q*M+ρ=V:=by rw [Nat.mul_comm];exact hdm
 by_cases hc:2*q+st<36028797018963968
 · have hl:(2*q+st).log2=54:=(Nat.log2_eq_iff hN0).2 ⟨by rw [show (2:Nat) ^ 54=18014398509481984 by rfl];omega,by rw [show (2:Nat) ^ (54+1)=36028797018963968 by rfl];omega⟩
   refine ⟨2,_,.inl rfl,hl,rfl,?_⟩
   have hb:=rnd_bounds (n:=2*q+st) (D:=2 ^ 2) (lo:=4503599627370496) (hi:=9007199254740992) (by decide) (by omega) (by omega)
   have:=round_step (q:=q) (st:=st) (ρ:=ρ) (M:=M) (D:=4) (.inl rfl) hρ hst (Nat.div_add_mod (2*q+st) 4).symm (Nat.mod_lt _ (by decide)) (R:=rnd (2*q+st) 4) (rnd_cases (2*q+st) (D:=4) (by decide))
   rw [hVq] at this
   exact ⟨hb.1,hb.2,this.1,this.2⟩
 · have hl:(2*q+st).log2=55:=(Nat.log2_eq_iff hN0).2 ⟨by rw [show (2:Nat) ^ 55=36028797018963968 by rfl];omega,by rw [show (2:Nat) ^ (55+1)=72057594037927936 by rfl];omega⟩
   refine ⟨3,_,.inr rfl,hl,rfl,?_⟩
   have hb:=rnd_bounds (n:=2*q+st) (D:=2 ^ 3) (lo:=4503599627370496) (hi:=9007199254740992) (by decide) (by omega) (by omega)
   have:=round_step (q:=q) (st:=st) (ρ:=ρ) (M:=M) (D:=8) (.inr rfl) hρ hst (Nat.div_add_mod (2*q+st) 8).symm (Nat.mod_lt _ (by decide)) (R:=rnd (2*q+st) 8) (rnd_cases (2*q+st) (D:=8) (by decide))
   rw [hVq] at this
   exact ⟨hb.1,hb.2,this.1,this.2⟩
def powT (k:Nat):Nat:=[4607182418800017408,4621819117588971520,4636737291354636288,4652007308841189376,4666723172467343360,4681608360884174848,4696837146684686336].getD k 0
theorem powT_read {k:Nat} (h1:1≤k) (h6:k≤6):∃ J:Nat,fd.read (powT k) = .number false (10 ^ k*2 ^ J) (-(J:Int))∧33≤J∧J≤49∧4503599627370496≤10 ^ k*2 ^ J∧10 ^ k*2 ^ J<9007199254740992:=by
 have hk:k=1∨k=2∨k=3∨k=4∨k=5∨k=6:=by omega
 rcases hk with rfl | rfl | rfl | rfl | rfl | rfl
 · exact ⟨49,by decide,by decide,by decide,by decide,by decide⟩
 · exact ⟨46,by decide,by decide,by decide,by decide,by decide⟩
 · exact ⟨43,by decide,by decide,by decide,by decide,by decide⟩
 · exact ⟨39,by decide,by decide,by decide,by decide,by decide⟩
 · exact ⟨36,by decide,by decide,by decide,by decide,by decide⟩
 · exact ⟨33,by decide,by decide,by decide,by decide,by decide⟩
theorem int_read {n:Nat} (h0:0<n) (hn:n<9007199254740992):∃ I:Nat,fd.read (floatOfInt .f64 n) = .number false (n*2 ^ I) (-(I:Int))∧I≤52∧4503599627370496≤n*2 ^ I∧n*2 ^ I<9007199254740992:=by
 obtain ⟨K,last,e1,e2,e3,e4,e5,e6⟩:=nearest_exact false (mag:=n) (place:=0) (M:=n) (E:=0) (Z:=0) h0 hn (by omega) (by omega) (by omega) (by omega) rfl
 have hl:n.log2≤52:=by
  have:=(Nat.log2_lt (n:=n) (k:=53) (by omega)).2 hn
  omega
 have h1:=Nat.log2_self_le (n:=n) (by omega)
 have h2:n<2 ^ (n.log2+1):=Nat.lt_log2_self
 have hlast:last = -((52 - n.log2:Nat):Int):=by omega
 refine ⟨52 - n.log2,?_,by omega,?_,?_⟩
 · have:floatOfInt .f64 (n:Int)=fd.nearest false n 0:=by
    show fd.nearest (decide ((n:Int)<0)) ((n:Int).natAbs) 0=_
    rw [decide_eq_false (by omega),Int.natAbs_natCast]
   rw [this,e1,e4,hlast,show (0 - -((52 - n.log2:Nat):Int)).toNat=52 - n.log2 by omega]
 · have:=Nat.mul_le_mul_right (2 ^ (52 - n.log2)) h1
   rw [← Nat.pow_add,show n.log2+(52 - n.log2)=52 by omega] at this
   exact this
 · have:=Nat.mul_lt_mul_of_pos_right h2 (Nat.two_pow_pos (52 - n.log2))
   rw [← Nat.pow_add,show n.log2+1+(52 - n.log2)=53 by omega] at this
   exact this
theorem log2_52 {K:Nat} (h1:4503599627370496≤K) (h2:K<9007199254740992):K.log2=52:=(Nat.log2_eq_iff (by omega)).2 ⟨h1,h2⟩
def Near (b n P:Nat):Prop:=∃ c E:Nat,fd.read b = .number false c (-(E:Int))∧4503599627370496≤c∧c<9007199254740992∧5≤E∧E≤72∧2*(c*P)≤2*(n*2 ^ E)+P∧2*(n*2 ^ E)≤2*(c*P)+P
theorem pow10_ge {k:Nat} (h1:1≤k):10≤10 ^ k:=by
 have:=Nat.pow_le_pow_right (n:=10) (by omega) h1
 omega
theorem nearest_normal {N d R:Nat} {place last:Int} (hN:0<N) (hlog:N.log2=52+d) (hR:rnd N (2 ^ d)=R) (hlast:last=place+d) (hlo : -1074<last) (hhi:last≤900) (h1:4503599627370496≤R) (h2:R≤9007199254740992):
  fd.read (fd.nearest false N place)=if R<9007199254740992 then .number false R last else .number false 4503599627370496 (last+1):=by
 unfold Format.nearest
 rw [if_neg (by omega),fd_lp,fd_fb,hlog]
 simp only
 rw [show max (place+((52+d:Nat):Int) - (52:Nat)) (-1074)=last by omega,cut_even,show (place - last).toNat=0 by omega,show (last - place).toNat=d by omega,Nat.shiftLeft_zero,hR]
 obtain ⟨q,hq⟩:∃ q:Nat,q=(last - -1074).toNat:=⟨_,rfl⟩
 rw [← hq]
 have hql:last=(q:Int) - 1074:=by omega
 by_cases hc:R<9007199254740992
 · rw [if_pos hc,read_word false (by omega) hc (.inr h1),hql]
 · obtain rfl:R=9007199254740992:=by omega
   have:=read_word false (q:=q+1) (K:=4503599627370496) (by omega) (by omega) (.inr (by omega))
   rw [if_neg hc]
   rw [fd_bin] at this ⊢
   rw [show q*4503599627370496+9007199254740992=(q+1)*4503599627370496+4503599627370496 by omega,this,hql,show ((q+1:Nat):Int) - 1074=(q:Int) - 1074+1 by omega]
theorem quo_near {n k:Nat} (h0:0<n) (hn:n<1000000000000000) (h1:1≤k) (h6:k≤6):Near (arN .quo (floatOfInt .f64 n) (powT k)) n (10 ^ k):=by
 obtain ⟨I,r1,hI,k1,k2⟩:=int_read h0 (by omega)
 obtain ⟨J,r2,hJ1,hJ2,m1,m2⟩:=powT_read h1 h6
 obtain ⟨d,R,hd,hlog,hR,b1,b2,b3,b4⟩:=quo_round k1 k2 m1 m2
 have hP:=pow10_ge h1
 generalize 10 ^ k=P at *
 have hdiv:floatBits .quo .f64 (floatOfInt .f64 n) (powT k)=some (fd.nearest false (2*(n*2 ^ I*2 ^ 54 / (P*2 ^ J))+(n*2 ^ I*2 ^ 54 % (P*2 ^ J) != 0).toNat) ((J:Int) - I - 55)):=by
  show ((fd.read _).quotient (52+2) (fd.read _)).map fd.write=_
  rw [r1,r2]
  simp only [Datum.quotient]
  rw [if_neg (by omega),log2_52 k1 k2,log2_52 m1 m2,Nat.shiftLeft_eq]
  simp only [Option.map_some,Format.write]
  congr 2
  omega
 have hE0:0≤(I:Int)+55 - J - d:=by omega
 obtain ⟨E,hE⟩:∃ E:Nat,(E:Int)=(I:Int)+55 - J - d:=⟨((I:Int)+55 - J - d).toNat,by omega⟩
 have hread:=nearest_normal (N:=2*(n*2 ^ I*2 ^ 54 / (P*2 ^ J))+(n*2 ^ I*2 ^ 54 % (P*2 ^ J) != 0).toNat) (d:=d) (R:=R) (place:=(J:Int) - I - 55) (last := -(E:Int))
  (by
   rcases Nat.eq_zero_or_pos (2*(n*2 ^ I*2 ^ 54 / (P*2 ^ J))+(n*2 ^ I*2 ^ 54 % (P*2 ^ J) != 0).toNat) with h | h
   · rw [h,Nat.log2_zero] at hlog
     omega
   · exact h) hlog hR (by omega) (by omega) (by omega) b1 b2
 have hZ:=Nat.two_pow_pos (d+J)
 have c1:R*2 ^ d*(P*2 ^ J)=R*P*2 ^ (d+J):=by rw [Nat.pow_add];simp only [Nat.mul_left_comm,Nat.mul_assoc]
 have c2:2*(n*2 ^ I*2 ^ 54)=n*2 ^ E*2 ^ (d+J):=by
  rw [Nat.mul_assoc n,Nat.mul_assoc n,← Nat.pow_add,← Nat.pow_add,show E+(d+J)=I+54+1 by omega,Nat.pow_succ 2 (I+54),← Nat.mul_assoc n,Nat.mul_comm 2]
 have c3:2 ^ d*(P*2 ^ J)=P*2 ^ (d+J):=by rw [Nat.pow_add];simp only [Nat.mul_left_comm]
 rw [c1,c2,c3] at b3 b4
 have d3:2*(R*P)≤2*(n*2 ^ E)+P:=by
  apply Nat.le_of_mul_le_mul_right _ hZ
  rw [Nat.add_mul,Nat.mul_assoc,Nat.mul_assoc 2]
  exact b3
 have d4:2*(n*2 ^ E)≤2*(R*P)+P:=by
  apply Nat.le_of_mul_le_mul_right _ hZ
  rw [Nat.add_mul,Nat.mul_assoc,Nat.mul_assoc 2]
  exact b4
 have hE5:5≤E:=by
  rcases Nat.lt_or_ge E 5 with h | h
  · exfalso
    have e1:n*2 ^ E≤n*2 ^ 4:=Nat.mul_le_mul_left _ (Nat.pow_le_pow_right (by omega) (by omega))
    have e2:4503599627370496*P≤R*P:=Nat.mul_le_mul_right _ b1
    omega
  · exact h
 have harn:∀ x,floatBits .quo .f64 (floatOfInt .f64 n) (powT k)=some x→nanW x=false→arN .quo (floatOfInt .f64 n) (powT k)=x:=by
  intro x hx hnx
  unfold arN
  rw [hx]
  exact toN_of hnx
 rw [harn _ hdiv (by
  unfold nanW
  rw [hread]
  split <;> rfl)]
 by_cases hc:R<9007199254740992
 · rw [if_pos hc] at hread
   exact ⟨R,E,hread,b1,hc,hE5,by omega,d3,d4⟩
 · obtain rfl:R=9007199254740992:=by omega
   rw [if_neg hc] at hread
   obtain ⟨E',rfl⟩:∃ E',E=E'+1:=⟨E - 1,by omega⟩
   have c4:n*2 ^ (E'+1)=2*(n*2 ^ E'):=by rw [Nat.pow_succ,← Nat.mul_assoc,Nat.mul_comm 2]
   rw [c4] at d3 d4
   have hE6:5≤E':=by
    rcases Nat.lt_or_ge E' 5 with h | h
    · exfalso
      have e1:n*2 ^ E'≤n*2 ^ 4:=Nat.mul_le_mul_left _ (Nat.pow_le_pow_right (by omega) (by omega))
      omega
    · exact h
   refine ⟨4503599627370496,E',?_,by omega,by omega,hE6,by omega,by omega,by omega⟩
   rw [hread]
   congr 1
   omega
end Go.As
end
section
namespace Go.As
open Go Ieee
theorem rnd_half (n:Nat) {D:Nat} (hD:0<D):2*(rnd n D*D)≤2*n+D∧2*n≤2*(rnd n D*D)+D:=by
 have h:=Nat.div_add_mod n D
 have hm:=Nat.mod_lt n hD
 rcases rnd_cases n hD with ⟨e,h2⟩ | ⟨e,h2⟩
 · rw [e]
   rw [Nat.mul_comm] at h
   generalize n / D*D=z at *
   omega
 · rw [e,Nat.add_mul,Nat.one_mul]
   rw [Nat.mul_comm] at h
   generalize n / D*D=z at *
   omega
theorem near_mul {b n k:Nat} (h:Near b n (10 ^ k)) (hn:n<1000000000000000) (h1:1≤k) (h6:k≤6):
  ∃ r c F:Nat,floatBits .mul .f64 b (powT k)=some r∧fd.read r = .number false c (-(F:Int))∧c<9007199254740992∧4*c<(4*n+1)*2 ^ F∧4*n*2 ^ F<4*c+2 ^ F:=by
 obtain ⟨c,E,r1,c1,c2,hE1,hE2,b1,b2⟩:=h
 obtain ⟨J,r2,hJ1,hJ2,m1,m2⟩:=powT_read h1 h6
 have hP:=pow10_ge h1
 generalize 10 ^ k=P at *
 obtain ⟨N,hN⟩:∃ N,N=c*(P*2 ^ J):=⟨_,rfl⟩
 have hmul:floatBits .mul .f64 b (powT k)=some (fd.nearest false N (-(E:Int) + -(J:Int))):=by
  show ((fd.read b).product (fd.read (powT k))).map fd.write=_
  rw [r1,r2,hN]
  rfl
 have hN1:2 ^ 104≤N:=by rw [hN,show (2:Nat) ^ 104=4503599627370496*4503599627370496 by rfl];exact Nat.mul_le_mul c1 m1
 have hN2:N<2 ^ 106:=by rw [hN,show (2:Nat) ^ 106=9007199254740992*9007199254740992 by rfl];exact Nat.mul_lt_mul'' c2 m2
 have hN0:N≠0:=by have:=Nat.two_pow_pos 104;omega
 have hl1:104≤N.log2:=(Nat.le_log2 hN0).2 hN1
 have hl2:N.log2<106:=(Nat.log2_lt hN0).2 hN2
 obtain ⟨d,hd⟩:∃ d,N.log2=52+d:=⟨N.log2 - 52,by omega⟩
 have hd1:52≤d∧d≤53:=by omega
 have hNd1:2 ^ (52+d)≤N:=by rw [← hd];exact Nat.log2_self_le hN0
 have hNd2:N<2 ^ (53+d):=by
  have:N<2 ^ (N.log2+1):=Nat.lt_log2_self
  rw [hd] at this
  rw [show 53+d=52+d+1 by omega]
  exact this
 have hX:=Nat.two_pow_pos E
 have hcP:c*P<2 ^ (50+E):=by
  have e1:4503599627370496*P≤c*P:=Nat.mul_le_mul_right _ c1
  have e2:n*2 ^ E≤999999999999999*2 ^ E:=Nat.mul_le_mul_right _ (by omega)
  rw [Nat.pow_add,show (2:Nat) ^ 50=1125899906842624 by rfl]
  generalize n*2 ^ E=y at *
  generalize 2 ^ E=X at *
  generalize c*P=z at *
  omega
 have hF:d+3≤E+J:=by
  have e1:N<2 ^ (50+E+J):=by
   rw [hN,← Nat.mul_assoc,Nat.pow_add _ (50+E)]
   exact Nat.mul_lt_mul_of_pos_right hcP (Nat.two_pow_pos _)
  have e2:(2:Nat) ^ (52+d)<2 ^ (50+E+J):=Nat.lt_of_le_of_lt hNd1 e1
  have:=(Nat.pow_lt_pow_iff_right (a:=2) (by omega)).1 e2
  omega
 obtain ⟨F,hF2⟩:∃ F,F+d=E+J:=⟨E+J - d,by omega⟩
 have hb:=rnd_bounds (n:=N) (lo:=4503599627370496) (hi:=9007199254740992) (Nat.two_pow_pos d) (by rw [show 4503599627370496=2 ^ 52 by rfl,← Nat.pow_add];exact hNd1) (by rw [show 9007199254740992=2 ^ 53 by rfl,← Nat.pow_add];exact hNd2)
 have hh:=rnd_half N (Nat.two_pow_pos d)
 obtain ⟨R,hR⟩:∃ R,rnd N (2 ^ d)=R:=⟨_,rfl⟩
 have hread:=nearest_normal (N:=N) (d:=d) (R:=R) (place := -(E:Int) + -(J:Int)) (last := -(F:Int)) (by omega) hd hR (by omega) (by omega) (by omega) (by rw [← hR];exact hb.1) (by rw [← hR];exact hb.2)
 rw [hR] at hb hh
 have hJp:=Nat.two_pow_pos J
 have hA:2*(R*2 ^ E)≤2*(c*P*2 ^ F)+2 ^ E∧2*(c*P*2 ^ F)≤2*(R*2 ^ E)+2 ^ E:=by
  have g1:R*2 ^ d*2 ^ F=R*2 ^ E*2 ^ J:=by rw [Nat.mul_assoc,Nat.mul_assoc,← Nat.pow_add,← Nat.pow_add,Nat.add_comm d F,hF2]
  have g2:N*2 ^ F=c*P*2 ^ F*2 ^ J:=by rw [hN];generalize 2 ^ J=j;generalize 2 ^ F=f;rw [← Nat.mul_assoc,Nat.mul_assoc (c*P),Nat.mul_comm j f,← Nat.mul_assoc (c*P)]
  have g3:2 ^ d*2 ^ F=2 ^ E*2 ^ J:=by rw [← Nat.pow_add,← Nat.pow_add,Nat.add_comm d F,hF2]
  have k1:=Nat.mul_le_mul_right (2 ^ F) hh.1
  have k2:=Nat.mul_le_mul_right (2 ^ F) hh.2
  rw [Nat.add_mul,Nat.mul_assoc,Nat.mul_assoc 2 N,g1,g2,g3,← Nat.mul_assoc,← Nat.mul_assoc 2 (c*P*2 ^ F),← Nat.add_mul] at k1
  rw [Nat.add_mul,Nat.mul_assoc,Nat.mul_assoc 2 (R*2 ^ d),g1,g2,g3,← Nat.mul_assoc,← Nat.mul_assoc 2 (R*2 ^ E),← Nat.add_mul] at k2
  exact ⟨Nat.le_of_mul_le_mul_right k1 hJp,Nat.le_of_mul_le_mul_right k2 hJp⟩
 have hfin:4*R<(4*n+1)*2 ^ F∧4*n*2 ^ F<4*R+2 ^ F:=by
  have e3:P*9007199254740991≤2000000000000000*2 ^ E:=by
   have e1:4503599627370496*P≤c*P:=Nat.mul_le_mul_right _ c1
   have e2:n*2 ^ E≤999999999999999*2 ^ E:=Nat.mul_le_mul_right _ (by omega)
   generalize n*2 ^ E=y at *
   generalize 2 ^ E=X at *
   generalize c*P=z at *
   omega
  have hY:8≤2 ^ F:=by
   have:=Nat.pow_le_pow_right (n:=2) (by omega) (show 3≤F by omega)
   exact this
  have s1:=Nat.mul_le_mul_right (2 ^ F) b1
  have s2:=Nat.mul_le_mul_right (2 ^ F) b2
  have s3:=Nat.mul_le_mul_right (2 ^ F) e3
  have s4:=Nat.mul_le_mul_left (2 ^ E) hY
  rw [Nat.add_mul,Nat.mul_assoc,Nat.mul_assoc 2 (n*2 ^ E)] at s1
  rw [Nat.add_mul,Nat.mul_assoc,Nat.mul_assoc 2 (c*P)] at s2
  rw [Nat.mul_assoc,Nat.mul_comm 9007199254740991,← Nat.mul_assoc,Nat.mul_assoc 2000000000000000] at s3
  have t1:4*(R*2 ^ E)<4*(n*2 ^ E*2 ^ F)+2 ^ E*2 ^ F∧4*(n*2 ^ E*2 ^ F)<4*(R*2 ^ E)+2 ^ E*2 ^ F:=by
   have hz:0<2 ^ E*2 ^ F:=Nat.mul_pos hX (Nat.two_pow_pos _)
   generalize n*2 ^ E*2 ^ F=y at *
   generalize 2 ^ E*2 ^ F=z at *
   generalize P*2 ^ F=p at *
   generalize c*P*2 ^ F=q at *
   generalize R*2 ^ E=a at *
   generalize 2 ^ E=X at *
   omega
  have u1:4*R*2 ^ E<(4*n+1)*2 ^ F*2 ^ E:=by
   have e1:(4*n+1)*2 ^ F*2 ^ E=4*(n*2 ^ E*2 ^ F)+2 ^ E*2 ^ F:=by
    rw [Nat.add_mul,Nat.add_mul,Nat.one_mul,Nat.mul_comm (2 ^ F) (2 ^ E),Nat.mul_assoc 4,Nat.mul_assoc 4,Nat.mul_assoc n,Nat.mul_assoc n,Nat.mul_comm (2 ^ F) (2 ^ E)]
   rw [e1,Nat.mul_assoc]
   exact t1.1
  have u2:4*n*2 ^ F*2 ^ E<(4*R+2 ^ F)*2 ^ E:=by
   rw [Nat.add_mul,Nat.mul_comm (2 ^ F) (2 ^ E),Nat.mul_assoc 4 R,Nat.mul_assoc 4 n,Nat.mul_assoc 4,Nat.mul_assoc n,Nat.mul_comm (2 ^ F) (2 ^ E),← Nat.mul_assoc n]
   exact t1.2
  exact ⟨Nat.lt_of_mul_lt_mul_right u1,Nat.lt_of_mul_lt_mul_right u2⟩
 refine ⟨fd.nearest false N (-(E:Int) + -(J:Int)),?_⟩
 by_cases hc:R<9007199254740992
 · rw [if_pos hc] at hread
   exact ⟨R,F,hmul,hread,hc,hfin.1,hfin.2⟩
 · obtain rfl:R=9007199254740992:=by omega
   rw [if_neg hc] at hread
   obtain ⟨F',rfl⟩:∃ F',F=F'+1:=⟨F - 1,by omega⟩
   refine ⟨4503599627370496,F',hmul,?_,by omega,?_,?_⟩
   · rw [hread]
     congr 1
     omega
   · have:=hfin.1
     rw [Nat.pow_succ,← Nat.mul_assoc] at this
     omega
   · have:=hfin.2
     rw [Nat.pow_succ,← Nat.mul_assoc] at this
     omega
def quoW (n k:Nat):Nat:=arN .quo (floatOfInt .f64 (n:Int)) (powT k)
def LitIs (b k n:Nat):Prop:=1≤k∧k≤6∧n<1000000000000000∧quoW n k=b
theorem quoW_zero {k:Nat} (h1:1≤k) (h6:k≤6):quoW 0 k=0:=by
 have hk:k=1∨k=2∨k=3∨k=4∨k=5∨k=6:=by omega
 rcases hk with rfl | rfl | rfl | rfl | rfl | rfl <;> decide
theorem LitIs.near {b k n:Nat} (h:LitIs b k n):(n=0∧b=0)∨(0<n∧Near b n (10 ^ k)):=by
 obtain ⟨h1,h6,hn,hb⟩:=h
 rcases Nat.eq_zero_or_pos n with h0 | h0
 · subst h0
   rw [quoW_zero h1 h6] at hb
   exact .inl ⟨rfl,hb.symm⟩
 · right
   rw [← hb]
   exact ⟨h0,quo_near h0 hn h1 h6⟩
theorem read_zero:fd.read 0 = .number false 0 (-1074):=by decide
theorem near_not_zero {n P:Nat} (h:Near 0 n P):False:=by
 obtain ⟨c,E,r1,c1,_⟩:=h
 rw [read_zero] at r1
 injection r1 with _ e1 _
 omega
def flW (r:Nat):Nat:=fd.write ((fd.read r).integral .down)
theorem cut_down (n drop:Nat):Toward.down.cut false n drop=n / 2 ^ drop:=by
 simp only [Toward.cut,Bool.false_and,Bool.toNat_false,Nat.add_zero,Nat.shiftLeft_eq,Nat.one_mul]
 rcases Nat.le_total drop (n.log2+2) with hl | hl
 · rw [Nat.min_eq_left hl]
 · rw [Nat.min_eq_right hl]
   have h1:n<2 ^ (n.log2+1):=Nat.lt_log2_self
   have h2:2 ^ (n.log2+1)≤2 ^ (n.log2+2):=Nat.pow_le_pow_right (by omega) (by omega)
   have h3:2 ^ (n.log2+2)≤2 ^ drop:=Nat.pow_le_pow_right (by omega) hl
   rw [Nat.div_eq_of_lt (by omega),Nat.div_eq_of_lt (by omega)]
def whV (c:Nat) (e:Int):Nat:=(c <<< e.toNat) / 2 ^ (-e).toNat
theorem flW_num {r c:Nat} {e:Int} (h:fd.read r = .number false c e):flW r=fd.nearest false (whV c e) 0:=by
 unfold flW
 rw [h]
 simp only [Datum.integral,Format.write]
 rw [cut_down]
 rfl
def w15:Nat:=4831355200913801216
theorem w15_read:fd.read w15 = .number false 8000000000000000 (-3):=by decide
theorem w15_int:IsI w15 1000000000000000:=⟨false,-3,by rw [w15_read];rfl,by omega,by omega,fun _=>rfl,fun h=>by omega⟩
theorem floor_or {r c:Nat} {e:Int} (h:fd.read r = .number false c e):
  (whV c e<9007199254740992∧IsI (flW r) (whV c e))∨(9007199254740992≤whV c e∧fd.order (flW r) w15=some .gt∧nanW (flW r)=false):=by
 have hr:=read_num h
 rw [flW_num h]
 rcases Nat.lt_or_ge (whV c e) 9007199254740992 with hV | hV
 · left
   refine ⟨hV,isI_nearest (Z:=0) (by omega) (fun _=>rfl) (fun h=>by omega) (by omega) (by omega) (by simp)⟩
 · right
   refine ⟨hV,?_⟩
   have he:0<e:=by
    rcases Int.lt_or_le 0 e with h' | h'
    · exact h'
    · exfalso
      unfold whV at hV
      rw [show e.toNat=0 by omega,Nat.shiftLeft_zero] at hV
      have:=Nat.div_le_self c (2 ^ (-e).toNat)
      omega
   have hVe:whV c e=c*2 ^ e.toNat:=by
    unfold whV
    rw [show (-e).toNat=0 by omega,Nat.pow_zero,Nat.div_one,Nat.shiftLeft_eq]
   have hc0:0<c:=by
    rcases Nat.eq_zero_or_pos c with h0 | h0
    · rw [hVe,h0,Nat.zero_mul] at hV;omega
    · exact h0
   obtain ⟨K,last,e1,e2,e3,e4,e5,e6⟩:=nearest_exact false (mag:=whV c e) (place:=0) (M:=c) (E:=e) (Z:=0) hc0 hr.1 hr.2.1 hr.2.2 (by omega) (by omega)
    (by rw [hVe,show ((0:Int)+0).toNat=0 by omega,Nat.pow_zero,Nat.mul_one,Int.add_zero])
   have hlast:1≤last:=by
    have h1:53≤(whV c e).log2:=(Nat.le_log2 (by omega)).2 hV
    rw [hVe,log2_mul_pow hc0] at h1
    omega
   refine ⟨?_,by unfold nanW;rw [e1];rfl⟩
   unfold Format.order
   rw [e1,w15_read]
   simp only [Datum.order]
   congr 1
   rw [Int.min_eq_right (by omega:(-3:Int)≤last),show (-3 - -3:Int).toNat=0 by omega,show (last - -3).toNat=last.toNat+3 by omega]
   have hk:K*2 ^ last.toNat=whV c e:=by
    rw [e4,hVe,Nat.mul_assoc,← Nat.pow_add,show (e - last).toNat+last.toNat=e.toNat by omega]
   have:signed false K (last.toNat+3)=((whV c e*8:Nat):Int):=by
    unfold signed
    rw [if_neg (by decide),Nat.shiftLeft_eq,Nat.pow_add,← Nat.mul_assoc,hk]
   rw [this,show signed false 8000000000000000 0=8000000000000000 by decide]
   exact Int.compare_eq_gt.2 (by omega)
theorem whV_neg {c F:Nat}:whV c (-(F:Int))=c / 2 ^ F:=by
 unfold whV
 rw [show (-(F:Int)).toNat=0 by omega,Nat.shiftLeft_zero,show (- -(F:Int)).toNat=F by omega]
theorem LitIs.floor {b k n:Nat} (h:LitIs b k n):∃ r V:Nat,floatBits .mul .f64 b (powT k)=some r∧nanW r=false∧IsI (flW r) V∧(V=n∨V+1=n):=by
 have h1:=h.1
 have h6:=h.2.1
 rcases h.near with ⟨rfl,rfl⟩ | ⟨h0,hn⟩
 · refine ⟨0,0,?_,by decide,?_,.inl rfl⟩
   · have hk:k=1∨k=2∨k=3∨k=4∨k=5∨k=6:=by omega
     rcases hk with rfl | rfl | rfl | rfl | rfl | rfl <;> decide
   · rcases floor_or read_zero with ⟨_,h3⟩ | ⟨h3,_⟩
     · have:whV 0 (-1074)=0:=by unfold whV;rw [Nat.zero_shiftLeft,Nat.zero_div]
       rw [this] at h3
       exact h3
     · have:whV 0 (-1074)=0:=by unfold whV;rw [Nat.zero_shiftLeft,Nat.zero_div]
       omega
 · obtain ⟨r,c,F,hr,hread,hc,b1,b2⟩:=near_mul hn h.2.2.1 h1 h6
   have hY:=Nat.two_pow_pos F
   have hV:=whV_neg (c:=c) (F:=F)
   have e1:=Nat.div_add_mod c (2 ^ F)
   have e2:=Nat.mod_lt c hY
   rw [Nat.mul_comm] at e1
   have hb1:c / 2 ^ F≤n:=by
    rcases Nat.lt_or_ge n (c / 2 ^ F) with hlt | hge
    · have:(n+1)*2 ^ F≤c / 2 ^ F*2 ^ F:=Nat.mul_le_mul_right _ hlt
      rw [Nat.add_mul,Nat.one_mul] at this
      rw [Nat.add_mul,Nat.one_mul,Nat.mul_assoc] at b1
      omega
    · exact hge
   have hb2:n≤c / 2 ^ F+1:=by
    rcases Nat.lt_or_ge (c / 2 ^ F+1) n with hlt | hge
    · have:(c / 2 ^ F+1+1)*2 ^ F≤n*2 ^ F:=Nat.mul_le_mul_right _ hlt
      rw [Nat.add_mul,Nat.add_mul,Nat.one_mul] at this
      rw [Nat.mul_assoc] at b2
      omega
    · exact hge
   have hnn:=h.2.2.1
   refine ⟨r,c / 2 ^ F,hr,by unfold nanW;rw [hread];rfl,?_,by omega⟩
   rcases floor_or hread with ⟨_,h3⟩ | ⟨h3,_⟩
   · rw [hV] at h3;exact h3
   · rw [hV] at h3;omega
theorem LitIs.uniq {b k n m:Nat} (h:LitIs b k n) (g:LitIs b k m):n=m:=by
 rcases h.near with ⟨rfl,rfl⟩ | ⟨h0,hn⟩
 · rcases g.near with ⟨rfl,_⟩ | ⟨g0,gn⟩
   · rfl
   · exact (near_not_zero gn).elim
 · rcases g.near with ⟨rfl,rfl⟩ | ⟨g0,gn⟩
   · exact (near_not_zero hn).elim
   · obtain ⟨r,c,F,hr,hread,hc,b1,b2⟩:=near_mul hn h.2.2.1 h.1 h.2.1
     obtain ⟨r',c',F',hr',hread',hc',d1,d2⟩:=near_mul gn g.2.2.1 g.1 g.2.1
     rw [hr] at hr'
     injection hr' with hr'
     subst hr'
     rw [hread] at hread'
     injection hread' with _ e1 e2
     subst e1
     have:F=F':=by omega
     subst this
     have hY:=Nat.two_pow_pos F
     rw [Nat.add_mul,Nat.one_mul] at b1 d1
     rcases Nat.lt_trichotomy n m with hlt | he | hgt
     · have:=Nat.mul_le_mul_right (2 ^ F) (show 4*n+4≤4*m by omega)
       rw [Nat.add_mul] at this
       omega
     · exact he
     · have:=Nat.mul_le_mul_right (2 ^ F) (show 4*m+4≤4*n by omega)
       rw [Nat.add_mul] at this
       omega
theorem Near.small {b n P:Nat} {c E:Nat} (c1:4503599627370496≤c) (hn:n<1000000000000000) (b1:2*(c*P)≤2*(n*2 ^ E)+P):P*9007199254740991≤2000000000000000*2 ^ E:=by
 have e1:4503599627370496*P≤c*P:=Nat.mul_le_mul_right _ c1
 have e2:n*2 ^ E≤999999999999999*2 ^ E:=Nat.mul_le_mul_right _ (by omega)
 generalize n*2 ^ E=y at *
 generalize 2 ^ E=X at *
 generalize c*P=z at *
 omega
theorem LitIs.bound {b k n:Nat} (h:LitIs b k n):fd.order b w15=some .lt∧nanW b=false∧b<9223372036854775808:=by
 have hb64:b<18446744073709551616:=by
  rw [← h.2.2.2]
  unfold quoW arN
  split
  · rename_i r hr
    have:r<2 ^ 64:=by
     have:=floatBits_wf hr
     simpa [Lit.wf] using this
    unfold toN
    split
    · exact this
    · omega
  · omega
 rcases h.near with ⟨rfl,rfl⟩ | ⟨h0,hn⟩
 · exact ⟨by decide,by decide,by omega⟩
 · obtain ⟨c,E,r1,c1,c2,hE1,hE2,b1,b2⟩:=hn
   have hP:=pow10_ge h.1
   have hnan:nanW b=false:=by unfold nanW;rw [r1];rfl
   refine ⟨?_,hnan,?_⟩
   · unfold Format.order
     rw [r1,w15_read]
     simp only [Datum.order]
     congr 1
     rw [Int.min_eq_left (by omega : -(E:Int) ≤ -3),show (-(E:Int) - -(E:Int)).toNat=0 by omega,show (-3 - -(E:Int)).toNat=E - 3 by omega]
     have hX:2 ^ E=8*2 ^ (E - 3):=by
      rw [show (8:Nat)=2 ^ 3 by rfl,← Nat.pow_add];congr 1;omega
     have hc:c<8000000000000000*2 ^ (E - 3):=by
      have hnn:=h.2.2.1
      rw [hX] at b1
      have e2:n*(8*2 ^ (E - 3))≤999999999999999*(8*2 ^ (E - 3)):=Nat.mul_le_mul_right _ (by omega)
      have e3:c*10≤c*10 ^ k:=Nat.mul_le_mul_left _ hP
      have e4:10 ^ k*1≤10 ^ k*c:=Nat.mul_le_mul_left _ (by omega)
      rw [Nat.mul_comm (10 ^ k) c] at e4
      have hZ:=Nat.two_pow_pos (E - 3)
      generalize n*(8*2 ^ (E - 3))=y at *
      generalize 2 ^ (E - 3)=Z at *
      generalize c*10 ^ k=z at *
      generalize 10 ^ k=P at *
      omega
     unfold signed
     rw [if_neg (by decide),if_neg (by decide),Nat.shiftLeft_zero,Nat.shiftLeft_eq]
     exact Int.compare_eq_lt.2 (by exact Int.ofNat_lt.2 hc)
   · have hcan:=(read_canon hb64 r1).1
     unfold Format.word at hcan
     rw [if_neg (by decide)] at hcan
     omega
theorem mul_round {b c E k:Nat} (r1:fd.read b = .number false c (-(E:Int))) (c1:4503599627370496≤c) (c2:c<9007199254740992) (hE2:E≤72) (hcP':c*10 ^ k<2 ^ (50+E)) (h1:1≤k) (h6:k≤6):
  ∃ r c' F:Nat,floatBits .mul .f64 b (powT k)=some r∧fd.read r = .number false c' (-(F:Int))∧c'<9007199254740992∧2*(c'*2 ^ E)≤2*(c*10 ^ k*2 ^ F)+2 ^ E:=by
 obtain ⟨J,r2,hJ1,hJ2,m1,m2⟩:=powT_read h1 h6
 have hP:=pow10_ge h1
 generalize 10 ^ k=P at *
 obtain ⟨N,hN⟩:∃ N,N=c*(P*2 ^ J):=⟨_,rfl⟩
 have hmul:floatBits .mul .f64 b (powT k)=some (fd.nearest false N (-(E:Int) + -(J:Int))):=by
  show ((fd.read b).product (fd.read (powT k))).map fd.write=_
  rw [r1,r2,hN]
  rfl
 have hN1:2 ^ 104≤N:=by rw [hN,show (2:Nat) ^ 104=4503599627370496*4503599627370496 by rfl];exact Nat.mul_le_mul c1 m1
 have hN2:N<2 ^ 106:=by rw [hN,show (2:Nat) ^ 106=9007199254740992*9007199254740992 by rfl];exact Nat.mul_lt_mul'' c2 m2
 have hN0:N≠0:=by have:=Nat.two_pow_pos 104;omega
 have hl1:104≤N.log2:=(Nat.le_log2 hN0).2 hN1
 have hl2:N.log2<106:=(Nat.log2_lt hN0).2 hN2
 obtain ⟨d,hd⟩:∃ d,N.log2=52+d:=⟨N.log2 - 52,by omega⟩
 have hd1:52≤d∧d≤53:=by omega
 have hNd1:2 ^ (52+d)≤N:=by rw [← hd];exact Nat.log2_self_le hN0
 have hNd2:N<2 ^ (53+d):=by
  have:N<2 ^ (N.log2+1):=Nat.lt_log2_self
  rw [hd] at this
  rw [show 53+d=52+d+1 by omega]
  exact this
 have hX:=Nat.two_pow_pos E
 have hcP:=hcP'
 have hF:d+3≤E+J:=by
  have e1:N<2 ^ (50+E+J):=by
   rw [hN,← Nat.mul_assoc,Nat.pow_add _ (50+E)]
   exact Nat.mul_lt_mul_of_pos_right hcP (Nat.two_pow_pos _)
  have e2:(2:Nat) ^ (52+d)<2 ^ (50+E+J):=Nat.lt_of_le_of_lt hNd1 e1
  have:=(Nat.pow_lt_pow_iff_right (a:=2) (by omega)).1 e2
  omega
 obtain ⟨F,hF2⟩:∃ F,F+d=E+J:=⟨E+J - d,by omega⟩
 have hb:=rnd_bounds (n:=N) (lo:=4503599627370496) (hi:=9007199254740992) (Nat.two_pow_pos d) (by rw [show 4503599627370496=2 ^ 52 by rfl,← Nat.pow_add];exact hNd1) (by rw [show 9007199254740992=2 ^ 53 by rfl,← Nat.pow_add];exact hNd2)
 have hh:=rnd_half N (Nat.two_pow_pos d)
 obtain ⟨R,hR⟩:∃ R,rnd N (2 ^ d)=R:=⟨_,rfl⟩
 have hread:=nearest_normal (N:=N) (d:=d) (R:=R) (place := -(E:Int) + -(J:Int)) (last := -(F:Int)) (by omega) hd hR (by omega) (by omega) (by omega) (by rw [← hR];exact hb.1) (by rw [← hR];exact hb.2)
 rw [hR] at hb hh
 have hJp:=Nat.two_pow_pos J
 have hA:2*(R*2 ^ E)≤2*(c*P*2 ^ F)+2 ^ E∧2*(c*P*2 ^ F)≤2*(R*2 ^ E)+2 ^ E:=by
  have g1:R*2 ^ d*2 ^ F=R*2 ^ E*2 ^ J:=by rw [Nat.mul_assoc,Nat.mul_assoc,← Nat.pow_add,← Nat.pow_add,Nat.add_comm d F,hF2]
  have g2:N*2 ^ F=c*P*2 ^ F*2 ^ J:=by rw [hN];generalize 2 ^ J=j;generalize 2 ^ F=f;rw [← Nat.mul_assoc,Nat.mul_assoc (c*P),Nat.mul_comm j f,← Nat.mul_assoc (c*P)]
  have g3:2 ^ d*2 ^ F=2 ^ E*2 ^ J:=by rw [← Nat.pow_add,← Nat.pow_add,Nat.add_comm d F,hF2]
  have k1:=Nat.mul_le_mul_right (2 ^ F) hh.1
  have k2:=Nat.mul_le_mul_right (2 ^ F) hh.2
  rw [Nat.add_mul,Nat.mul_assoc,Nat.mul_assoc 2 N,g1,g2,g3,← Nat.mul_assoc,← Nat.mul_assoc 2 (c*P*2 ^ F),← Nat.add_mul] at k1
  rw [Nat.add_mul,Nat.mul_assoc,Nat.mul_assoc 2 (R*2 ^ d),g1,g2,g3,← Nat.mul_assoc,← Nat.mul_assoc 2 (R*2 ^ E),← Nat.add_mul] at k2
  exact ⟨Nat.le_of_mul_le_mul_right k1 hJp,Nat.le_of_mul_le_mul_right k2 hJp⟩
 refine ⟨fd.nearest false N (-(E:Int) + -(J:Int)),?_⟩
 by_cases hc:R<9007199254740992
 · rw [if_pos hc] at hread
   exact ⟨R,F,hmul,hread,hc,hA.1⟩
 · obtain rfl:R=9007199254740992:=by omega
   rw [if_neg hc] at hread
   obtain ⟨F',rfl⟩:∃ F',F=F'+1:=⟨F - 1,by omega⟩
   refine ⟨4503599627370496,F',hmul,?_,by omega,?_⟩
   · rw [hread]
     congr 1
     omega
   · have:=hA.1
     have e:c*P*2 ^ (F'+1)=2*(c*P*2 ^ F'):=by rw [Nat.pow_succ,← Nat.mul_assoc,Nat.mul_comm 2]
     rw [e] at this
     omega
theorem LitIs.far {b k l m:Nat} (g:LitIs b l m) (h1:1≤k) (hkl:k<l):∃ r V:Nat,floatBits .mul .f64 b (powT k)=some r∧nanW r=false∧IsI (flW r) V∧V≤1000000000000000:=by
 have h6:k≤6:=by have:=g.2.1;omega
 rcases g.near with ⟨rfl,rfl⟩ | ⟨g0,gn⟩
 · obtain ⟨r,V,e1,e2,e3,e4⟩:=(show LitIs 0 k 0 from ⟨h1,h6,by omega,quoW_zero h1 h6⟩).floor
   exact ⟨r,V,e1,e2,e3,by omega⟩
 · obtain ⟨c,E,r1,c1,c2,hE1,hE2,b1,b2⟩:=gn
   have hmm:=g.2.2.1
   have hPQ:10 ^ l=10 ^ k*10 ^ (l - k):=by rw [← Nat.pow_add];congr 1;omega
   have hQ:=pow10_ge (k:=l - k) (by omega)
   have hsm:=Near.small (b:=b) c1 hmm b1
   have hX:=Nat.two_pow_pos E
   have hcP:c*10 ^ k*10≤c*10 ^ l:=by
    rw [hPQ,← Nat.mul_assoc]
    exact Nat.mul_le_mul_left _ hQ
   have e2:m*2 ^ E≤999999999999999*2 ^ E:=Nat.mul_le_mul_right _ (by omega)
   have hsz:c*10 ^ k<2 ^ (50+E):=by
    rw [Nat.pow_add,show (2:Nat) ^ 50=1125899906842624 by rfl]
    generalize m*2 ^ E=y at *
    generalize c*10 ^ k=z at *
    generalize c*10 ^ l=z' at *
    generalize 10 ^ l=P at *
    generalize 2 ^ E=X at *
    omega
   obtain ⟨r,c',F,hr,hread,hc',hA⟩:=mul_round r1 c1 c2 hE2 hsz h1 h6
   have hY:=Nat.two_pow_pos F
   have hV:c' / 2 ^ F≤1000000000000000:=by
    rcases Nat.lt_or_ge 1000000000000000 (c' / 2 ^ F) with hlt | hge
    · exfalso
      have h3:1000000000000001*2 ^ F≤c':=(Nat.le_div_iff_mul_le hY).1 hlt
      have h4:=Nat.mul_le_mul_right (2 ^ E) h3
      have h5:c*10 ^ k*2 ^ F*10≤(m*2 ^ E+10 ^ l)*2 ^ F:=by
       rw [Nat.mul_right_comm]
       refine Nat.mul_le_mul_right _ ?_
       omega
      have h6:=Nat.mul_le_mul_right (2 ^ F) e2
      have h7:=Nat.mul_le_mul_right (2 ^ F) hsm
      rw [Nat.add_mul] at h5
      rw [Nat.mul_assoc 1000000000000001] at h4
      have hYX:2 ^ E*1≤2 ^ E*2 ^ F:=Nat.mul_le_mul_left _ hY
      rw [Nat.mul_right_comm,Nat.mul_assoc 2000000000000000] at h7
      rw [Nat.mul_comm (2 ^ F) (2 ^ E)] at h4
      rw [Nat.mul_assoc 999999999999999] at h6
      generalize c'*2 ^ E=u at *
      generalize c*10 ^ k*2 ^ F=z at *
      generalize 10 ^ l*2 ^ F=p at *
      generalize m*2 ^ E*2 ^ F=y at *
      generalize 2 ^ E*2 ^ F=t at *
      generalize 2 ^ E=X at *
      omega
    · exact hge
   refine ⟨r,c' / 2 ^ F,hr,by unfold nanW;rw [hread];rfl,?_,hV⟩
   rcases floor_or hread with ⟨_,h3⟩ | ⟨h3,_⟩
   · rw [whV_neg] at h3;exact h3
   · rw [whV_neg] at h3;omega
theorem nearest_number {mag:Nat} {place:Int} (h:mag=0∨place+mag.log2≤900):∃ K last,fd.read (fd.nearest false mag place) = .number false K last:=by
 by_cases h0:mag=0
 · subst h0
   exact ⟨0,-1074,nearest_zero false place⟩
 · have h:=h.resolve_left h0
   unfold Format.nearest
   rw [if_neg h0,fd_lp,fd_fb]
   obtain ⟨last,hlast⟩:∃ last,last=max (place+(mag.log2:Int) - (52:Nat)) (-1074):=⟨_,rfl⟩
   simp only
   rw [← hlast,cut_even,Nat.shiftLeft_eq]
   have hml:mag<2 ^ (mag.log2+1):=Nat.lt_log2_self
   have hk:rnd (mag*2 ^ (place - last).toNat) (2 ^ (last - place).toNat)≤9007199254740992:=by
    refine (rnd_bounds (lo:=0) (Nat.two_pow_pos _) (by omega) ?_).2
    have e1:mag*2 ^ (place - last).toNat<2 ^ (mag.log2+1)*2 ^ (place - last).toNat:=Nat.mul_lt_mul_of_pos_right hml (Nat.two_pow_pos _)
    refine Nat.lt_of_lt_of_le e1 ?_
    rw [show 9007199254740992=2 ^ 53 by rfl,← Nat.pow_add,← Nat.pow_add]
    exact Nat.pow_le_pow_right (by omega) (by omega)
   generalize rnd (mag*2 ^ (place - last).toNat) (2 ^ (last - place).toNat)=R at *
   obtain ⟨q,hq⟩:∃ q:Nat,q=(last - -1074).toNat:=⟨_,rfl⟩
   rw [← hq,fd_bin,fd_inf,Nat.min_eq_left (by omega)]
   have e0:fd.word false (q*4503599627370496+R)=q*4503599627370496+R:=by unfold Format.word;rw [if_neg (by decide)]
   rw [e0]
   have e2:((q*4503599627370496+R) / 9223372036854775808 % 2==1)=false:=by
    rw [show (q*4503599627370496+R) / 9223372036854775808 % 2=0 by omega];rfl
   unfold Format.read
   simp only [fd_sw,fd_bin,fd_inf,fd_lp]
   rw [e2,Nat.mod_eq_of_lt (by omega:q*4503599627370496+R<9223372036854775808)]
   split
   · exact ⟨_,_,rfl⟩
   · rw [if_pos (by omega)]
     exact ⟨_,_,rfl⟩
theorem prod_gen {b k c:Nat} {i:Int} (hr:fd.read b = .number false c i) (hlt:fd.order b w15=some .lt) (h1:1≤k) (h6:k≤6):
  ∃ r c' e',floatBits .mul .f64 b (powT k)=some r∧fd.read r = .number false c' e':=by
 obtain ⟨J,r2,hJ1,hJ2,m1,m2⟩:=powT_read h1 h6
 have hmul:floatBits .mul .f64 b (powT k)=some (fd.nearest false (c*(10 ^ k*2 ^ J)) (i + -(J:Int))):=by
  show ((fd.read b).product (fd.read (powT k))).map fd.write=_
  rw [hr,r2]
  rfl
 have hn:=read_num hr
 have hnum:c*(10 ^ k*2 ^ J)=0∨i + -(J:Int)+(c*(10 ^ k*2 ^ J)).log2≤900:=by
  rcases Nat.eq_zero_or_pos c with h0 | h0
  · left;rw [h0,Nat.zero_mul]
  · right
    have hci:i≤53:=by
     rcases Int.lt_or_le 53 i with h | h
     · exfalso
       unfold Format.order at hlt
       rw [hr,w15_read] at hlt
       simp only [Datum.order,Option.some.injEq] at hlt
       rw [Int.min_eq_right (by omega:(-3:Int)≤i),Int.compare_eq_lt,show (-3 - -3:Int).toNat=0 by omega] at hlt
       unfold signed at hlt
       rw [if_neg (by decide),if_neg (by decide),Nat.shiftLeft_eq,Nat.shiftLeft_zero] at hlt
       have e1:1*2 ^ 56≤c*2 ^ (i - -3).toNat:=Nat.mul_le_mul h0 (Nat.pow_le_pow_right (by omega) (by omega))
       have e2:(2:Nat) ^ 56=72057594037927936:=by decide
       omega
     · exact h
    have hlog:(c*(10 ^ k*2 ^ J)).log2<106:=(Nat.log2_lt (Nat.ne_of_gt (Nat.mul_pos h0 (by omega)))).2 (by
     rw [show (2:Nat) ^ 106=9007199254740992*9007199254740992 by rfl]
     exact Nat.mul_lt_mul'' hn.1 m2)
    omega
 obtain ⟨K,last,h⟩:=nearest_number hnum
 exact ⟨_,K,last,hmul,h⟩
end Go.As
end
section
namespace Go.As
open Go Ieee
def digB (c:UInt8):Bool:=decide (48≤c.toNat∧c.toNat≤57)
def decV (l:List UInt8):Nat:=l.foldl (fun n c=>10*n+(c.toNat - 48)) 0
def rpW (s:List UInt8):List UInt8:=(Lib.cut s [46]).1
def rpP (s:List UInt8):List UInt8:=(Lib.cut s [46]).2.1
def rpO (s:List UInt8):Bool:=(Lib.cut s [46]).2.2
def fmtB (o:Bool) (x p:List UInt8):Bool:=decide (o=true∧x≠[]∧p≠[]∧p.length≤6∧x.length+p.length≤15∧¬ (x.head?=some 48∧x≠[48]))
def rpOk (s:List UInt8):Bool:=fmtB (rpO s) (rpW s) (rpP s)&&(rpW s++rpP s).all digB
def rpB (s:List UInt8):Nat:=if rpOk s=true then arN .quo (floatOfInt .f64 (decV (rpW s++rpP s))) (powT (rpP s).length) else 0
def rpF (s:List UInt8):Int:=if rpOk s=true then 0 else 4
theorem rp_bad {s:List UInt8} (h:rpOk s=false):rpB s=0∧rpF s=4:=by unfold rpB rpF;rw [h];exact ⟨rfl,rfl⟩
theorem decV_succ (l:List UInt8) (c:UInt8):decV (l++[c])=10*decV l+(c.toNat - 48):=by unfold decV;rw [List.foldl_append];rfl
theorem cut_len (s:List UInt8):(Lib.cut s [46]).1.length≤s.length:=by
 unfold Lib.cut
 split
 · simp only [List.length_take];omega
 · simp
theorem digB_val {c:UInt8} (h:digB c=true):48≤c.toNat∧c.toNat≤57:=by unfold digB at h;exact of_decide_eq_true h
theorem decV_lt:∀ (l:List UInt8),l.all digB=true→decV l<10 ^ l.length:=by
 have key:∀ (l:List UInt8) (a n:Nat),a<10 ^ n→l.all digB=true→l.foldl (fun n c=>10*n+(c.toNat - 48)) a<10 ^ (n+l.length):=by
  intro l
  induction l with
  | nil=>intro a n h _;simpa using h
  | cons c r ih=>
    intro a n h hd
    rw [List.all_cons,Bool.and_eq_true] at hd
    have hc:=digB_val hd.1
    rw [List.foldl_cons,List.length_cons,show n+(r.length+1)=(n+1)+r.length by omega]
    exact ih _ _ (by rw [Nat.pow_succ];omega) hd.2
 intro l h
 have:=key l 0 0 (by simp) h
 unfold decV
 simpa using this
theorem indexByte_app:∀ (X P:List UInt8),(46:UInt8) ∉ X→Lib.indexByte (X++46::P) 46=(X.length:Nat)
 | [],P,_=>by simp [Lib.indexByte]
 | c::X,P,h=>by
   have hc:(c==46)=false:=by simp;intro e;exact h (by simp [e])
   have ih:=indexByte_app X P (fun e=>h (by simp [e]))
   rw [List.cons_append,Lib.indexByte,hc,if_neg (by decide),ih]
   have:(((X.length:Nat):Int) == -1)=false:=beq_false_of_ne (by omega)
   rw [this,if_neg (by decide)]
   simp
theorem indexByte_none:∀ (s:List UInt8),(46:UInt8) ∉ s→Lib.indexByte s 46 = -1
 | [],_=>rfl
 | c::s,h=>by
   have hc:(c==46)=false:=by simp;intro e;exact h (by simp [e])
   rw [Lib.indexByte,hc,if_neg (by decide),indexByte_none s (fun e=>h (by simp [e]))]
   rfl
theorem cut_app {X P:List UInt8} (h:(46:UInt8) ∉ X):Lib.cut (X++46::P) [46]=(X,P,true):=by
 unfold Lib.cut
 rw [Lib.index_one,indexByte_app X P h,if_pos (by omega)]
 simp
theorem cut_no {s:List UInt8} (h:(46:UInt8) ∉ s):Lib.cut s [46]=(s,[],false):=by
 unfold Lib.cut
 rw [Lib.index_one,indexByte_none s h,if_neg (by decide)]
theorem cut_split:∀ (s:List UInt8),((46:UInt8) ∉ s)∨∃ X P,s=X++46::P∧(46:UInt8) ∉ X
 | [] => .inl (by simp)
 | c::s=>by
   by_cases hc:c=46
   · exact .inr ⟨[],s,by simp [hc],by simp⟩
   · rcases cut_split s with h | ⟨X,P,h1,h2⟩
     · exact .inl (fun e=>by rcases List.mem_cons.1 e with e | e;exact hc e.symm;exact h e)
     · exact .inr ⟨c::X,P,by simp [h1],fun e=>by rcases List.mem_cons.1 e with e | e;exact hc e.symm;exact h2 e⟩
theorem rp_point {s:List UInt8} (h:rpO s=true):s=rpW s++46::rpP s∧(46:UInt8) ∉ rpW s:=by
 rcases cut_split s with h1 | ⟨X,P,h1,h2⟩
 · unfold rpO at h;rw [cut_no h1] at h;cases h
 · have:rpW s=X∧rpP s=P:=by unfold rpW rpP;rw [h1,cut_app h2];exact ⟨rfl,rfl⟩
   rw [this.1,this.2]
   exact ⟨h1,h2⟩
def digC (d:Nat):UInt8:=UInt8.ofNat (48+d)
theorem digC_val {d:Nat} (h:d<10):(digC d).toNat=48+d:=by unfold digC;rw [UInt8.toNat_ofNat'];omega
theorem digC_digB {d:Nat} (h:d<10):digB (digC d)=true:=by unfold digB;rw [digC_val h];exact decide_eq_true (by omega)
def dgw:Nat→Nat→List UInt8
 | 0,_=>[]
 | w+1,n=>dgw w (n / 10)++[digC (n % 10)]
theorem dgw_length:∀ (w n:Nat),(dgw w n).length=w
 | 0,n=>rfl
 | w+1,n=>by rw [dgw,List.length_append,dgw_length];rfl
theorem dgw_all:∀ (w n:Nat),(dgw w n).all digB=true
 | 0,n=>rfl
 | w+1,n=>by rw [dgw,List.all_append,dgw_all w];simp [digC_digB (Nat.mod_lt n (by decide:10 > 0))]
theorem decV_dgw (X:List UInt8):∀ (w n:Nat),decV (X++dgw w n)=decV X*10 ^ w+n % 10 ^ w
 | 0,n=>by simp [dgw,Nat.mod_one]
 | w+1,n=>by
   rw [dgw,← List.append_assoc,decV_succ,decV_dgw X w (n / 10),digC_val (Nat.mod_lt n (by decide:10 > 0)),Nat.pow_succ]
   have h1:=Nat.mod_mul (a:=10) (b:=10 ^ w) (x:=n)
   rw [Nat.mul_comm (10 ^ w) 10,h1]
   generalize decV X=v at *
   generalize (n / 10) % 10 ^ w=z at *
   rw [Nat.mul_left_comm]
   generalize v*10 ^ w=u at *
   omega
theorem dgw_mod:∀ (w n:Nat),dgw w (n % 10 ^ w)=dgw w n
 | 0,n=>rfl
 | w+1,n=>by
   rw [dgw,dgw,Nat.pow_succ,Nat.mul_comm (10 ^ w) 10,Nat.mod_mul_right_mod]
   congr 1
   rw [Nat.mod_mul_right_div_self]
   exact dgw_mod w (n / 10)
theorem decDigits_small {n:Nat} (h:n<10):Lib.decDigits n=[digC n]:=by rw [Lib.decDigits,dif_pos h];rfl
theorem decDigits_big {n:Nat} (h:¬ n<10):Lib.decDigits n=Lib.decDigits (n / 10)++[digC (n % 10)]:=by rw [Lib.decDigits,dif_neg h];rfl
theorem decDigits_all (n:Nat):(Lib.decDigits n).all digB=true:=by
 induction n using Nat.strongRecOn with
 | _ n ih=>
   by_cases h:n<10
   · rw [decDigits_small h];simp [digC_digB h]
   · rw [decDigits_big h,List.all_append,ih (n / 10) (by omega)];simp [digC_digB (Nat.mod_lt n (by decide:10 > 0))]
theorem decV_decDigits (n:Nat):decV (Lib.decDigits n)=n:=by
 induction n using Nat.strongRecOn with
 | _ n ih=>
   by_cases h:n<10
   · rw [decDigits_small h]
     have:=decV_succ [] (digC n)
     rw [List.nil_append,digC_val h] at this
     rw [this]
     simp [decV]
   · rw [decDigits_big h,decV_succ,ih (n / 10) (by omega),digC_val (Nat.mod_lt n (by decide:10 > 0))]
     omega
theorem decDigits_ne (n:Nat):Lib.decDigits n≠[]:=by
 intro h
 have:=Lib.decDigits_length n
 rw [h] at this
 have:=Lib.nDigits_pos n
 simp at *
 omega
theorem decDigits_head {n:Nat} (h0:0<n):(Lib.decDigits n).head?≠some 48:=by
 induction n using Nat.strongRecOn with
 | _ n ih=>
   by_cases h:n<10
   · rw [decDigits_small h]
     simp only [List.head?_cons]
     intro e
     injection e with e
     have:=congrArg UInt8.toNat e
     rw [digC_val h] at this
     simp at this
     omega
   · rw [decDigits_big h,List.head?_append,Option.or_of_isSome]
     · exact ih (n / 10) (by omega) (by omega)
     · cases hd:Lib.decDigits (n / 10) with
       | nil=>exact absurd hd (decDigits_ne _)
       | cons a l=>rfl
theorem no_point {l:List UInt8} (h:l.all digB=true):(46:UInt8) ∉ l:=by
 intro hm
 have:=List.all_eq_true.1 h 46 hm
 revert this
 decide
def litS (n k:Nat):List UInt8:=Lib.decDigits (n / 10 ^ k)++46::dgw k n
theorem nDigits_le {n w:Nat} (h:n<10 ^ (w+1)):Lib.nDigits n≤w+1:=by
 induction w generalizing n with
 | zero=>rw [Lib.nDigits_small (by simpa using h)];omega
 | succ w ih=>
   by_cases h1:n<10
   · rw [Lib.nDigits_small h1];omega
   · rw [Lib.nDigits_big h1]
     have:=ih (n:=n / 10) (by rw [Nat.pow_succ] at h;omega)
     omega
theorem lit_cut (n k:Nat):Lib.cut (litS n k) [46]=(Lib.decDigits (n / 10 ^ k),dgw k n,true):=cut_app (no_point (decDigits_all _))
theorem lit_val (n k:Nat):decV (Lib.decDigits (n / 10 ^ k)++dgw k n)=n:=by
 rw [decV_dgw,decV_decDigits]
 have:=Nat.div_add_mod n (10 ^ k)
 rw [Nat.mul_comm]
 exact this
theorem lit_ok {n k:Nat} (hn:n<1000000000000000) (h1:1≤k) (h6:k≤6):rpOk (litS n k)=true:=by
 unfold rpOk rpO rpW rpP
 rw [lit_cut,List.all_append,decDigits_all,dgw_all]
 have hd:Lib.nDigits (n / 10 ^ k)≤14 - k+1:=nDigits_le ((Nat.div_lt_iff_lt_mul (Nat.pos_of_ne_zero (by simp))).2 (by
  rw [← Nat.pow_add,show 14 - k+1+k=15 by omega];exact hn))
 have:fmtB true (Lib.decDigits (n / 10 ^ k)) (dgw k n)=true:=by
  unfold fmtB
  refine decide_eq_true ⟨rfl,decDigits_ne _,?_,by rw [dgw_length];exact h6,by rw [Lib.decDigits_length,dgw_length];omega,?_⟩
  · intro e
    have:=dgw_length k n
    rw [e] at this
    simp at this
    omega
  · rintro ⟨e1,e2⟩
    rcases Nat.eq_zero_or_pos (n / 10 ^ k) with h0 | h0
    · rw [h0,decDigits_small (by omega)] at e2
      exact e2 rfl
    · exact decDigits_head h0 e1
 rw [this];rfl
theorem lit_parse {n k:Nat} (hn:n<1000000000000000) (h1:1≤k) (h6:k≤6):rpB (litS n k)=quoW n k∧rpF (litS n k)=0:=by
 unfold rpB rpF
 rw [if_pos (lit_ok hn h1 h6),if_pos (lit_ok hn h1 h6)]
 unfold rpW rpP
 rw [lit_cut]
 simp only [lit_val,dgw_length]
 exact ⟨rfl,trivial⟩
theorem lit_bad {n k:Nat} (hn:1000000000000000≤n) (h6:k≤6):rpB (litS n k)=0∧rpF (litS n k)=4:=by
 apply rp_bad
 unfold rpOk rpO rpW rpP
 rw [lit_cut,Bool.and_eq_false_iff]
 left
 unfold fmtB
 refine decide_eq_false (fun h=>?_)
 have h5:=h.2.2.2.2.1
 rw [Lib.decDigits_length,dgw_length] at h5
 have:=Lib.lt_pow_nDigits (n / 10 ^ k)
 have h7:n<10 ^ (Lib.nDigits (n / 10 ^ k)+k):=by
  rw [Nat.pow_add]
  exact (Nat.div_lt_iff_lt_mul (Nat.pos_of_ne_zero (by simp))).1 this
 have h8:10 ^ (Lib.nDigits (n / 10 ^ k)+k)≤10 ^ 15:=Nat.pow_le_pow_right (by omega) h5
 have:(10:Nat) ^ 15=1000000000000000:=by decide
 omega
theorem lit_len (n k:Nat):(litS n k).length=Lib.nDigits (n / 10 ^ k)+1+k:=by
 unfold litS
 rw [List.length_append,List.length_cons,Lib.decDigits_length,dgw_length]
 omega
theorem pad_lit:∀ (k n:Nat),List.replicate (k+1 - Lib.nDigits n) 48++Lib.decDigits n=Lib.decDigits (n / 10 ^ k)++dgw k n
 | 0,n=>by
   have:=Lib.nDigits_pos n
   rw [show 0+1 - Lib.nDigits n=0 by omega]
   simp [dgw]
 | k+1,n=>by
   rw [dgw,← List.append_assoc,Nat.pow_succ,Nat.mul_comm (10 ^ k) 10,← Nat.div_div_eq_div_mul,← pad_lit k (n / 10)]
   by_cases h:n<10
   · rw [Lib.nDigits_small h,decDigits_small h,show n / 10=0 by omega,Lib.nDigits_small (by omega),decDigits_small (by omega),Nat.mod_eq_of_lt h,show k+1+1 - 1=k+1 by omega,show k+1 - 1=k by omega,List.replicate_succ']
     rfl
   · rw [Lib.nDigits_big h,decDigits_big h,show k+1+1 - (Lib.nDigits (n / 10)+1)=k+1 - Lib.nDigits (n / 10) by omega,List.append_assoc]
theorem dgw_nDigits (n:Nat):dgw (Lib.nDigits n) n=Lib.decDigits n:=by
 induction n using Nat.strongRecOn with
 | _ n ih=>
   by_cases h:n<10
   · rw [Lib.nDigits_small h,decDigits_small h,dgw,dgw,Nat.mod_eq_of_lt h];rfl
   · rw [Lib.nDigits_big h,decDigits_big h,dgw,ih (n / 10) (by omega)]
end Go.As
end
