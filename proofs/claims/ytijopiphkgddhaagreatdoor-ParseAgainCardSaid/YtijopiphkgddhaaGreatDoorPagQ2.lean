/- Texts of this proof, one behind the other. Conditions: those in each theorem. -/
import Derived.Test.YtijopiphkgddhaaGreatDoorPagQ1
import Derived.WalkKit
import Derived.WalkSpells
import Derived.WalkLawsBesides
import Derived.WalkSmall
import Derived.Lib.Hide
import Derived.Deep.AppendLies
import Derived.Deep.Draws
import Derived.Maps.AppendAt
import Derived.ChangeSame
import Derived.ProofKit
import Derived.RegionTactic
import Derived.OrdersHeld
import Derived.Test.YtijopiphkgddhaaGreatDoorRows
import Derived.Handy
import Derived.LaidSub
import Derived.Lib.LaidTab
import Derived.Lib.ItoaNum
import Derived.Laws.Externs
import Derived.Laws.FloatArith
import Derived.Laws.Entries
import Derived.Lib.IndexMore
import Derived.Lib.IndexBytes
import Derived.Lib.AppendStr
import Derived.Lib.ConvBytes
import Derived.Shelf.Strings.Builder1
import Derived.Shelf.Strings.Builder2
import Derived.Shelf.Strings.BuilderF
import Derived.Shelf.Strings.BuilderK
import Derived.Shelf.Strings.Builder2Cap
import Derived.Shelf.Strconv.Itoa0
import Derived.Shelf.Strconv.Itoa1
import Derived.Shelf.LaysM
import Derived.Shelf.Strconv.Itoa2
import Derived.Shelf.Strconv.Itoa3
import Derived.Shelf.Strconv.Itoa4
import Derived.Shelf.Strings.Search1
import Derived.Shelf.Strings.Search2
import Derived.Shelf.Strings.Prefix
import Derived.Shelf.Bits.Mul64
import Derived.Shelf.Strings.Repeat
import Derived.Shelf.Strings.BuilderCap
import Derived.Test.YtijopiphkgddhaaGreatDoorProg
set_option linter.unusedVariables false
set_option linter.unusedSimpArgs false
section
namespace Go.As
open Go Go.RowKit
def str (l:List UInt8):ByteArray:=⟨l.toArray⟩
theorem aLz (s:ByteArray):∃ l:List UInt8,s=str l:=⟨s.data.toList,by simp [str]⟩
@[go_sem] theorem str_of_mk (l:List UInt8):ByteArray.mk l.toArray=str l:=rfl
@[go_sem] theorem str_toList (l:List UInt8):(str l).toList=l:=ByteArray.toList_mk l
theorem aF8 (l:List UInt8):(str l).data.toList=l:=by simp [str]
@[go_sem] theorem str_size (l:List UInt8):(str l).size=l.length:=by simp [str,ByteArray.size]
@[go_sem] theorem str_get (l:List UInt8) (i:Nat) (h:i<(str l).size):(str l)[i]=l[i]'(by simpa [str,ByteArray.size] using h):=rfl
@[go_sem] theorem str_extract (l:List UInt8) (a b:Nat):(str l).extract a b=str ((l.drop a).take (b - a)):=ByteArray.extract_mk l a b
@[go_sem] theorem str_append (a b:List UInt8):str a++str b=str (a++b):=by
 apply ByteArray.ext;simp [str,ByteArray.data_append]
theorem s8 {k:IntKind} {a b:Int} (h:a=b):Ending.returned (.int k a) = .returned (.int k b):=by rw [h]
theorem fV {a b:Bool} (h:a=b):Ending.returned (.bool a) = .returned (.bool b):=by rw [h]
theorem dL {w w1 w2:World} (h:Below w.heap.size w w1) (h2:Below w1.heap.size w1 w2):Below w.heap.size w w2:=h.trans (h2.mono h.size)
def Sl (w:World) (sz:Nat) (a:Option Addr) (n:Nat) (xs:List Value):Prop:=
 xs.length=n*sz∧(0<n→∃ ad,a=some ad∧ad.block<w.heap.size∧∀ j u,xs[j]?=some u→w.cell? (ad.add j)=some u)
section
variable {w w':World} {sz n:Nat} {a:Option Addr} {xs:List Value}
theorem Sl.at_ {k j:Nat} (h:Sl w sz a n xs) (hk:k<n) (hj:j<sz):∃ ad u,a=some ad∧ad.block<w.heap.size∧xs[k*sz+j]?=some u∧w.cell? (ad.add (k*sz+j))=some u:=by
 obtain ⟨ad,e,hb,hc⟩:=h.2 (by omega)
 have hl:k*sz+j<xs.length:=by
  rw [h.1]
  calc k*sz+j<k*sz+sz:=by omega
   _=(k+1)*sz:=by rw [bD];omega
   _≤n*sz:=aM _ hk
 exact ⟨ad,xs[k*sz+j],e,hb,aO hl,hc _ _ (aO hl)⟩
theorem Sl.at1 {k:Nat} (h:Sl w 1 a n xs) (hk:k<n):∃ ad u,a=some ad∧ad.block<w.heap.size∧xs[k]?=some u∧w.cell? (ad.add k)=some u:=by
 simpa using h.at_ hk (show 0<1 by omega)
end
def Blk (w:World) (g:Nat) (t:TypeId) (cs:Array Value):Prop:=w.heap[g]?=some (.cells cs t (0,0))
section
variable {w w':World} {g:Nat} {t:TypeId} {cs:Array Value}
theorem Blk.lt (h:Blk w g t cs):g<w.heap.size:=by
 rcases aY g w.heap.size with hlt | hge
 · exact hlt
 · unfold Blk at h;rw [Array.getElem?_eq_none hge] at h;cases h
theorem Blk.cell (h:Blk w g t cs) (i:Nat):w.cell? ⟨g,i,none⟩=cs[i]?:=cell_of_row w g i cs t (0,0) h
theorem Blk.frozen (h:Blk w g t cs) (i:Nat):w.frozen? ⟨g,i,none⟩=false:=by
 unfold Blk at h
 simp [World.frozen?,h]
theorem Blk.new (w:World) (t:TypeId) (cs:Array Value):Blk (w.alloc (.cells cs t)) w.heap.size t cs:=heap_alloc_new w _
theorem Blk.set_ (h:Blk w g t cs) (i:Nat) (u:Value):Blk (w.setCell ⟨g,i,none⟩ u) g t (cs.setIfInBounds i u):=by
 unfold Blk at h ⊢
 simp [World.setCell,Array.getElem?_modify,h]
theorem Blk.below {B:Nat} (h:Blk w g t cs) (hb:Below B w w') (hg:g<B):Blk w' g t cs:=(hb.block g hg).trans h
end
structure Only (F:Nat→Prop) (w w':World):Prop where
 os:w'.os=w.os
 tape:w'.tape=w.tape
 output:w'.output=w.output
 size:w.heap.size≤w'.heap.size
 block:∀ k,k<w.heap.size→¬ F k→w'.heap[k]?=w.heap[k]?
section
variable {F G:Nat→Prop} {w w' w'':World}
theorem Only.refl (F:Nat→Prop) (w:World):Only F w w:=⟨rfl,rfl,rfl,aH _,fun _ _ _=>rfl⟩
theorem Only.set (h:Only F w w') {p:Addr} (hp:F p.block∨w.heap.size≤p.block) (u:Value):Only F w (w'.setCell p u):=
 ⟨h.os,h.tape,h.output,by simpa [World.setCell] using h.size,fun i hi hF=>(Below.heap_setCell w' p u i (by rintro rfl;rcases hp with hp | hp;exact hF hp;omega)).trans (h.block i hi hF)⟩
theorem Blk.only {g:Nat} {t:TypeId} {cs:Array Value} (h:Blk w g t cs) (ho:Only F w w') (hg:¬ F g):Blk w' g t cs:=(ho.block g h.lt hg).trans h
end
end Go.As
end
section
namespace Go.As
open Go
inductive Plan where
 | done
 | take (i:Nat) (p:Plan)
 | run (i:Nat) (p:Plan)
 | alt (p q:Plan)
def Plan.heads:Plan→List Nat
 | .run i _=>[i]
 | .alt p q=>p.heads++q.heads
 | _=>[]
def Plan.depth:Plan→Nat
 | .done=>0
 | .take _ p=>p.depth+1
 | .run _ p=>p.depth+1
 | .alt p q=>max p.depth q.depth
def Plan.fits (md:Region.Mode) (ops:Array Oper):Bool→Plan→Array Bool→Bool
 | true,.done,l=>(Region.ready md ops l).isEmpty
 | true,.take i p,l=>(ops[i]?).isSome&&Region.free md ops l i&&(Region.ready md ops l).contains i&&p.fits md ops true (l.setIfInBounds i true)
 | true,.run i p,l=>(Region.ready md ops l==[i])&&p.fits md ops true (l.setIfInBounds i true)
 | true,.alt p q,l=>!(Region.ready md ops l).isEmpty&&((Region.ready md ops l).all fun i=>p.heads.contains i || q.heads.contains i)&&p.fits md ops false l&&q.fits md ops false l
 | false,.run i p,l=>p.fits md ops true (l.setIfInBounds i true)
 | false,.alt p q,l=>p.fits md ops false l&&q.fits md ops false l
 | false,_,_=>false
section
variable {P:Program} {ops:Array Oper} {Q:Exit→Act→World→Prop} {md:Region.Mode}
def qN (P:Program) (ops:Array Oper) (Q:Exit→Act→World→Prop):Plan→Act→World→Prop
 | .done,a,w=>Q .normal a w
 | .take i p,a,w=>∃ o v,ops[i]?=some o∧Yields P ops o v a∧qN P ops Q p (a.put o.dst v) w
 | .run i p,a,w=>wpOp P ops Q i (qN P ops Q p) a w
 | .alt p q,a,w=>qN P ops Q p a w∧qN P ops Q q a w
theorem aUz (hs:Region.noSelect ops=true) (hQ:∀ c a w d v,Q (.panic c) (a.put d v) w→Q (.panic c) a w):∀ (p:Plan) (fuel:Nat) (l:Array Bool) (a:Act) (w:World),
  p.depth≤fuel→
  (p.fits md ops true l=true→qN P ops Q p a w→wpAny P md ops Q fuel l a w)∧
  (p.fits md ops false l=true→qN P ops Q p a w→∀ fuel',fuel=fuel'+1→∀ i∈p.heads,wpOp P ops Q i (wpAny P md ops Q fuel' (l.setIfInBounds i true)) a w):=by
 intro p
 induction p with
 | done=>
   intro fuel l a w _
   refine ⟨fun hf h=>?_,fun hf=>by simp [Plan.fits] at hf⟩
   exact wpAny_done (by simpa [Plan.fits] using hf) h fuel
 | take i p ih=>
   intro fuel l a w hd
   refine ⟨fun hf h=>?_,fun hf=>by simp [Plan.fits] at hf⟩
   simp only [Plan.fits,aI] at hf
   obtain ⟨o,v,hi,hy,h⟩:=h
   cases fuel with
   | zero=>simp [Plan.depth] at hd
   | succ fuel=>
     exact wpAny_take hi hs hf.1.1.2 hf.1.2 (fun c a w hq=>hQ _ _ _ _ _ hq) hy (((ih fuel _ _ _ (by simp [Plan.depth] at hd;omega)).1) hf.2 h)
 | run i p ih=>
   intro fuel l a w hd
   cases fuel with
   | zero=>simp [Plan.depth] at hd
   | succ fuel=>
     have hp:p.depth≤fuel:=by simp [Plan.depth] at hd;omega
     refine ⟨fun hf h=>?_,fun hf h fuel' hfu j hj=>?_⟩
     · simp only [Plan.fits,aI,beq_iff_eq] at hf
       refine wpAny_all hf.1 (by simp) ?_
       intro j hj
       simp only [List.mem_singleton] at hj
       subst hj
       exact wpOp_mono (fun a w=>(ih fuel _ a w hp).1 hf.2) h
     · simp only [Plan.heads,List.mem_singleton] at hj
       subst hj
       simp only [Plan.fits] at hf
       obtain rfl:fuel=fuel':=by omega
       exact wpOp_mono (fun a w=>(ih fuel _ a w hp).1 hf) h
 | alt p q ihp ihq=>
   intro fuel l a w hd
   have h1:p.depth≤fuel:=by simp [Plan.depth] at hd;omega
   have h2:q.depth≤fuel:=by simp [Plan.depth] at hd;omega
   have key:p.fits md ops false l=true→q.fits md ops false l=true→qN P ops Q (.alt p q) a w→∀ fuel',fuel=fuel'+1→∀ i,i∈p.heads∨i∈q.heads→wpOp P ops Q i (wpAny P md ops Q fuel' (l.setIfInBounds i true)) a w:=by
    intro f1 f2 h fuel' hfu i hi
    rcases hi with hi | hi
    · exact (ihp fuel l a w h1).2 f1 h.1 fuel' hfu i hi
    · exact (ihq fuel l a w h2).2 f2 h.2 fuel' hfu i hi
   refine ⟨fun hf h=>?_,fun hf h fuel' hfu i hi=>?_⟩
   · simp only [Plan.fits,aI,List.all_eq_true,Bool.or_eq_true] at hf
     have hne:Region.ready md ops l≠[]:=by
      intro e;rw [e] at hf;simp at hf
     cases fuel with
     | zero=>
       exfalso
       obtain ⟨i,hi⟩:=List.exists_mem_of_ne_nil _ hne
       have hh:∀ r:Plan,r.depth=0→r.heads=[]:=by
        intro r
        induction r with
        | done=>intro _;rfl
        | take i p _=>intro _;rfl
        | run i p _=>intro h;simp [Plan.depth] at h
        | alt p q ip iq=>intro h;simp only [Plan.depth] at h;simp only [Plan.heads,ip (by omega),iq (by omega),bF]
       have:=hf.1.1.2 i hi
       rw [hh p (by omega),hh q (by omega)] at this
       simp at this
     | succ fuel=>
       refine wpAny_all rfl hne ?_
       intro i hi
       have:=hf.1.1.2 i hi
       exact key hf.1.2 hf.2 h fuel rfl i (by simpa using this)
   · simp only [Plan.fits,aI] at hf
     exact key hf.1 hf.2 h fuel' hfu i (by simpa [Plan.heads] using hi)
def NoPan (Q:Exit→Act→World→Prop):Exit→Act→World→Prop
 | .panic c,a,w=>a.defers=[]∧∀ a':Act,a'.defers=[]→Q (.panic c) a' w
 | e,a,w=>Q e a w
theorem NoPan.imp {Q:Exit→Act→World→Prop}:∀ (e:Exit) (a:Act) (w:World),NoPan Q e a w→Q e a w:=fun e a w h=>by
 cases e <;> first | exact h | exact h.2 a h.1
theorem aL0 (a:Act) (d:Option Tmp) (v:Value):(a.put d v).defers=a.defers:=by cases d <;> rfl
theorem NoPan.put {Q:Exit→Act→World→Prop}:∀ (c:List PanicEntry) (a:Act) (w:World) (d:Option Tmp) (v:Value),NoPan Q (.panic c) (a.put d v) w→NoPan Q (.panic c) a w:=fun _ a _ d v h=>⟨(aL0 a d v).symm.trans h.1,h.2⟩
section
variable {i:Nat} {p q:Plan} {a:Act} {w:World} {o:Oper} {v:Value}
theorem aDk (hi:ops.toList[i]?=some o):ops[i]?=some o:=by rw [← hi];simp
end
end
section
variable {P:Program} {ops:Array Oper} {Q:Exit→Act→World→Prop} {md:Region.Mode} {S:World→Prop}
def wpPlanH (P:Program) (ops:Array Oper) (Q:Exit→Act→World→Prop) (S:World→Prop):Plan→Act→World→Prop
 | .done,a,w=>Q .normal a w
 | .take i p,a,w=>S w∧∃ o v,ops[i]?=some o∧YieldsIf P ops S o v a∧wpPlanH P ops Q S p (a.put o.dst v) w
 | .run i p,a,w=>wpOp P ops Q i (fun a' w'=>S w'∧wpPlanH P ops Q S p a' w') a w
 | .alt p q,a,w=>wpPlanH P ops Q S p a w∧wpPlanH P ops Q S q a w
theorem wD (hs:Region.noSelect ops=true) (hQ:∀ c a w d v,Q (.panic c) (a.put d v) w→Q (.panic c) a w):∀ (p:Plan) (fuel:Nat) (l:Array Bool) (a:Act) (w:World),
  p.depth≤fuel→
  (p.fits md ops true l=true→wpPlanH P ops Q S p a w→wpAnyH P md ops Q S fuel l a w)∧
  (p.fits md ops false l=true→wpPlanH P ops Q S p a w→∀ fuel',fuel=fuel'+1→∀ i∈p.heads,wpOp P ops Q i (fun a' w'=>S w'∧wpAnyH P md ops Q S fuel' (l.setIfInBounds i true) a' w') a w):=by
 intro p
 induction p with
 | done=>
   intro fuel l a w _
   refine ⟨fun hf h=>?_,fun hf=>by simp [Plan.fits] at hf⟩
   exact wpAnyH_done (by simpa [Plan.fits] using hf) h fuel
 | take i p ih=>
   intro fuel l a w hd
   refine ⟨fun hf h=>?_,fun hf=>by simp [Plan.fits] at hf⟩
   simp only [Plan.fits,aI] at hf
   obtain ⟨hS,o,v,hi,hy,h⟩:=h
   cases fuel with
   | zero=>simp [Plan.depth] at hd
   | succ fuel=>
     exact wpAnyH_take hi hs hf.1.1.2 hf.1.2 (fun c a w hq=>hQ _ _ _ _ _ hq) hy hS (((ih fuel _ _ _ (by simp [Plan.depth] at hd;omega)).1) hf.2 h)
 | run i p ih=>
   intro fuel l a w hd
   cases fuel with
   | zero=>simp [Plan.depth] at hd
   | succ fuel=>
     have hp:p.depth≤fuel:=by simp [Plan.depth] at hd;omega
     refine ⟨fun hf h=>?_,fun hf h fuel' hfu j hj=>?_⟩
     · simp only [Plan.fits,aI,beq_iff_eq] at hf
       refine wpAnyH_all hf.1 (by simp) ?_
       intro j hj
       simp only [List.mem_singleton] at hj
       subst hj
       exact wpOp_mono (fun a w h=>⟨h.1,(ih fuel _ a w hp).1 hf.2 h.2⟩) h
     · simp only [Plan.heads,List.mem_singleton] at hj
       subst hj
       simp only [Plan.fits] at hf
       obtain rfl:fuel=fuel':=by omega
       exact wpOp_mono (fun a w h=>⟨h.1,(ih fuel _ a w hp).1 hf h.2⟩) h
 | alt p q ihp ihq=>
   intro fuel l a w hd
   have h1:p.depth≤fuel:=by simp [Plan.depth] at hd;omega
   have h2:q.depth≤fuel:=by simp [Plan.depth] at hd;omega
   have key:p.fits md ops false l=true→q.fits md ops false l=true→wpPlanH P ops Q S (.alt p q) a w→∀ fuel',fuel=fuel'+1→∀ i,i∈p.heads∨i∈q.heads→wpOp P ops Q i (fun a' w'=>S w'∧wpAnyH P md ops Q S fuel' (l.setIfInBounds i true) a' w') a w:=by
    intro f1 f2 h fuel' hfu i hi
    rcases hi with hi | hi
    · exact (ihp fuel l a w h1).2 f1 h.1 fuel' hfu i hi
    · exact (ihq fuel l a w h2).2 f2 h.2 fuel' hfu i hi
   refine ⟨fun hf h=>?_,fun hf h fuel' hfu i hi=>?_⟩
   · simp only [Plan.fits,aI,List.all_eq_true,Bool.or_eq_true] at hf
     have hne:Region.ready md ops l≠[]:=by
      intro e;rw [e] at hf;simp at hf
     cases fuel with
     | zero=>
       exfalso
       obtain ⟨i,hi⟩:=List.exists_mem_of_ne_nil _ hne
       have hh:∀ r:Plan,r.depth=0→r.heads=[]:=by
        intro r
        induction r with
        | done=>intro _;rfl
        | take i p _=>intro _;rfl
        | run i p _=>intro h;simp [Plan.depth] at h
        | alt p q ip iq=>intro h;simp only [Plan.depth] at h;simp only [Plan.heads,ip (by omega),iq (by omega),bF]
       have:=hf.1.1.2 i hi
       rw [hh p (by omega),hh q (by omega)] at this
       simp at this
     | succ fuel=>
       refine wpAnyH_all rfl hne ?_
       intro i hi
       have:=hf.1.1.2 i hi
       exact key hf.1.2 hf.2 h fuel rfl i (by simpa using this)
   · simp only [Plan.fits,aI] at hf
     exact key hf.1 hf.2 h fuel' hfu i (by simpa [Plan.heads] using hi)
def iA (P:Program) (ops:Array Oper) (Q:Exit→Act→World→Prop) (S:World→Prop) (p:Plan) (a:Act) (w:World):Prop:=S w→wpPlanH P ops Q S p a w
theorem mE {id:Nat} {a:Act} {w:World} (S:World→Prop) (p:Plan) (hm:P.follows .mixedOrders=true) (hs:Region.noSelect ops=true)
  (hd:decide (p.depth≤ops.size)=true) (hf:p.fits .any ops true (Array.replicate ops.size false)=true) (hS:S w.drew)
  (h:iA P ops (NoPan Q) S p a w.drew):(Code.region id ops true).wp P Q a w:=by
 refine Code.wp_mono NoPan.imp (wp_region_held (S:=S) hm ?_)
 exact ((wD (md := .any) hs NoPan.put p ops.size _ a w.drew (of_decide_eq_true hd)).1) hf (h hS)
section
variable {i:Nat} {p q:Plan} {a:Act} {w:World} {o:Oper} {v:Value}
theorem jF (h:iA P ops Q S (.take i p) a w):iA P ops Q S (.take i p) a w:=h
theorem aAq (h:iA P ops Q S p a w):iA P ops Q S p a w:=h
theorem kD (h:iA P ops Q S (.run i p) a w):iA P ops Q S (.run i p) a w:=h
theorem uN (h:Q .normal a w):iA P ops (NoPan Q) S .done a w:=fun _=>h
theorem xD (h1:iA P ops Q S p a w) (h2:iA P ops Q S q a w):iA P ops Q S (.alt p q) a w:=fun hS=>⟨h1 hS,h2 hS⟩
theorem uI (hi:ops.toList[i]?=some o) (hw:Region.wanted o (yielded ops a.tmps)=false) (h:iA P ops Q S p (a.put o.dst undef) w):iA P ops Q S (.take i p) a w:=
 fun hS=>⟨hS,o,undef,aDk hi,.inr ⟨hw,rfl⟩,h hS⟩
theorem vX (hi:ops.toList[i]?=some o) (hw:Region.wanted o (yielded ops a.tmps)=true) (hv:∀ w,S w→(execOp a.eval o).run P w = .ok (.value v) w) (h:iA P ops Q S p (a.put o.dst v) w):iA P ops Q S (.take i p) a w:=
 fun hS=>⟨hS,o,v,aDk hi,.inl ⟨hw,hv⟩,h hS⟩
theorem sB (hi:ops.toList[i]?=some o)
  (h:∀ K:Act→World→Prop,(∀ a w,(S w∧iA P ops Q S p a w)→K a w)→if Region.wanted o (yielded ops a.tmps) then o.wp P a w K Q else K (a.put o.dst undef) w):iA P ops Q S (.run i p) a w:=by
 intro _
 have:=h (fun a w=>S w∧wpPlanH P ops Q S p a w) (fun _ _ h=>⟨h.1,h.2 h.1⟩)
 show wpOp P ops Q i _ a w
 unfold wpOp
 simp only [aDk hi]
 split
 · rename_i hw;rw [if_pos hw] at this;exact .inl this
 · rename_i hw;rw [if_neg hw] at this;exact this
end
end
end Go.As
end
section
namespace Go.As
open Go Go.RowKit
def yI (w:World) (v v':Value):Prop:=∀ k,v'.ownBlock=some k→v.ownBlock=some k∨w.heap.size≤k
section
variable {P:Program} {w:World}
section
variable {ops:Array Oper} {rest:List Oper} {o:Oper} {a:Act} {Q:Exit→Act→World→Prop} {K:Act→World→Prop}
end
theorem aHm (t e:TypeId) (z:Value) (sz bytes:Nat) (ht:P.underlying t=some (.slice e))
  (hinf:(P.info? e).map (fun i=>(i.zero,i.size,i.bytes))=some (some z,sz,bytes)) (A:Option Addr) (n c:Nat) (kd:IntKind) (i:Int) (h0:0≤i) (h1:i≤n) (w:World):
  (Instr.slice t (.slice A n c) (some (.int kd i)) none none).run P w = .ok (.slice (if c=i.toNat then A else A.map (·.add (i.toNat*sz))) (n - i.toNat) (c - i.toNat)) w:=by
 obtain ⟨j,hi,-,rfl,-⟩:=info_parts hinf
 have hj:0≤i∧i≤(n:Int):=⟨h0,h1⟩
 simp [Instr.slice,Instr.sliceBounds,Instr.sliceBound,asIntOf,run_underlying ht,sizeOf,typeInfo,hi,hj]
end
end Go.As
end
namespace Go.Proofs.YtijopiphkgddhaaGreatDoor
open Go.RowKit Go.As
section
def Tab (W:World):Prop:=Lib.TabIs Tryz.prog W "internal/strconv.uint64pow10" .u64 Lib.pow10Tab
theorem Tab.below {w w':World} (h:Tab w) (hb:Below w.heap.size w w'):Tab w':=by
 unfold Tab Lib.TabIs World.var? at *
 cases hg:Tryz.prog.globalNamed "internal/strconv.uint64pow10" with
 | none=>simp [hg] at h
 | some g=>
   simp only [hg,Option.bind_some] at h ⊢
   have hlt:g<w.heap.size:=by
    rcases aY g w.heap.size with h' | h'
    · exact h'
    · rw [Array.getElem?_eq_none h'] at h;simp at h
   rw [hb.block g hlt]
   exact h
theorem aIh {laid:List (String×DataW Unit)} {W:World} (hl:laid.filter (fun x=>x.1 == "internal/strconv.uint64pow10")=[("internal/strconv.uint64pow10",Lib.tabData .u64 Lib.pow10Tab)]) (h:laidMetH Tryz.prog laid W):Tab W:=by
 have h2:=h.filter (fun x=>x.1 == "internal/strconv.uint64pow10")
 rw [hl] at h2
 have h2:laidMet Tryz.prog [("internal/strconv.uint64pow10",Lib.tabData .u64 Lib.pow10Tab)] W:=h2
 exact Lib.tabIs_of_head (P:=Tryz.prog) (g:=0) (t:=181) (e:=40) (n:=20) (by kernel_rfl) (by kernel_rfl) Tryz.underlying181 Tryz.underlying40 (by kernel_rfl) (by kernel_rfl) h2
end
section
def jI (c:Int):Bool:=decide (97≤c∧c≤122∨65≤c∧c≤90∨c=95)
def mX (c:Int):Bool:=decide (48≤c∧c≤57)
theorem pS (c:Int) (w:World):Calls Tryz.prog 59 #[.int .u8 c] w fun e w'=>e = .returned (.bool (jI c))∧w=w':=by
 go_enter Tryz.func59,Tryz.ntmps59
 go_wp2
 all_goals
  go_ret
  refine ⟨fV ?_,rfl⟩
  rw [Bool.eq_iff_iff];simp [jI] at *;omega
theorem aEn (c:Int) (w:World):Calls Tryz.prog 61 #[.int .u8 c] w fun e w'=>e = .returned (.bool (mX c))∧w=w':=by
 go_enter Tryz.func61,Tryz.ntmps61
 go_wp2
 all_goals
  go_ret
  refine ⟨fV ?_,rfl⟩
  rw [Bool.eq_iff_iff];simp [mX] at *;omega
theorem aMm (c:Int) (w:World):Calls Tryz.prog 77 #[.int .u8 c] w fun e w'=>e = .returned (.bool (jI c || mX c))∧w=w':=by
 go_enter Tryz.func77,Tryz.ntmps77
 go_wp2_with (first | (go_at_call 59;refine (pS _ _).mono ?_;rintro e w' ⟨rfl,rfl⟩) | (go_at_call 61;refine (aEn _ _).mono ?_;rintro e w' ⟨rfl,rfl⟩))
 all_goals
  go_ret
  refine ⟨fV ?_,rfl⟩
  simp [*]
def gQ (p:Int→Bool) (l:List UInt8) (at_:Nat):Nat:=at_+((l.drop at_).takeWhile fun c=>p (c.toNat:Int)).length
theorem p8 (p:Int→Bool) (l:List UInt8) (k:Nat) (h:k≤l.length):k≤gQ p l k∧gQ p l k≤l.length:=by
 unfold gQ
 have:((l.drop k).takeWhile fun c=>p (c.toNat:Int)).length≤(l.drop k).length:=(List.takeWhile_prefix _).length_le
 simp at this;omega
theorem aNw (p:Int→Bool) (l:List UInt8) (k:Nat) (h:l.length≤k):gQ p l k=k:=by
 unfold gQ;simp [List.drop_eq_nil_of_le h]
theorem aDn (p:Int→Bool) (l:List UInt8) (k:Nat) (h:k<l.length):gQ p l k=if p (l[k].toNat:Int) then gQ p l (k+1) else k:=by
 unfold gQ
 rw [List.drop_eq_getElem_cons h,List.takeWhile_cons]
 split <;> simp_all <;> omega
set_option maxHeartbeats 400000 in
theorem aJq (F:Nat) (p:Int→Bool) (l:List UInt8) (k0:Nat) (w:World) (hs:l.length≤maxLen) (hk0:k0≤l.length)
  (hc:∀ args w,(callFunc F args).run Tryz.prog w = .ok (.enter F args) w)
  (hF:Hid (∀ (c:Int) (w:World),Calls Tryz.prog F #[.int .u8 c] w fun e w'=>e = .returned (.bool (p c))∧w=w')):
  Calls Tryz.prog 57 #[.string (str l),.int .i64 k0,.func (.func F) #[] #[]] w fun e w'=>e = .returned (.int .i64 (gQ p l k0))∧w=w':=by
 unfold maxLen at hs
 go_enter Tryz.func57,Tryz.ntmps57
 go_wp2_with fail
 go_loop [1] (fun i=>∃ k:Nat,k≤l.length∧i = .int .i64 k∧gQ p l k=gQ p l k0) (fun i=>l.length - (intOf i).toNat)
 case atStart=>exact ⟨k0,hk0,rfl,rfl⟩
 case round=>
  obtain ⟨k,hk,rfl,he⟩:=hrel
  have HE:=Lib.hid he
  clear he
  by_cases hlt:k<l.length
  · have hg:=Lib.hid (aDn p l k hlt)
    go_wp2_with fail
    refine (hF.out _ _).mono ?_
    rintro e w' ⟨rfl,rfl⟩
    cases hp:p (l[k].toNat:Int)
    all_goals
     have HP:=Lib.hid hp
     clear hp
     go_wp2_with fail
    · go_ret
      refine ⟨s8 ?_,rfl⟩
      rw [← HE.out,hg.out,if_neg]
      simpa using HP.out
    · go_round
      case rel=>exact ⟨k+1,by omega,by go_num,by rw [← HE.out,hg.out,if_pos];simpa using HP.out⟩
      case measure=>simp [intOf];omega
  · go_wp2_with fail
    go_ret
    refine ⟨s8 ?_,rfl⟩
    rw [← HE.out,aNw _ _ _ (by omega)]
def wordsL:List (List UInt8):=[[115,104,97,114,101,100],[109,117,116,101,120],[116,104,114,101,97,100],[108,111,99,97,108],[105,110,116],[98,111,111,108],[114,101,97,108],[108,111,99,107],[117,110,108,111,99,107],[97,115,115,101,114,116],[105,102],[101,108,115,101],[119,104,105,108,101],[115,107,105,112],[116,114,117,101],[102,97,108,115,101],[110,97,110],[105,110,102]]
def aFt (l:List UInt8):Bool:=wordsL.contains l
set_option maxHeartbeats 800000 in
theorem aPy (l:List UInt8) (w:World):Calls Tryz.prog 76 #[.string (str l)] w fun e w'=>e = .returned (.bool (aFt l))∧w=w':=by
 go_enter Tryz.func76,Tryz.ntmps76
 go_wp2
 all_goals
  go_ret
  refine ⟨fV ?_,rfl⟩
  simp_all [aFt,wordsL]
end
section
def nmC (c:Int):Bool:=jI c || mX c
def aQm (l:List UInt8):Bool:=l.all fun c=>nmC (c.toNat:Int)
def b7 (l:List UInt8):Bool:=
 if l.length<1 then false else if 24<l.length then false else
 if jI ((l.headD 0).toNat:Int) then if aFt l then false else aQm l else false
theorem aAj {l:List UInt8} (h:0<l.length):l.headD 0=l[0]:=by
 cases l with
 | nil=>simp at h
 | cons c r=>rfl
end
section
theorem aRd (l:List UInt8):(gQ (fun c=>jI c || mX c) l 0=l.length)↔aQm l=true:=by
 simp only [gQ,aQm,List.drop_zero,bH]
 constructor
 · intro h
   rw [List.all_eq_true]
   have hp:=List.takeWhile_prefix (l:=l) (fun c=>jI (c.toNat:Int) || mX (c.toNat:Int))
   have:=hp.eq_of_length h
   intro x hx
   rw [← this] at hx
   have:=List.all_takeWhile (p:=fun c:UInt8=>jI (c.toNat:Int) || mX (c.toNat:Int)) (l:=l)
   rw [List.all_eq_true] at this
   exact this x hx
 · intro h
   rw [List.all_eq_true] at h
   congr 1
   induction l with
   | nil=>rfl
   | cons c r ih=>
     have hc:(jI (c.toNat:Int) || mX (c.toNat:Int))=true:=h c (by simp)
     rw [List.takeWhile_cons,if_pos hc]
     rw [ih (fun x hx=>h x (by simp [hx]))]
set_option maxHeartbeats 800000 in
theorem dW (l:List UInt8) (w:World) (hl:l.length≤maxLen):Calls Tryz.prog 44 #[.string (str l)] w fun e w'=>e = .returned (.bool (b7 l))∧w=w':=by
 have hrun:=aJq 77 (fun c=>jI c || mX c) l 0 w hl (by omega) (fun args w=>by simp [go_sem]) (fun c w=>aMm c w)
 have HR:=Lib.hid hrun
 clear hrun
 unfold maxLen at hl
 by_cases h0:l.length<1
 · have:l=[]:=aF (by omega)
   subst this
   go_enter Tryz.func44,Tryz.ntmps44
   go_wp2_with fail
   go_ret
   exact ⟨fV (by simp [b7]),rfl⟩
 have hne:l.isEmpty=false:=by cases l <;> simp_all
 have hne':(l==[])=false:=by cases l <;> simp_all
 by_cases h1:24<l.length
 · go_enter Tryz.func44,Tryz.ntmps44
   go_wp2_with fail
   go_ret
   exact ⟨fV (by simp [b7,h1]),rfl⟩
 have h00:0<l.length:=by omega
 cases hL:jI (l[0].toNat:Int)
 · have HL:=Lib.hid hL
   clear hL
   go_enter Tryz.func44,Tryz.ntmps44
   go_wp2_with (go_at_call 59;refine (pS _ _).mono ?_;rintro e w' ⟨rfl,rfl⟩;have hL:=HL.out)
   go_ret
   exact ⟨fV (by simp only [b7,aAj h00,HL.out];simp),rfl⟩
 cases hw:aFt l
 all_goals
  have HL:=Lib.hid hL
  have HW:=Lib.hid hw
  clear hL hw
  go_enter Tryz.func44,Tryz.ntmps44
  go_wp2_with (first | (go_at_call 59;refine (pS _ _).mono ?_;rintro e w' ⟨rfl,rfl⟩;have hL:=HL.out) | (go_at_call 76;refine (aPy _ _).mono ?_;rintro e w1 ⟨rfl,rfl⟩;have hw:=HW.out) | (go_at_call 57;refine (HR.out).mono ?_;rintro e w1 ⟨rfl,rfl⟩))
 · go_ret
   refine ⟨fV ?_,rfl⟩
   rw [Bool.eq_iff_iff]
   simp only [b7,aAj h00,HL.out,HW.out,if_neg h0,if_neg h1]
   simp
   rw [← aRd]
   omega
 · go_ret
   exact ⟨fV (by simp only [b7,aAj h00,HL.out,HW.out];simp),rfl⟩
end
section
def i6 (c:Int):Bool:=decide (97≤c∧c≤122∨65≤c∧c≤90∨c=95)
def eD (c:Int):Bool:=decide (48≤c∧c≤57)
def kM (c:Int):Bool:=decide (c=9∨c=10∨c=13∨c=32)
def nmB (c:Int):Bool:=i6 c || eD c
def iK (c:Int):Bool:=decide (c≠10)
theorem aA3 (c:Int) (w:World):Calls Tryz.prog 59 #[.int .u8 c] w fun e w'=>e = .returned (.bool (i6 c))∧w=w':=pS c w
theorem qF (c:Int) (w:World):Calls Tryz.prog 61 #[.int .u8 c] w fun e w'=>e = .returned (.bool (eD c))∧w=w':=aEn c w
theorem xW (c:Int) (w:World):Calls Tryz.prog 56 #[.int .u8 c] w fun e w'=>e = .returned (.bool (kM c))∧w=w':=by
 go_enter Tryz.func56,Tryz.ntmps56
 go_wp2
 all_goals
  go_ret
  refine ⟨fV ?_,rfl⟩
  rw [Bool.eq_iff_iff];simp [kM] at *;omega
theorem aM1 (c:Int) (w:World):Calls Tryz.prog 58 #[.int .u8 c] w fun e w'=>e = .returned (.bool (iK c))∧w=w':=by
 go_enter Tryz.func58,Tryz.ntmps58
 go_wp2
 all_goals
  go_ret
  refine ⟨fV ?_,rfl⟩
  rw [Bool.eq_iff_iff];simp [iK] at *
theorem aLn (c:Int) (w:World):Calls Tryz.prog 60 #[.int .u8 c] w fun e w'=>e = .returned (.bool (nmB c))∧w=w':=by
 go_enter Tryz.func60,Tryz.ntmps60
 go_wp2_with (first | (go_at_call 59;refine (aA3 _ _).mono ?_;rintro e w' ⟨rfl,rfl⟩) | (go_at_call 61;refine (qF _ _).mono ?_;rintro e w' ⟨rfl,rfl⟩))
 all_goals
  go_ret
  refine ⟨fV ?_,rfl⟩
  simp [nmB, *]
theorem uA (F:Nat) (p:Int→Bool) (l:List UInt8) (k0:Nat) (w:World) (hs:l.length≤1048576) (hk0:k0≤l.length)
  (hc:∀ args w,(callFunc F args).run Tryz.prog w = .ok (.enter F args) w)
  (hF:Hid (∀ (c:Int) (w:World),Calls Tryz.prog F #[.int .u8 c] w fun e w'=>e = .returned (.bool (p c))∧w=w')):
  Calls Tryz.prog 57 #[.string (str l),.int .i64 k0,.func (.func F) #[] #[]] w fun e w'=>e = .returned (.int .i64 (gQ p l k0))∧w=w':=
 aJq F p l k0 w (by unfold maxLen;omega) hk0 hc hF
end
end Go.Proofs.YtijopiphkgddhaaGreatDoor
section
namespace Go.As
open Go Ieee
theorem aLw (d:Datum):d.order d=some .eq∨∃ s p,d = .nan s p:=by
 cases d with
 | nan s p=>exact .inr ⟨s,p,rfl⟩
 | infinity s=>left;cases s <;> rfl
 | number s m i=>left;simp [Datum.order]
theorem aI9 (s:Bool) (p:Nat) (d:Datum):(Datum.nan s p).order d=none:=by cases d <;> rfl
theorem aRz (t:Nat):∃ s p,FloatKind.f64.format.read ((t % 2)*2 ^ 63+0x7ff0000000000000+1+(t / 2) % (2 ^ 52 - 1)) = .nan s p:=by
 have hsw:FloatKind.f64.format.signWeight=9223372036854775808:=by decide
 have hb:FloatKind.f64.format.binade=4503599627370496:=by decide
 have hi:FloatKind.f64.format.infRung=9218868437227405312:=by decide
 have hr:(t / 2) % (2 ^ 52 - 1)<4503599627370495:=Nat.mod_lt _ (by omega)
 generalize (t / 2) % (2 ^ 52 - 1)=r at hr ⊢
 have ht:t % 2<2:=Nat.mod_lt _ (by omega)
 generalize t % 2=q at ht ⊢
 have hm:(q*2 ^ 63+0x7ff0000000000000+1+r) % 9223372036854775808=9218868437227405312+1+r:=by omega
 unfold Format.read
 simp only [hsw,hb,hi,hm]
 rw [if_neg (by omega),if_neg (by omega),if_neg (by omega)]
 exact ⟨_,_,rfl⟩
def toN (b:Nat):Nat:=if FloatKind.f64.format.order b b=some .eq then b else 9221120237041090560
theorem aJ3 {b:Nat} {s:Bool} {p:Nat} (h:FloatKind.f64.format.read b = .nan s p):FloatKind.f64.format.order b b=none:=by
 unfold Format.order;rw [h];exact aI9 _ _ _
theorem rJ (b:Nat):(FloatKind.f64.format.order b b=some .eq∧toN b=b)∨(FloatKind.f64.format.order b b=none∧toN b=9221120237041090560):=by
 rcases aLw (FloatKind.f64.format.read b) with h | ⟨s,p,h⟩
 · have h':FloatKind.f64.format.order b b=some .eq:=h
   exact .inl ⟨h',by simp [toN,h']⟩
 · have h':=aJ3 h
   exact .inr ⟨h',by simp [toN,h']⟩
def arN (op:BinOp) (a b:Nat):Nat:=match floatBits op .f64 a b with
 | some r=>toN r
 | none=>9221120237041090560
theorem aE5 {P:Program} (w:World) (op:BinOp) (t:TypeId) (a b:Nat) (hop:op = .add∨op = .sub∨op = .mul∨op = .quo) (h:floatBits op .f64 a b=none):
  ∃ r,(binOp op t (.float .f64 a) (.float .f64 b)).run P w = .ok (.float .f64 r) w.drew∧FloatKind.f64.format.order r r=none:=by
 obtain ⟨s,p,hr⟩:=aRz (w.tape w.drawn (.nanBits .f64 a b))
 refine ⟨_,?_,aJ3 hr⟩
 unfold floatBits at h
 rcases hop with rfl | rfl | rfl | rfl
 all_goals
  simp only at h
  simp [binOp,Op.floatArith,h,Question.forced,Question.cut]
end Go.As
end
namespace Go.Proofs.YtijopiphkgddhaaGreatDoor
open Go.RowKit Go.As
section
theorem aU4 (b:Nat) (w:World):(callFunc 132 #[.float .f64 b]).run Tryz.prog w = .ok (.value (.int .u64 b)) w:=by
 rw [run_callFunc_extern (P:=Tryz.prog) Tryz.func132 (by kernel_rfl) (by kernel_rfl) (e:=Extern.MathFloatBits.float64bits) (by kernel_rfl) (by kernel_rfl)]
 rfl
theorem aDe (b:Nat) (w:World):Calls Tryz.prog 108 #[.float .f64 b] w fun e w'=>e = .returned (.int .u64 (toN b))∧w=w':=by
 have h1:=aU4
 rcases rJ b with ⟨h2,h3⟩ | ⟨h2,h3⟩
 · rw [h3]
   clear h3
   go_enter Tryz.func108,Tryz.ntmps108
   go_wp2
   go_ret
   exact ⟨rfl,rfl⟩
 · rw [h3]
   clear h3
   go_enter Tryz.func108,Tryz.ntmps108
   go_wp2
   go_ret
   exact ⟨rfl,rfl⟩
end
end Go.Proofs.YtijopiphkgddhaaGreatDoor
section
namespace Go.As
open Go Ieee
abbrev fd:Format:=FloatKind.f64.format
theorem mQ:fd.signWeight=9223372036854775808:=by decide
theorem lN:fd.binade=4503599627370496:=by decide
theorem kR:fd.infRung=9218868437227405312:=by decide
theorem pJ:fd.leastPlace = -1074:=by decide
theorem aLh:fd.fractionBits=52:=rfl
theorem rB {b:Nat} {s:Bool} {m:Nat} {i:Int} (h:fd.read b = .number s m i):m<9007199254740992 ∧ -1074≤i∧i≤971:=by
 unfold Format.read at h
 simp only [mQ,lN,kR,pJ] at h
 split at h
 · injection h with h1 h2 h3
   omega
 · split at h
   · injection h with h1 h2 h3
     have:b % 9223372036854775808 / 4503599627370496<2047:=by omega
     have:=Nat.mod_lt (b % 9223372036854775808) (show 4503599627370496 > 0 by omega)
     omega
   · split at h <;> cases h
def Big (B:Nat):Prop:=0<B∧∀ m k:Nat,m<9007199254740992→k≤2045→m <<< k<B
theorem aO4:∃ B,Big B:=by
 obtain ⟨e,he⟩:∃ e:Nat,e=2045:=⟨_,rfl⟩
 refine ⟨9007199254740992*2 ^ e,Nat.mul_pos (by omega) (aR _),fun m k hm hk=>?_⟩
 rw [← he] at hk
 rw [Nat.shiftLeft_eq]
 exact Nat.mul_lt_mul_of_lt_of_le hm (bP (by omega) hk) (aR _)
def val (B:Nat):Datum→Int
 | .number s m i=>signed s m (i+1074).toNat
 | .infinity s=>if s then -(B:Int) else B
 | .nan _ _=>0
theorem aBy (s:Bool) (m a b:Nat):signed s m (a+b)=signed s m a*2 ^ b:=by
 unfold signed
 rw [Nat.shiftLeft_add]
 cases s
 · simp [Nat.shiftLeft_eq]
 · simp [Nat.shiftLeft_eq,Int.neg_mul]
theorem z6 {x y:Int} {k:Nat}:compare (x*2 ^ k) (y*2 ^ k)=compare x y:=by
 have hk:(0:Int)<2 ^ k:=Int.pow_pos (by omega)
 rcases Int.lt_trichotomy x y with h | h | h
 · rw [Int.compare_eq_lt.2 h,Int.compare_eq_lt.2 (Int.mul_lt_mul_of_pos_right h hk)]
 · rw [h];simp
 · rw [Int.compare_eq_gt.2 h,Int.compare_eq_gt.2 (Int.mul_lt_mul_of_pos_right h hk)]
theorem aNq {B:Nat} (hB:Big B) {b:Nat} {s:Bool} {m:Nat} {i:Int} (h:fd.read b = .number s m i) : - (B:Int)<signed s m (i+1074).toNat∧signed s m (i+1074).toNat<(B:Int):=by
 obtain ⟨h1,h2,h3⟩:=rB h
 have:=hB.2 m (i+1074).toNat h1 (by omega)
 unfold signed
 generalize m <<< (i+1074).toNat=z at *
 cases s <;> simp only [bN,if_false,if_true] <;> omega
theorem aEb {B:Nat} (hB:Big B) {x y:Nat} (hx:(fd.read x).isNaN=false) (hy:(fd.read y).isNaN=false):fd.order x y=some (compare (val B (fd.read x)) (val B (fd.read y))):=by
 unfold Format.order
 have hB0:=hB.1
 cases hdx:fd.read x with
 | nan s p=>rw [hdx] at hx;cases hx
 | infinity s=>
   cases hdy:fd.read y with
   | nan s p=>rw [hdy] at hy;cases hy
   | infinity t=>
     cases s <;> cases t <;> simp only [Datum.order,val,Bool.toNat,if_true,bN,if_false,cond_true,cond_false] <;> congr 1
     · simp
     · rw [Int.compare_eq_gt.2 (by omega)];rfl
     · rw [Int.compare_eq_lt.2 (by omega)];rfl
     · simp
   | number t n j=>
     have:=aNq hB hdy
     cases s <;> simp only [Datum.order,val,if_true,bN,if_false] <;> congr 1
     · rw [Int.compare_eq_gt.2 this.2]
     · rw [Int.compare_eq_lt.2 this.1]
 | number s m i=>
   have h1:=aNq hB hdx
   cases hdy:fd.read y with
   | nan s p=>rw [hdy] at hy;cases hy
   | infinity t=>
     cases t <;> simp only [Datum.order,val,if_true,bN,if_false] <;> congr 1
     · rw [Int.compare_eq_lt.2 h1.2]
     · rw [Int.compare_eq_gt.2 h1.1]
   | number t n j=>
     have h2:=rB hdx
     have h3:=rB hdy
     simp only [Datum.order,val]
     congr 1
     rw [show (i+1074).toNat=(i - min i j).toNat+(min i j+1074).toNat by omega,show (j+1074).toNat=(j - min i j).toNat+(min i j+1074).toNat by omega,aBy,aBy,z6]
theorem aM7 {x y:Nat} (h:(fd.read x).isNaN=true∨(fd.read y).isNaN=true):fd.order x y=none:=by
 unfold Format.order
 cases hx:fd.read x with
 | nan s p=>cases fd.read y <;> rfl
 | infinity s=>cases hy:fd.read y with
   | nan t q=>rfl
   | _=>rw [hx,hy] at h;simp [Datum.isNaN] at h
 | number s m i=>cases hy:fd.read y with
   | nan t q=>rfl
   | _=>rw [hx,hy] at h;simp [Datum.isNaN] at h
def jP (b:Nat):Nat:=if b<9223372036854775808 then b+9223372036854775808 else b - 9223372036854775808
theorem aO3 {b:Nat} (h:b<9223372036854775808):b ^^^ 9223372036854775808=b+9223372036854775808:=by
 have e0:=Nat.two_pow_add_eq_or_of_lt (i:=63) (b:=b) h 1
 rw [Nat.mul_one] at e0
 rw [Nat.add_comm,show 9223372036854775808=2 ^ 63 by rfl,e0]
 apply Nat.eq_of_testBit_eq
 intro i
 rw [Nat.testBit_xor,Nat.testBit_or,Nat.testBit_two_pow]
 by_cases hi:63=i
 · subst hi
   rw [Nat.testBit_lt_two_pow h]
   simp
 · simp [hi]
theorem aT3 {b:Nat} (h:b<18446744073709551616):b ^^^ 9223372036854775808=jP b:=by
 unfold jP
 split
 · rename_i hl;exact aO3 hl
 · rename_i hl
   have:=aO3 (b:=b - 9223372036854775808) (by omega)
   rw [show b - 9223372036854775808+9223372036854775808=b by omega] at this
   have h2:b ^^^ 9223372036854775808=(b - 9223372036854775808 ^^^ 9223372036854775808) ^^^ 9223372036854775808:=by rw [this]
   rw [Nat.xor_assoc,Nat.xor_self,Nat.xor_zero] at h2
   exact h2
theorem aTp {b:Nat} (h:b<18446744073709551616):jP b<18446744073709551616:=by unfold jP;split <;> omega
theorem aA5 {b:Nat} (h:b<18446744073709551616):bits .xor .u64 (b:Int) 9223372036854775808=(jP b:Int):=by
 have e:(BitVec.ofInt 64 (b:Int) ^^^ BitVec.ofInt 64 9223372036854775808).toNat=jP b:=by
  rw [BitVec.toNat_xor]
  have h1:(BitVec.ofInt 64 (b:Int)).toNat=b:=by rw [BitVec.toNat_ofInt];omega
  have h2:(BitVec.ofInt 64 9223372036854775808).toNat=9223372036854775808:=by decide
  rw [h1,h2,aT3 h]
 show IntKind.u64.wrap _=_
 have h2:=aTp h
 have:IntKind.u64.wrap ((jP b:Nat):Int)=(jP b:Int):=by
  have e3:∀ n:Int,IntKind.u64.wrap n=n % 18446744073709551616:=fun n=>rfl
  rw [e3]
  omega
 rw [← this]
 congr 1
 exact congrArg Int.ofNat e
theorem aPt {b:Nat} (h:b<18446744073709551616):fd.read (jP b)=(fd.read b).opposite:=by
 have e1:jP b % 9223372036854775808=b % 9223372036854775808:=by unfold jP;split <;> omega
 have e2:(jP b / 9223372036854775808 % 2==1)=!(b / 9223372036854775808 % 2==1):=by
  unfold jP
  split
  · rw [show (b+9223372036854775808) / 9223372036854775808 % 2=1 by omega,show b / 9223372036854775808 % 2=0 by omega];rfl
  · rw [show (b - 9223372036854775808) / 9223372036854775808 % 2=0 by omega,show b / 9223372036854775808 % 2=1 by omega];rfl
 unfold Format.read
 simp only [mQ,lN,kR,pJ]
 rw [e1,e2]
 generalize b % 9223372036854775808=r
 generalize (b / 9223372036854775808 % 2==1)=q
 split
 · rfl
 · split
   · rfl
   · split <;> rfl
theorem aTx (d:Datum):d.opposite.isNaN=d.isNaN:=by cases d <;> rfl
def fM (b:Nat):Bool:=(fd.read b).isNaN
theorem tX (b:Nat):fd.order b b=if fM b then none else some .eq:=by
 obtain ⟨B,hB⟩:=aO4
 cases h:fM b with
 | true=>exact aM7 (.inl h)
 | false=>rw [aEb hB h h];simp
theorem kH {m k:Nat} (h:0<m):(m*2 ^ k).log2=m.log2+k:=by
 have hp:=aR k
 have h0:m*2 ^ k≠0:=Nat.ne_of_gt (Nat.mul_pos h hp)
 rw [Nat.log2_eq_iff h0]
 constructor
 · rw [aW]
   exact aM _ (Nat.log2_self_le (by omega))
 · rw [show m.log2+k+1=m.log2+1+k by omega,aW]
   exact Nat.mul_lt_mul_of_pos_right Nat.lt_log2_self hp
def rnd (n D:Nat):Nat:=n / D+(decide (D<2*(n % D)) || (D==2*(n % D)&&n / D % 2==1)).toNat
theorem aAu (s:Bool) (n drop:Nat):Toward.even.cut s n drop=rnd n (2 ^ drop):=by
 simp only [Toward.cut,Nat.shiftLeft_eq,Nat.one_mul]
 rcases Nat.le_total drop (n.log2+2) with hl | hl
 · rw [Nat.min_eq_left hl];rfl
 · rw [Nat.min_eq_right hl]
   have h1:n<2 ^ (n.log2+1):=Nat.lt_log2_self
   have h2:2 ^ (n.log2+2)≤2 ^ drop:=bP (by omega) hl
   have h3:2 ^ (n.log2+2)=2*2 ^ (n.log2+1):=by rw [Nat.pow_succ];omega
   have key:∀ D,2*n<D→rnd n D=0:=by
    intro D hD
    unfold rnd
    rw [Nat.div_eq_of_lt (by omega),Nat.mod_eq_of_lt (by omega)]
    have e1:decide (D<2*n)=false:=decide_eq_false (by omega)
    have e2:(D==2*n)=false:=beq_false_of_ne (by omega)
    rw [e1,e2];rfl
   rw [key (2 ^ drop) (by omega)]
   exact key (2 ^ (n.log2+2)) (by omega)
theorem aNc {K D:Nat} (hD:0<D):rnd (K*D) D=K:=by
 unfold rnd
 rw [Nat.mul_div_cancel _ hD,Nat.mul_mod_left]
 have e2:(D==2*0)=false:=beq_false_of_ne (by omega)
 simp [e2]
theorem rQ (neg:Bool) {q K:Nat} (hq:q≤2045) (hK:K<9007199254740992) (hn:q=0∨4503599627370496≤K):fd.read (fd.word neg (min (q*fd.binade+K) fd.infRung)) = .number neg K ((q:Int) - 1074):=by
 rw [lN,kR,Nat.min_eq_left (by omega)]
 have e0:fd.word neg (q*4503599627370496+K)=(if neg then 9223372036854775808 else 0)+(q*4503599627370496+K):=by
  unfold Format.word
  rw [mQ]
  cases neg
  · simp
  · simp
 rw [e0]
 have e1:((if neg then 9223372036854775808 else 0)+(q*4503599627370496+K)) % 9223372036854775808=q*4503599627370496+K:=by
  cases neg
  · simp only [bN,if_false];omega
  · simp only [if_true];omega
 have e2:(((if neg then 9223372036854775808 else 0)+(q*4503599627370496+K)) / 9223372036854775808 % 2==1)=neg:=by
  cases neg
  · simp only [bN,if_false]
    rw [show (0+(q*4503599627370496+K)) / 9223372036854775808 % 2=0 by omega];rfl
  · simp only [if_true]
    rw [show (9223372036854775808+(q*4503599627370496+K)) / 9223372036854775808 % 2=1 by omega];rfl
 unfold Format.read
 simp only [mQ,lN,kR,pJ]
 rw [e1,e2]
 split
 · obtain rfl:q=0:=by omega
   congr 1 <;> omega
 · rw [if_pos (by omega)]
   congr 1 <;> omega
theorem pA (neg:Bool) {mag M:Nat} {place E Z:Int} (hM:0<M) (hM2:M<9007199254740992) (hE : -1074≤E) (hE2:E≤971) (hp:0≤place+Z) (hz:0≤E+Z)
  (h:mag*2 ^ (place+Z).toNat=M*2 ^ (E+Z).toNat):∃ K last,fd.read (fd.nearest neg mag place) = .number neg K last ∧ -1074≤last∧last≤E∧K=M*2 ^ (E - last).toNat∧last=max (E+(M.log2:Int) - 52) (-1074)∧fd.nearest neg mag place=fd.word neg ((last+1074).toNat*4503599627370496+K):=by
 have hmag:0<mag:=by
  rcases bM mag with e | e
  · rw [e,Nat.zero_mul] at h
    have:=Nat.mul_pos hM (aR (E+Z).toNat)
    omega
  · exact e
 have hlog:(mag.log2:Int)+place=M.log2+E:=by
  have:=congrArg Nat.log2 h
  rw [kH hmag,kH hM] at this
  omega
 have hl:M.log2≤52:=by
  have:=(Nat.log2_lt (n:=M) (k:=53) (by omega)).2 hM2
  omega
 unfold Format.nearest
 rw [if_neg (by omega),pJ,aLh]
 obtain ⟨last,hlast⟩:∃ last,last=max (place+(mag.log2:Int) - (52:Nat)) (-1074):=⟨_,rfl⟩
 simp only
 rw [← hlast,aAu,Nat.shiftLeft_eq]
 have h1 : -1074≤last∧last≤E:=by omega
 obtain ⟨K,hK⟩:∃ K,K=M*2 ^ (E - last).toNat:=⟨_,rfl⟩
 have hval:mag*2 ^ (place - last).toNat=K*2 ^ (last - place).toNat:=by
  rcases Int.le_total last place with hc | hc
  · rw [show (last - place).toNat=0 by omega,Nat.pow_zero,Nat.mul_one,hK]
    apply Nat.eq_of_mul_eq_mul_right (aR (last+Z).toNat)
    rcases Int.le_total 0 (last+Z) with hcc | hcc
    · rw [aG,aG,← aW,← aW,show (place - last).toNat+(last+Z).toNat=(place+Z).toNat by omega,show (E - last).toNat+(last+Z).toNat=(E+Z).toNat by omega]
      exact h
    · apply Nat.eq_of_mul_eq_mul_right (aR (last+Z).toNat)
      rw [show (last+Z).toNat=0 by omega,Nat.pow_zero,Nat.mul_one,Nat.mul_one,Nat.mul_one,Nat.mul_one]
      rw [show (place - last).toNat=(place+Z).toNat+(-(last+Z)).toNat by omega,show (E - last).toNat=(E+Z).toNat+(-(last+Z)).toNat by omega,aW,aW,← aG,← aG,h]
  · rw [show (place - last).toNat=0 by omega,Nat.pow_zero,Nat.mul_one,hK]
    apply Nat.eq_of_mul_eq_mul_right (aR (place+Z).toNat)
    rw [h,aG,aG,← aW,← aW]
    congr 2
    omega
 have hKpos:0<K:=by rw [hK];exact Nat.mul_pos hM (aR _)
 have hKlog:(K.log2:Int)+last=M.log2+E:=by
  rw [hK,kH hM]
  omega
 have hK53:K<9007199254740992:=by
  have:K.log2<53:=by omega
  exact (Nat.log2_lt (n:=K) (k:=53) (by omega)).1 this
 have hKlo:(last+1074).toNat=0∨4503599627370496≤K:=by
  rcases Int.le_total last (-1074) with hc | hc
  · left;omega
  · by_cases e:last = -1074
    · left;omega
    · right
      have:52≤K.log2:=by omega
      exact (Nat.le_log2 (n:=K) (k:=52) (by omega)).1 this
 rw [hval,aNc (aR _),show last - -1074=last+1074 by omega,rQ neg (by omega) hK53 hKlo]
 refine ⟨K,last,?_,h1.1,h1.2,hK,by omega,?_⟩
 · congr 1
   omega
 · rw [lN,kR,Nat.min_eq_left (by omega)]
theorem xE (neg:Bool) (place:Int):fd.read (fd.nearest neg 0 place) = .number neg 0 (-1074):=by
 unfold Format.nearest
 rw [if_pos rfl]
 have:=rQ neg (q:=0) (K:=0) (by omega) (by omega) (.inl rfl)
 simpa using this
def IsI (b:Nat) (N:Int):Prop:=∃ s i,fd.read b = .number s (N.natAbs*2 ^ (-i).toNat) i ∧ -1074≤i∧i≤0∧(0<N→s=false)∧(N<0→s=true)
theorem uV {s:Bool} {N:Int} (h1:0<N→s=false) (h2:N<0→s=true) (a c:Nat):signed s (N.natAbs*2 ^ a) c=N*2 ^ (a+c):=by
 unfold signed
 rw [Nat.shiftLeft_eq,aG,← aW]
 rcases Int.lt_trichotomy N 0 with h | h | h
 · rw [h2 h,if_pos rfl,Int.natCast_mul,Int.natCast_pow]
   have:((N.natAbs:Nat):Int) = -N:=by omega
   rw [this,Int.neg_mul,Int.neg_neg]
   rfl
 · subst h
   cases s <;> simp
 · rw [h1 h,if_neg (by decide),Int.natCast_mul,Int.natCast_pow]
   have:((N.natAbs:Nat):Int)=N:=by omega
   rw [this]
   rfl
theorem aIo {s:Bool} {N:Int} (hN:N.natAbs<9007199254740992) (h1:0<N→s=false) (h2:N<0→s=true) {mag:Nat} {place Z:Int} (hp:0≤place+Z) (hz:0≤Z)
  (h:mag*2 ^ (place+Z).toNat=N.natAbs*2 ^ Z.toNat):IsI (fd.nearest s mag place) N:=by
 by_cases h0:N=0
 · subst h0
   have:mag=0:=by
    have:=aR (place+Z).toNat
    rw [Int.natAbs_zero,Nat.zero_mul] at h
    exact (Nat.mul_eq_zero.1 h).resolve_right (by omega)
   subst this
   exact ⟨s,-1074,by rw [xE,Int.natAbs_zero,Nat.zero_mul],by omega,by omega,h1,h2⟩
 · obtain ⟨K,last,e1,e2,e3,e4,_⟩:=pA s (M:=N.natAbs) (E:=0) (Z:=Z) (by omega) hN (by omega) (by omega) hp (by omega) (by rw [Int.zero_add];exact h)
   refine ⟨s,last,?_,e2,e3,h1,h2⟩
   rw [e1,e4,Int.zero_sub]
theorem aM6 {b:Nat} (h:fM b=false):toN b=b:=by
 unfold toN
 have:=tX b
 rw [h] at this
 rw [if_pos (by simpa using this)]
theorem rS {a b:Nat} {A B:Int} (ha:IsI a A) (hb:IsI b B):fd.order a b=some (compare A B):=by
 obtain ⟨s,i,e1,l1,u1,p1,n1⟩:=ha
 obtain ⟨t,j,e2,l2,u2,p2,n2⟩:=hb
 unfold Format.order
 rw [e1,e2]
 simp only [Datum.order]
 rw [uV p1 n1,uV p2 n2,show (-i).toNat+(i - min i j).toNat=(-min i j).toNat by omega,show (-j).toNat+(j - min i j).toNat=(-min i j).toNat by omega,z6]
theorem xC {a:Nat} {A:Int} (ha:IsI a A):(fd.read a).toInt .zero=some A:=by
 obtain ⟨s,i,e1,l1,u1,p1,n1⟩:=ha
 rw [e1]
 have hc:Toward.zero.cut s ((A.natAbs*2 ^ (-i).toNat) <<< i.toNat) (-i).toNat=A.natAbs:=by
  simp only [Toward.cut,Bool.toNat_false,Nat.add_zero,Nat.shiftLeft_eq,Nat.one_mul]
  rw [show i.toNat=0 by omega,Nat.pow_zero,Nat.mul_one]
  generalize hd:(-i).toNat=d
  have hp:=aR d
  rcases Nat.le_total d ((A.natAbs*2 ^ d).log2+2) with hl | hl
  · rw [Nat.min_eq_left hl,Nat.mul_div_cancel _ hp]
  · rcases bM A.natAbs with h0 | h0
    · rw [h0];simp
    · rw [kH h0] at hl ⊢
      rw [Nat.min_eq_left (by omega),Nat.mul_div_cancel _ hp]
 show (match (Datum.number s (A.natAbs*2 ^ (-i).toNat) i).integral .zero with | .number s m _=>some (signed s m 0) | _=>none)=_
 simp only [Datum.integral]
 rw [hc]
 congr 1
 have:=uV p1 n1 0 0
 simpa using this
theorem aT8:fM 9221120237041090560=true:=by decide
theorem aRi {b:Nat} (h:b<18446744073709551616):fM (jP b)=fM b:=by unfold fM;rw [aPt h,aTx]
theorem aCx {a:Nat} (h:a<18446744073709551616) {s:Bool} {m:Nat} {i:Int} (hr:fd.read a = .number s m i):
  a=fd.word s ((i+1074).toNat*4503599627370496+m)∧(i = -1074∨4503599627370496≤m):=by
 have hs:(a / 9223372036854775808 % 2==1)=s∧a % 9223372036854775808=(i+1074).toNat*4503599627370496+m∧(i = -1074∨4503599627370496≤m):=by
  unfold Format.read at hr
  simp only [mQ,lN,kR,pJ] at hr
  split at hr
  · injection hr with h1 h2 h3
    exact ⟨h1,by omega,by omega⟩
  · split at hr
    · injection hr with h1 h2 h3
      exact ⟨h1,by omega,by omega⟩
    · split at hr <;> cases hr
 refine ⟨?_,hs.2.2⟩
 rw [← hs.2.1]
 unfold Format.word
 rw [mQ]
 have:=hs.1
 cases s with
 | true=>
   have:=beq_iff_eq.1 this
   rw [if_pos rfl];omega
 | false=>
   have:=beq_eq_false_iff_ne.1 this
   rw [if_neg (by decide)];omega
theorem aPh {a:Nat} (h:a<18446744073709551616) {s:Bool} (hr:fd.read a = .infinity s):a=fd.word s fd.infRung:=by
 have hs:(a / 9223372036854775808 % 2==1)=s∧a % 9223372036854775808=9218868437227405312:=by
  unfold Format.read at hr
  simp only [mQ,lN,kR,pJ] at hr
  split at hr
  · cases hr
  · split at hr
    · cases hr
    · split at hr
      · injection hr with h1
        exact ⟨h1,by assumption⟩
      · cases hr
 unfold Format.word
 rw [mQ,kR]
 have:=hs.1
 cases s with
 | true=>
   have:=beq_iff_eq.1 this
   rw [if_pos rfl];omega
 | false=>
   have:=beq_eq_false_iff_ne.1 this
   rw [if_neg (by decide)];omega
theorem mN {n D lo hi:Nat} (hD:0<D) (h1:lo*D≤n) (h2:n<hi*D):lo≤rnd n D∧rnd n D≤hi:=by
 have a1:lo≤n / D:=(Nat.le_div_iff_mul_le hD).2 h1
 have a2:n / D<hi:=(Nat.div_lt_iff_lt_mul hD).2 h2
 unfold rnd
 generalize (decide (D<2*(n % D)) || (D==2*(n % D)&&n / D % 2==1))=b
 cases b
 · simp only [Bool.toNat_false];omega
 · simp only [Bool.toNat_true];omega
theorem aCo {q st ρ M D a r R:Nat} (hD:D=4∨D=8) (hρ:ρ<M) (hst:(ρ=0∧st=0)∨(0<ρ∧st=1)) (hN:2*q+st=D*a+r) (hr:r<D)
  (hR:(R=a∧2*r≤D)∨(R=a+1∧D≤2*r)):
  2*(R*D*M)≤2*(2*(q*M+ρ))+D*M∧2*(2*(q*M+ρ))≤2*(R*D*M)+D*M:=by
 have e1:2*(q*M)+st*M=D*(a*M)+r*M:=by
  rw [← aG,← aG,← bD,← bD,hN]
 have e2:a*D*M=D*(a*M):=by rw [Nat.mul_comm a D,aG]
 have e3:(a+1)*D*M=D*(a*M)+D*M:=by rw [Nat.mul_comm (a+1) D,aG,bD,Nat.one_mul,Nat.mul_add]
 have hr8:r=0∨r=1∨r=2∨r=3∨r=4∨r=5∨r=6∨r=7:=by omega
 generalize hqM:q*M=X at *
 generalize haM:a*M=Y at *
 rcases hR with ⟨rfl,h2⟩ | ⟨rfl,h2⟩
 · rw [e2]
   rcases hD with rfl | rfl <;> rcases hst with ⟨rfl,rfl⟩ | ⟨h0,rfl⟩ <;> rcases hr8 with rfl | rfl | rfl | rfl | rfl | rfl | rfl | rfl <;> omega
 · rw [e3]
   rcases hD with rfl | rfl <;> rcases hst with ⟨rfl,rfl⟩ | ⟨h0,rfl⟩ <;> rcases hr8 with rfl | rfl | rfl | rfl | rfl | rfl | rfl | rfl <;> omega
theorem xM (n:Nat) {D:Nat} (hD:0<D):(rnd n D=n / D∧2*(n % D)≤D)∨(rnd n D=n / D+1∧D≤2*(n % D)):=by
 unfold rnd
 by_cases h1:D<2*(n % D)
 · right
   rw [decide_eq_true h1]
   exact ⟨rfl,by omega⟩
 · rw [decide_eq_false h1,Bool.false_or]
   by_cases h2:(D==2*(n % D)&&n / D % 2==1)=true
   · right
     rw [h2]
     have:=(aI _ _ ▸ h2).1
     have:=beq_iff_eq.1 this
     exact ⟨rfl,by omega⟩
   · left
     have h2:(D==2*(n % D)&&n / D % 2==1)=false:=by simpa using h2
     rw [h2]
     exact ⟨rfl,by omega⟩
theorem aPa {K M:Nat} (hK1:4503599627370496≤K) (hK2:K<9007199254740992) (hM1:4503599627370496≤M) (hM2:M<9007199254740992):
  ∃ d R,(d=2∨d=3)∧(2*(K*2 ^ 54 / M)+(K*2 ^ 54 % M != 0).toNat).log2=52+d∧rnd (2*(K*2 ^ 54 / M)+(K*2 ^ 54 % M != 0).toNat) (2 ^ d)=R∧
    4503599627370496≤R∧R≤9007199254740992∧2*(R*2 ^ d*M)≤2*(2*(K*2 ^ 54))+2 ^ d*M∧2*(2*(K*2 ^ 54))≤2*(R*2 ^ d*M)+2 ^ d*M:=by
 have hM0:0<M:=by omega
 obtain ⟨V,hV⟩:∃ V,V=K*2 ^ 54:=⟨_,rfl⟩
 rw [← hV]
 have hV1:2 ^ 106≤V:=by rw [hV,show (2:Nat) ^ 106=4503599627370496*2 ^ 54 by rfl];exact aM _ hK1
 have hV2:V<2 ^ 107:=by rw [hV,show (2:Nat) ^ 107=9007199254740992*2 ^ 54 by rfl];exact Nat.mul_lt_mul_of_pos_right hK2 (aR _)
 have hdm:=Nat.div_add_mod V M
 have hρ:=Nat.mod_lt V hM0
 have hq1:2 ^ 53≤V / M:=(Nat.le_div_iff_mul_le hM0).2 (bC (Nat.mul_le_mul_left _ (Nat.le_of_lt hM2)) (by rw [show (2:Nat) ^ 53*9007199254740992=2 ^ 106 by rfl];exact hV1))
 have hq2:V / M<2 ^ 55:=(Nat.div_lt_iff_lt_mul hM0).2 (aE hV2 (by rw [show (2:Nat) ^ 107=2 ^ 55*4503599627370496 by rfl];exact Nat.mul_le_mul_left _ hM1))
 generalize V / M=q at *
 have hst:(V % M=0∧(V % M != 0).toNat=0)∨(0<V % M∧(V % M != 0).toNat=1):=by
  rcases bM (V % M) with h | h
  · left;rw [h];exact ⟨rfl,rfl⟩
  · right
    have:(V % M != 0)=true:=by simp;omega
    rw [this];exact ⟨h,rfl⟩
 generalize (V % M != 0).toNat=st at *
 generalize V % M=ρ at *
 have hst1:st≤1:=by omega
 rw [show (2:Nat) ^ 53=9007199254740992 by rfl] at hq1
 rw [show (2:Nat) ^ 55=36028797018963968 by rfl] at hq2
 have hN0:2*q+st≠0:=by omega
 have hVq:q*M+ρ=V:=by rw [Nat.mul_comm];exact hdm
 by_cases hc:2*q+st<36028797018963968
 · have hl:(2*q+st).log2=54:=(Nat.log2_eq_iff hN0).2 ⟨by rw [show (2:Nat) ^ 54=18014398509481984 by rfl];omega,by rw [show (2:Nat) ^ (54+1)=36028797018963968 by rfl];omega⟩
   refine ⟨2,_,.inl rfl,hl,rfl,?_⟩
   have hb:=mN (n:=2*q+st) (D:=2 ^ 2) (lo:=4503599627370496) (hi:=9007199254740992) (by decide) (by omega) (by omega)
   have:=aCo (q:=q) (st:=st) (ρ:=ρ) (M:=M) (D:=4) (.inl rfl) hρ hst (Nat.div_add_mod (2*q+st) 4).symm (Nat.mod_lt _ (by decide)) (R:=rnd (2*q+st) 4) (xM (2*q+st) (D:=4) (by decide))
   rw [hVq] at this
   exact ⟨hb.1,hb.2,this.1,this.2⟩
 · have hl:(2*q+st).log2=55:=(Nat.log2_eq_iff hN0).2 ⟨by rw [show (2:Nat) ^ 55=36028797018963968 by rfl];omega,by rw [show (2:Nat) ^ (55+1)=72057594037927936 by rfl];omega⟩
   refine ⟨3,_,.inr rfl,hl,rfl,?_⟩
   have hb:=mN (n:=2*q+st) (D:=2 ^ 3) (lo:=4503599627370496) (hi:=9007199254740992) (by decide) (by omega) (by omega)
   have:=aCo (q:=q) (st:=st) (ρ:=ρ) (M:=M) (D:=8) (.inr rfl) hρ hst (Nat.div_add_mod (2*q+st) 8).symm (Nat.mod_lt _ (by decide)) (R:=rnd (2*q+st) 8) (xM (2*q+st) (D:=8) (by decide))
   rw [hVq] at this
   exact ⟨hb.1,hb.2,this.1,this.2⟩
def fX (k:Nat):Nat:=[4607182418800017408,4621819117588971520,4636737291354636288,4652007308841189376,4666723172467343360,4681608360884174848,4696837146684686336].getD k 0
theorem rO {k:Nat} (h1:1≤k) (h6:k≤6):∃ J:Nat,fd.read (fX k) = .number false (10 ^ k*2 ^ J) (-(J:Int))∧33≤J∧J≤49∧4503599627370496≤10 ^ k*2 ^ J∧10 ^ k*2 ^ J<9007199254740992:=by
 have hk:k=1∨k=2∨k=3∨k=4∨k=5∨k=6:=by omega
 rcases hk with rfl | rfl | rfl | rfl | rfl | rfl
 · exact ⟨49,by decide,by decide,by decide,by decide,by decide⟩
 · exact ⟨46,by decide,by decide,by decide,by decide,by decide⟩
 · exact ⟨43,by decide,by decide,by decide,by decide,by decide⟩
 · exact ⟨39,by decide,by decide,by decide,by decide,by decide⟩
 · exact ⟨36,by decide,by decide,by decide,by decide,by decide⟩
 · exact ⟨33,by decide,by decide,by decide,by decide,by decide⟩
theorem aQw {n:Nat} (h0:0<n) (hn:n<9007199254740992):∃ I:Nat,fd.read (floatOfInt .f64 n) = .number false (n*2 ^ I) (-(I:Int))∧I≤52∧4503599627370496≤n*2 ^ I∧n*2 ^ I<9007199254740992:=by
 obtain ⟨K,last,e1,e2,e3,e4,e5,e6⟩:=pA false (mag:=n) (place:=0) (M:=n) (E:=0) (Z:=0) h0 hn (by omega) (by omega) (by omega) (by omega) rfl
 have hl:n.log2≤52:=by
  have:=(Nat.log2_lt (n:=n) (k:=53) (by omega)).2 hn
  omega
 have h1:=Nat.log2_self_le (n:=n) (by omega)
 have h2:n<2 ^ (n.log2+1):=Nat.lt_log2_self
 have hlast:last = -((52 - n.log2:Nat):Int):=by omega
 refine ⟨52 - n.log2,?_,by omega,?_,?_⟩
 · have:floatOfInt .f64 (n:Int)=fd.nearest false n 0:=by
    show fd.nearest (decide ((n:Int)<0)) ((n:Int).natAbs) 0=_
    rw [decide_eq_false (by omega),Int.natAbs_natCast]
   rw [this,e1,e4,hlast,show (0 - -((52 - n.log2:Nat):Int)).toNat=52 - n.log2 by omega]
 · have:=aM (2 ^ (52 - n.log2)) h1
   rw [← aW,show n.log2+(52 - n.log2)=52 by omega] at this
   exact this
 · have:=Nat.mul_lt_mul_of_pos_right h2 (aR (52 - n.log2))
   rw [← aW,show n.log2+1+(52 - n.log2)=53 by omega] at this
   exact this
theorem aKd {K:Nat} (h1:4503599627370496≤K) (h2:K<9007199254740992):K.log2=52:=(Nat.log2_eq_iff (by omega)).2 ⟨h1,h2⟩
def Near (b n P:Nat):Prop:=∃ c E:Nat,fd.read b = .number false c (-(E:Int))∧4503599627370496≤c∧c<9007199254740992∧5≤E∧E≤72∧2*(c*P)≤2*(n*2 ^ E)+P∧2*(n*2 ^ E)≤2*(c*P)+P
theorem qQ {k:Nat} (h1:1≤k):10≤10 ^ k:=by
 have:=bP (n:=10) (by omega) h1
 omega
theorem nE {N d R:Nat} {place last:Int} (hN:0<N) (hlog:N.log2=52+d) (hR:rnd N (2 ^ d)=R) (hlast:last=place+d) (hlo : -1074<last) (hhi:last≤900) (h1:4503599627370496≤R) (h2:R≤9007199254740992):
  fd.read (fd.nearest false N place)=if R<9007199254740992 then .number false R last else .number false 4503599627370496 (last+1):=by
 unfold Format.nearest
 rw [if_neg (by omega),pJ,aLh,hlog]
 simp only
 rw [show max (place+((52+d:Nat):Int) - (52:Nat)) (-1074)=last by omega,aAu,show (place - last).toNat=0 by omega,show (last - place).toNat=d by omega,Nat.shiftLeft_zero,hR]
 obtain ⟨q,hq⟩:∃ q:Nat,q=(last - -1074).toNat:=⟨_,rfl⟩
 rw [← hq]
 have hql:last=(q:Int) - 1074:=by omega
 by_cases hc:R<9007199254740992
 · rw [if_pos hc,rQ false (by omega) hc (.inr h1),hql]
 · obtain rfl:R=9007199254740992:=by omega
   have:=rQ false (q:=q+1) (K:=4503599627370496) (by omega) (by omega) (.inr (by omega))
   rw [if_neg hc]
   rw [lN] at this ⊢
   rw [show q*4503599627370496+9007199254740992=(q+1)*4503599627370496+4503599627370496 by omega,this,hql,show ((q+1:Nat):Int) - 1074=(q:Int) - 1074+1 by omega]
theorem aQ8 {n k:Nat} (h0:0<n) (hn:n<1000000000000000) (h1:1≤k) (h6:k≤6):Near (arN .quo (floatOfInt .f64 n) (fX k)) n (10 ^ k):=by
 obtain ⟨I,r1,hI,k1,k2⟩:=aQw h0 (by omega)
 obtain ⟨J,r2,hJ1,hJ2,m1,m2⟩:=rO h1 h6
 obtain ⟨d,R,hd,hlog,hR,b1,b2,b3,b4⟩:=aPa k1 k2 m1 m2
 have hP:=qQ h1
 generalize 10 ^ k=P at *
 have hdiv:floatBits .quo .f64 (floatOfInt .f64 n) (fX k)=some (fd.nearest false (2*(n*2 ^ I*2 ^ 54 / (P*2 ^ J))+(n*2 ^ I*2 ^ 54 % (P*2 ^ J) != 0).toNat) ((J:Int) - I - 55)):=by
  show ((fd.read _).quotient (52+2) (fd.read _)).map fd.write=_
  rw [r1,r2]
  simp only [Datum.quotient]
  rw [if_neg (by omega),aKd k1 k2,aKd m1 m2,Nat.shiftLeft_eq]
  simp only [aL,Format.write]
  congr 2
  omega
 have hE0:0≤(I:Int)+55 - J - d:=by omega
 obtain ⟨E,hE⟩:∃ E:Nat,(E:Int)=(I:Int)+55 - J - d:=⟨((I:Int)+55 - J - d).toNat,by omega⟩
 have hread:=nE (N:=2*(n*2 ^ I*2 ^ 54 / (P*2 ^ J))+(n*2 ^ I*2 ^ 54 % (P*2 ^ J) != 0).toNat) (d:=d) (R:=R) (place:=(J:Int) - I - 55) (last := -(E:Int))
  (by
   rcases bM (2*(n*2 ^ I*2 ^ 54 / (P*2 ^ J))+(n*2 ^ I*2 ^ 54 % (P*2 ^ J) != 0).toNat) with h | h
   · rw [h,Nat.log2_zero] at hlog
     omega
   · exact h) hlog hR (by omega) (by omega) (by omega) b1 b2
 have hZ:=aR (d+J)
 have c1:R*2 ^ d*(P*2 ^ J)=R*P*2 ^ (d+J):=by rw [aW];simp only [Nat.mul_left_comm,aG]
 have c2:2*(n*2 ^ I*2 ^ 54)=n*2 ^ E*2 ^ (d+J):=by
  rw [aG n,aG n,← aW,← aW,show E+(d+J)=I+54+1 by omega,Nat.pow_succ 2 (I+54),← aG n,Nat.mul_comm 2]
 have c3:2 ^ d*(P*2 ^ J)=P*2 ^ (d+J):=by rw [aW];simp only [Nat.mul_left_comm]
 rw [c1,c2,c3] at b3 b4
 have d3:2*(R*P)≤2*(n*2 ^ E)+P:=by
  apply Nat.le_of_mul_le_mul_right _ hZ
  rw [bD,aG,aG 2]
  exact b3
 have d4:2*(n*2 ^ E)≤2*(R*P)+P:=by
  apply Nat.le_of_mul_le_mul_right _ hZ
  rw [bD,aG,aG 2]
  exact b4
 have hE5:5≤E:=by
  rcases aY E 5 with h | h
  · exfalso
    have e1:n*2 ^ E≤n*2 ^ 4:=Nat.mul_le_mul_left _ (bP (by omega) (by omega))
    have e2:4503599627370496*P≤R*P:=aM _ b1
    omega
  · exact h
 have harn:∀ x,floatBits .quo .f64 (floatOfInt .f64 n) (fX k)=some x→fM x=false→arN .quo (floatOfInt .f64 n) (fX k)=x:=by
  intro x hx hnx
  unfold arN
  rw [hx]
  exact aM6 hnx
 rw [harn _ hdiv (by
  unfold fM
  rw [hread]
  split <;> rfl)]
 by_cases hc:R<9007199254740992
 · rw [if_pos hc] at hread
   exact ⟨R,E,hread,b1,hc,hE5,by omega,d3,d4⟩
 · obtain rfl:R=9007199254740992:=by omega
   rw [if_neg hc] at hread
   obtain ⟨E',rfl⟩:∃ E',E=E'+1:=⟨E - 1,by omega⟩
   have c4:n*2 ^ (E'+1)=2*(n*2 ^ E'):=by rw [Nat.pow_succ,← aG,Nat.mul_comm 2]
   rw [c4] at d3 d4
   have hE6:5≤E':=by
    rcases aY E' 5 with h | h
    · exfalso
      have e1:n*2 ^ E'≤n*2 ^ 4:=Nat.mul_le_mul_left _ (bP (by omega) (by omega))
      omega
    · exact h
   refine ⟨4503599627370496,E',?_,by omega,by omega,hE6,by omega,by omega,by omega⟩
   rw [hread]
   congr 1
   omega
end Go.As
end
section
namespace Go.As
open Go Ieee
theorem aHu (n:Nat) {D:Nat} (hD:0<D):2*(rnd n D*D)≤2*n+D∧2*n≤2*(rnd n D*D)+D:=by
 have h:=Nat.div_add_mod n D
 have hm:=Nat.mod_lt n hD
 rcases xM n hD with ⟨e,h2⟩ | ⟨e,h2⟩
 · rw [e]
   rw [Nat.mul_comm] at h
   generalize n / D*D=z at *
   omega
 · rw [e,bD,Nat.one_mul]
   rw [Nat.mul_comm] at h
   generalize n / D*D=z at *
   omega
theorem aAv {b n k:Nat} (h:Near b n (10 ^ k)) (hn:n<1000000000000000) (h1:1≤k) (h6:k≤6):
  ∃ r c F:Nat,floatBits .mul .f64 b (fX k)=some r∧fd.read r = .number false c (-(F:Int))∧c<9007199254740992∧4*c<(4*n+1)*2 ^ F∧4*n*2 ^ F<4*c+2 ^ F:=by
 obtain ⟨c,E,r1,c1,c2,hE1,hE2,b1,b2⟩:=h
 obtain ⟨J,r2,hJ1,hJ2,m1,m2⟩:=rO h1 h6
 have hP:=qQ h1
 generalize 10 ^ k=P at *
 obtain ⟨N,hN⟩:∃ N,N=c*(P*2 ^ J):=⟨_,rfl⟩
 have lD:floatBits .mul .f64 b (fX k)=some (fd.nearest false N (-(E:Int) + -(J:Int))):=by
  show ((fd.read b).product (fd.read (fX k))).map fd.write=_
  rw [r1,r2,hN]
  rfl
 have hN1:2 ^ 104≤N:=by rw [hN,show (2:Nat) ^ 104=4503599627370496*4503599627370496 by rfl];exact Nat.mul_le_mul c1 m1
 have hN2:N<2 ^ 106:=by rw [hN,show (2:Nat) ^ 106=9007199254740992*9007199254740992 by rfl];exact Nat.mul_lt_mul'' c2 m2
 have hN0:N≠0:=by have:=aR 104;omega
 have hl1:104≤N.log2:=(Nat.le_log2 hN0).2 hN1
 have hl2:N.log2<106:=(Nat.log2_lt hN0).2 hN2
 obtain ⟨d,hd⟩:∃ d,N.log2=52+d:=⟨N.log2 - 52,by omega⟩
 have hd1:52≤d∧d≤53:=by omega
 have hNd1:2 ^ (52+d)≤N:=by rw [← hd];exact Nat.log2_self_le hN0
 have hNd2:N<2 ^ (53+d):=by
  have:N<2 ^ (N.log2+1):=Nat.lt_log2_self
  rw [hd] at this
  rw [show 53+d=52+d+1 by omega]
  exact this
 have hX:=aR E
 have hcP:c*P<2 ^ (50+E):=by
  have e1:4503599627370496*P≤c*P:=aM _ c1
  have e2:n*2 ^ E≤999999999999999*2 ^ E:=aM _ (by omega)
  rw [aW,show (2:Nat) ^ 50=1125899906842624 by rfl]
  generalize n*2 ^ E=y at *
  generalize 2 ^ E=X at *
  generalize c*P=z at *
  omega
 have hF:d+3≤E+J:=by
  have e1:N<2 ^ (50+E+J):=by
   rw [hN,← aG,aW _ (50+E)]
   exact Nat.mul_lt_mul_of_pos_right hcP (aR _)
  have e2:(2:Nat) ^ (52+d)<2 ^ (50+E+J):=Nat.lt_of_le_of_lt hNd1 e1
  have:=(Nat.pow_lt_pow_iff_right (a:=2) (by omega)).1 e2
  omega
 obtain ⟨F,hF2⟩:∃ F,F+d=E+J:=⟨E+J - d,by omega⟩
 have hb:=mN (n:=N) (lo:=4503599627370496) (hi:=9007199254740992) (aR d) (by rw [show 4503599627370496=2 ^ 52 by rfl,← aW];exact hNd1) (by rw [show 9007199254740992=2 ^ 53 by rfl,← aW];exact hNd2)
 have hh:=aHu N (aR d)
 obtain ⟨R,hR⟩:∃ R,rnd N (2 ^ d)=R:=⟨_,rfl⟩
 have hread:=nE (N:=N) (d:=d) (R:=R) (place := -(E:Int) + -(J:Int)) (last := -(F:Int)) (by omega) hd hR (by omega) (by omega) (by omega) (by rw [← hR];exact hb.1) (by rw [← hR];exact hb.2)
 rw [hR] at hb hh
 have hJp:=aR J
 have hA:2*(R*2 ^ E)≤2*(c*P*2 ^ F)+2 ^ E∧2*(c*P*2 ^ F)≤2*(R*2 ^ E)+2 ^ E:=by
  have g1:R*2 ^ d*2 ^ F=R*2 ^ E*2 ^ J:=by rw [aG,aG,← aW,← aW,Nat.add_comm d F,hF2]
  have g2:N*2 ^ F=c*P*2 ^ F*2 ^ J:=by rw [hN];generalize 2 ^ J=j;generalize 2 ^ F=f;rw [← aG,aG (c*P),Nat.mul_comm j f,← aG (c*P)]
  have g3:2 ^ d*2 ^ F=2 ^ E*2 ^ J:=by rw [← aW,← aW,Nat.add_comm d F,hF2]
  have k1:=aM (2 ^ F) hh.1
  have k2:=aM (2 ^ F) hh.2
  rw [bD,aG,aG 2 N,g1,g2,g3,← aG,← aG 2 (c*P*2 ^ F),← bD] at k1
  rw [bD,aG,aG 2 (R*2 ^ d),g1,g2,g3,← aG,← aG 2 (R*2 ^ E),← bD] at k2
  exact ⟨Nat.le_of_mul_le_mul_right k1 hJp,Nat.le_of_mul_le_mul_right k2 hJp⟩
 have hfin:4*R<(4*n+1)*2 ^ F∧4*n*2 ^ F<4*R+2 ^ F:=by
  have e3:P*9007199254740991≤2000000000000000*2 ^ E:=by
   have e1:4503599627370496*P≤c*P:=aM _ c1
   have e2:n*2 ^ E≤999999999999999*2 ^ E:=aM _ (by omega)
   generalize n*2 ^ E=y at *
   generalize 2 ^ E=X at *
   generalize c*P=z at *
   omega
  have hY:8≤2 ^ F:=by
   have:=bP (n:=2) (by omega) (show 3≤F by omega)
   exact this
  have s1:=aM (2 ^ F) b1
  have s2:=aM (2 ^ F) b2
  have s3:=aM (2 ^ F) e3
  have s4:=Nat.mul_le_mul_left (2 ^ E) hY
  rw [bD,aG,aG 2 (n*2 ^ E)] at s1
  rw [bD,aG,aG 2 (c*P)] at s2
  rw [aG,Nat.mul_comm 9007199254740991,← aG,aG 2000000000000000] at s3
  have t1:4*(R*2 ^ E)<4*(n*2 ^ E*2 ^ F)+2 ^ E*2 ^ F∧4*(n*2 ^ E*2 ^ F)<4*(R*2 ^ E)+2 ^ E*2 ^ F:=by
   have hz:0<2 ^ E*2 ^ F:=Nat.mul_pos hX (aR _)
   generalize n*2 ^ E*2 ^ F=y at *
   generalize 2 ^ E*2 ^ F=z at *
   generalize P*2 ^ F=p at *
   generalize c*P*2 ^ F=q at *
   generalize R*2 ^ E=a at *
   generalize 2 ^ E=X at *
   omega
  have u1:4*R*2 ^ E<(4*n+1)*2 ^ F*2 ^ E:=by
   have e1:(4*n+1)*2 ^ F*2 ^ E=4*(n*2 ^ E*2 ^ F)+2 ^ E*2 ^ F:=by
    rw [bD,bD,Nat.one_mul,Nat.mul_comm (2 ^ F) (2 ^ E),aG 4,aG 4,aG n,aG n,Nat.mul_comm (2 ^ F) (2 ^ E)]
   rw [e1,aG]
   exact t1.1
  have u2:4*n*2 ^ F*2 ^ E<(4*R+2 ^ F)*2 ^ E:=by
   rw [bD,Nat.mul_comm (2 ^ F) (2 ^ E),aG 4 R,aG 4 n,aG 4,aG n,Nat.mul_comm (2 ^ F) (2 ^ E),← aG n]
   exact t1.2
  exact ⟨Nat.lt_of_mul_lt_mul_right u1,Nat.lt_of_mul_lt_mul_right u2⟩
 refine ⟨fd.nearest false N (-(E:Int) + -(J:Int)),?_⟩
 by_cases hc:R<9007199254740992
 · rw [if_pos hc] at hread
   exact ⟨R,F,lD,hread,hc,hfin.1,hfin.2⟩
 · obtain rfl:R=9007199254740992:=by omega
   rw [if_neg hc] at hread
   obtain ⟨F',rfl⟩:∃ F',F=F'+1:=⟨F - 1,by omega⟩
   refine ⟨4503599627370496,F',lD,?_,by omega,?_,?_⟩
   · rw [hread]
     congr 1
     omega
   · have:=hfin.1
     rw [Nat.pow_succ,← aG] at this
     omega
   · have:=hfin.2
     rw [Nat.pow_succ,← aG] at this
     omega
def aAw (n k:Nat):Nat:=arN .quo (floatOfInt .f64 (n:Int)) (fX k)
def LitIs (b k n:Nat):Prop:=1≤k∧k≤6∧n<1000000000000000∧aAw n k=b
theorem aDz {k:Nat} (h1:1≤k) (h6:k≤6):aAw 0 k=0:=by
 have hk:k=1∨k=2∨k=3∨k=4∨k=5∨k=6:=by omega
 rcases hk with rfl | rfl | rfl | rfl | rfl | rfl <;> decide
theorem LitIs.near {b k n:Nat} (h:LitIs b k n):(n=0∧b=0)∨(0<n∧Near b n (10 ^ k)):=by
 obtain ⟨h1,h6,hn,hb⟩:=h
 rcases bM n with h0 | h0
 · subst h0
   rw [aDz h1 h6] at hb
   exact .inl ⟨rfl,hb.symm⟩
 · right
   rw [← hb]
   exact ⟨h0,aQ8 h0 hn h1 h6⟩
theorem aD8:fd.read 0 = .number false 0 (-1074):=by decide
theorem lV {n P:Nat} (h:Near 0 n P):False:=by
 obtain ⟨c,E,r1,c1,_⟩:=h
 rw [aD8] at r1
 injection r1 with _ e1 _
 omega
def flW (r:Nat):Nat:=fd.write ((fd.read r).integral .down)
theorem aQ0 (n drop:Nat):Toward.down.cut false n drop=n / 2 ^ drop:=by
 simp only [Toward.cut,Bool.false_and,Bool.toNat_false,Nat.add_zero,Nat.shiftLeft_eq,Nat.one_mul]
 rcases Nat.le_total drop (n.log2+2) with hl | hl
 · rw [Nat.min_eq_left hl]
 · rw [Nat.min_eq_right hl]
   have h1:n<2 ^ (n.log2+1):=Nat.lt_log2_self
   have h2:2 ^ (n.log2+1)≤2 ^ (n.log2+2):=bP (by omega) (by omega)
   have h3:2 ^ (n.log2+2)≤2 ^ drop:=bP (by omega) hl
   rw [Nat.div_eq_of_lt (by omega),Nat.div_eq_of_lt (by omega)]
def whV (c:Nat) (e:Int):Nat:=(c <<< e.toNat) / 2 ^ (-e).toNat
theorem aS9 {r c:Nat} {e:Int} (h:fd.read r = .number false c e):flW r=fd.nearest false (whV c e) 0:=by
 unfold flW
 rw [h]
 simp only [Datum.integral,Format.write]
 rw [aQ0]
 rfl
def w15:Nat:=4831355200913801216
theorem rC:fd.read w15 = .number false 8000000000000000 (-3):=by decide
theorem zN:IsI w15 1000000000000000:=⟨false,-3,by rw [rC];rfl,by omega,by omega,fun _=>rfl,fun h=>by omega⟩
theorem uX {r c:Nat} {e:Int} (h:fd.read r = .number false c e):
  (whV c e<9007199254740992∧IsI (flW r) (whV c e))∨(9007199254740992≤whV c e∧fd.order (flW r) w15=some .gt∧fM (flW r)=false):=by
 have hr:=rB h
 rw [aS9 h]
 rcases aY (whV c e) 9007199254740992 with hV | hV
 · left
   refine ⟨hV,aIo (Z:=0) (by omega) (fun _=>rfl) (fun h=>by omega) (by omega) (by omega) (by simp)⟩
 · right
   refine ⟨hV,?_⟩
   have he:0<e:=by
    rcases Int.lt_or_le 0 e with h' | h'
    · exact h'
    · exfalso
      unfold whV at hV
      rw [show e.toNat=0 by omega,Nat.shiftLeft_zero] at hV
      have:=Nat.div_le_self c (2 ^ (-e).toNat)
      omega
   have hVe:whV c e=c*2 ^ e.toNat:=by
    unfold whV
    rw [show (-e).toNat=0 by omega,Nat.pow_zero,Nat.div_one,Nat.shiftLeft_eq]
   have hc0:0<c:=by
    rcases bM c with h0 | h0
    · rw [hVe,h0,Nat.zero_mul] at hV;omega
    · exact h0
   obtain ⟨K,last,e1,e2,e3,e4,e5,e6⟩:=pA false (mag:=whV c e) (place:=0) (M:=c) (E:=e) (Z:=0) hc0 hr.1 hr.2.1 hr.2.2 (by omega) (by omega)
    (by rw [hVe,show ((0:Int)+0).toNat=0 by omega,Nat.pow_zero,Nat.mul_one,Int.add_zero])
   have hlast:1≤last:=by
    have h1:53≤(whV c e).log2:=(Nat.le_log2 (by omega)).2 hV
    rw [hVe,kH hc0] at h1
    omega
   refine ⟨?_,by unfold fM;rw [e1];rfl⟩
   unfold Format.order
   rw [e1,rC]
   simp only [Datum.order]
   congr 1
   rw [Int.min_eq_right (by omega:(-3:Int)≤last),show (-3 - -3:Int).toNat=0 by omega,show (last - -3).toNat=last.toNat+3 by omega]
   have hk:K*2 ^ last.toNat=whV c e:=by
    rw [e4,hVe,aG,← aW,show (e - last).toNat+last.toNat=e.toNat by omega]
   have:signed false K (last.toNat+3)=((whV c e*8:Nat):Int):=by
    unfold signed
    rw [if_neg (by decide),Nat.shiftLeft_eq,aW,← aG,hk]
   rw [this,show signed false 8000000000000000 0=8000000000000000 by decide]
   exact Int.compare_eq_gt.2 (by omega)
theorem aDo {c F:Nat}:whV c (-(F:Int))=c / 2 ^ F:=by
 unfold whV
 rw [show (-(F:Int)).toNat=0 by omega,Nat.shiftLeft_zero,show (- -(F:Int)).toNat=F by omega]
theorem LitIs.floor {b k n:Nat} (h:LitIs b k n):∃ r V:Nat,floatBits .mul .f64 b (fX k)=some r∧fM r=false∧IsI (flW r) V∧(V=n∨V+1=n):=by
 have h1:=h.1
 have h6:=h.2.1
 rcases h.near with ⟨rfl,rfl⟩ | ⟨h0,hn⟩
 · refine ⟨0,0,?_,by decide,?_,.inl rfl⟩
   · have hk:k=1∨k=2∨k=3∨k=4∨k=5∨k=6:=by omega
     rcases hk with rfl | rfl | rfl | rfl | rfl | rfl <;> decide
   · rcases uX aD8 with ⟨_,h3⟩ | ⟨h3,_⟩
     · have:whV 0 (-1074)=0:=by unfold whV;rw [Nat.zero_shiftLeft,Nat.zero_div]
       rw [this] at h3
       exact h3
     · have:whV 0 (-1074)=0:=by unfold whV;rw [Nat.zero_shiftLeft,Nat.zero_div]
       omega
 · obtain ⟨r,c,F,hr,hread,hc,b1,b2⟩:=aAv hn h.2.2.1 h1 h6
   have hY:=aR F
   have hV:=aDo (c:=c) (F:=F)
   have e1:=Nat.div_add_mod c (2 ^ F)
   have e2:=Nat.mod_lt c hY
   rw [Nat.mul_comm] at e1
   have hb1:c / 2 ^ F≤n:=by
    rcases aY n (c / 2 ^ F) with hlt | hge
    · have:(n+1)*2 ^ F≤c / 2 ^ F*2 ^ F:=aM _ hlt
      rw [bD,Nat.one_mul] at this
      rw [bD,Nat.one_mul,aG] at b1
      omega
    · exact hge
   have hb2:n≤c / 2 ^ F+1:=by
    rcases aY (c / 2 ^ F+1) n with hlt | hge
    · have:(c / 2 ^ F+1+1)*2 ^ F≤n*2 ^ F:=aM _ hlt
      rw [bD,bD,Nat.one_mul] at this
      rw [aG] at b2
      omega
    · exact hge
   have hnn:=h.2.2.1
   refine ⟨r,c / 2 ^ F,hr,by unfold fM;rw [hread];rfl,?_,by omega⟩
   rcases uX hread with ⟨_,h3⟩ | ⟨h3,_⟩
   · rw [hV] at h3;exact h3
   · rw [hV] at h3;omega
theorem LitIs.uniq {b k n m:Nat} (h:LitIs b k n) (g:LitIs b k m):n=m:=by
 rcases h.near with ⟨rfl,rfl⟩ | ⟨h0,hn⟩
 · rcases g.near with ⟨rfl,_⟩ | ⟨g0,gn⟩
   · rfl
   · exact (lV gn).elim
 · rcases g.near with ⟨rfl,rfl⟩ | ⟨g0,gn⟩
   · exact (lV hn).elim
   · obtain ⟨r,c,F,hr,hread,hc,b1,b2⟩:=aAv hn h.2.2.1 h.1 h.2.1
     obtain ⟨r',c',F',hr',hread',hc',d1,d2⟩:=aAv gn g.2.2.1 g.1 g.2.1
     rw [hr] at hr'
     injection hr' with hr'
     subst hr'
     rw [hread] at hread'
     injection hread' with _ e1 e2
     subst e1
     have:F=F':=by omega
     subst this
     have hY:=aR F
     rw [bD,Nat.one_mul] at b1 d1
     rcases Nat.lt_trichotomy n m with hlt | he | hgt
     · have:=aM (2 ^ F) (show 4*n+4≤4*m by omega)
       rw [bD] at this
       omega
     · exact he
     · have:=aM (2 ^ F) (show 4*m+4≤4*n by omega)
       rw [bD] at this
       omega
theorem Near.small {b n P:Nat} {c E:Nat} (c1:4503599627370496≤c) (hn:n<1000000000000000) (b1:2*(c*P)≤2*(n*2 ^ E)+P):P*9007199254740991≤2000000000000000*2 ^ E:=by
 have e1:4503599627370496*P≤c*P:=aM _ c1
 have e2:n*2 ^ E≤999999999999999*2 ^ E:=aM _ (by omega)
 generalize n*2 ^ E=y at *
 generalize 2 ^ E=X at *
 generalize c*P=z at *
 omega
theorem LitIs.across {b k l n m:Nat} (h:LitIs b k n) (g:LitIs b l m) (hkl:k<l):n*10 ^ (l - k)=m:=by
 rcases h.near with ⟨rfl,rfl⟩ | ⟨h0,hn⟩
 · rcases g.near with ⟨rfl,_⟩ | ⟨g0,gn⟩
   · simp
   · exact (lV gn).elim
 · rcases g.near with ⟨rfl,rfl⟩ | ⟨g0,gn⟩
   · exact (lV hn).elim
   · obtain ⟨c,E,r1,c1,c2,hE1,hE2,b1,b2⟩:=hn
     obtain ⟨c',E',r1',c1',c2',hE1',hE2',d1,d2⟩:=gn
     rw [r1] at r1'
     injection r1' with _ e1 e2
     subst e1
     have:E=E':=by omega
     subst this
     have hsm:=Near.small (b:=b) c1 g.2.2.1 d1
     have hX:=aR E
     have hPQ:10 ^ l=10 ^ k*10 ^ (l - k):=by rw [← aW];congr 1;omega
     have hQ:1≤10 ^ (l - k):=Nat.pos_of_ne_zero (by simp)
     rw [hPQ] at d1 d2 hsm
     generalize 10 ^ (l - k)=q at *
     generalize 10 ^ k=P at *
     have s1:=aM q b1
     have s2:=aM q b2
     rw [bD,aG,aG 2 (n*2 ^ E),aG c,Nat.mul_right_comm n] at s1
     rw [bD,aG,aG 2 (c*P),aG c,Nat.mul_right_comm n] at s2
     generalize n*q=x at *
     have t1:x*2 ^ E<m*2 ^ E+2 ^ E∧m*2 ^ E<x*2 ^ E+2 ^ E:=by
      generalize x*2 ^ E=u at *
      generalize m*2 ^ E=v at *
      generalize c*(P*q)=z at *
      generalize P*q=p at *
      generalize 2 ^ E=X at *
      omega
     rcases Nat.lt_trichotomy x m with hlt | he | hgt
     · have:=aM (2 ^ E) (show x+1≤m by omega)
       rw [bD,Nat.one_mul] at this
       omega
     · exact he
     · have:=aM (2 ^ E) (show m+1≤x by omega)
       rw [bD,Nat.one_mul] at this
       omega
theorem LitIs.bound {b k n:Nat} (h:LitIs b k n):fd.order b w15=some .lt∧fM b=false∧b<9223372036854775808:=by
 have hb64:b<18446744073709551616:=by
  rw [← h.2.2.2]
  unfold aAw arN
  split
  · rename_i r hr
    have:r<2 ^ 64:=by
     have:=floatBits_wf hr
     simpa [Lit.wf] using this
    unfold toN
    split
    · exact this
    · omega
  · omega
 rcases h.near with ⟨rfl,rfl⟩ | ⟨h0,hn⟩
 · exact ⟨by decide,by decide,by omega⟩
 · obtain ⟨c,E,r1,c1,c2,hE1,hE2,b1,b2⟩:=hn
   have hP:=qQ h.1
   have hnan:fM b=false:=by unfold fM;rw [r1];rfl
   refine ⟨?_,hnan,?_⟩
   · unfold Format.order
     rw [r1,rC]
     simp only [Datum.order]
     congr 1
     rw [Int.min_eq_left (by omega : -(E:Int) ≤ -3),show (-(E:Int) - -(E:Int)).toNat=0 by omega,show (-3 - -(E:Int)).toNat=E - 3 by omega]
     have hX:2 ^ E=8*2 ^ (E - 3):=by
      rw [show (8:Nat)=2 ^ 3 by rfl,← aW];congr 1;omega
     have hc:c<8000000000000000*2 ^ (E - 3):=by
      have hnn:=h.2.2.1
      rw [hX] at b1
      have e2:n*(8*2 ^ (E - 3))≤999999999999999*(8*2 ^ (E - 3)):=aM _ (by omega)
      have e3:c*10≤c*10 ^ k:=Nat.mul_le_mul_left _ hP
      have e4:10 ^ k*1≤10 ^ k*c:=Nat.mul_le_mul_left _ (by omega)
      rw [Nat.mul_comm (10 ^ k) c] at e4
      have hZ:=aR (E - 3)
      generalize n*(8*2 ^ (E - 3))=y at *
      generalize 2 ^ (E - 3)=Z at *
      generalize c*10 ^ k=z at *
      generalize 10 ^ k=P at *
      omega
     unfold signed
     rw [if_neg (by decide),if_neg (by decide),Nat.shiftLeft_zero,Nat.shiftLeft_eq]
     exact Int.compare_eq_lt.2 (by exact Int.ofNat_lt.2 hc)
   · have hcan:=(aCx hb64 r1).1
     unfold Format.word at hcan
     rw [if_neg (by decide)] at hcan
     omega
theorem aOa {b c E k:Nat} (r1:fd.read b = .number false c (-(E:Int))) (c1:4503599627370496≤c) (c2:c<9007199254740992) (hE2:E≤72) (hcP':c*10 ^ k<2 ^ (50+E)) (h1:1≤k) (h6:k≤6):
  ∃ r c' F:Nat,floatBits .mul .f64 b (fX k)=some r∧fd.read r = .number false c' (-(F:Int))∧c'<9007199254740992∧2*(c'*2 ^ E)≤2*(c*10 ^ k*2 ^ F)+2 ^ E:=by
 obtain ⟨J,r2,hJ1,hJ2,m1,m2⟩:=rO h1 h6
 have hP:=qQ h1
 generalize 10 ^ k=P at *
 obtain ⟨N,hN⟩:∃ N,N=c*(P*2 ^ J):=⟨_,rfl⟩
 have lD:floatBits .mul .f64 b (fX k)=some (fd.nearest false N (-(E:Int) + -(J:Int))):=by
  show ((fd.read b).product (fd.read (fX k))).map fd.write=_
  rw [r1,r2,hN]
  rfl
 have hN1:2 ^ 104≤N:=by rw [hN,show (2:Nat) ^ 104=4503599627370496*4503599627370496 by rfl];exact Nat.mul_le_mul c1 m1
 have hN2:N<2 ^ 106:=by rw [hN,show (2:Nat) ^ 106=9007199254740992*9007199254740992 by rfl];exact Nat.mul_lt_mul'' c2 m2
 have hN0:N≠0:=by have:=aR 104;omega
 have hl1:104≤N.log2:=(Nat.le_log2 hN0).2 hN1
 have hl2:N.log2<106:=(Nat.log2_lt hN0).2 hN2
 obtain ⟨d,hd⟩:∃ d,N.log2=52+d:=⟨N.log2 - 52,by omega⟩
 have hd1:52≤d∧d≤53:=by omega
 have hNd1:2 ^ (52+d)≤N:=by rw [← hd];exact Nat.log2_self_le hN0
 have hNd2:N<2 ^ (53+d):=by
  have:N<2 ^ (N.log2+1):=Nat.lt_log2_self
  rw [hd] at this
  rw [show 53+d=52+d+1 by omega]
  exact this
 have hX:=aR E
 have hcP:=hcP'
 have hF:d+3≤E+J:=by
  have e1:N<2 ^ (50+E+J):=by
   rw [hN,← aG,aW _ (50+E)]
   exact Nat.mul_lt_mul_of_pos_right hcP (aR _)
  have e2:(2:Nat) ^ (52+d)<2 ^ (50+E+J):=Nat.lt_of_le_of_lt hNd1 e1
  have:=(Nat.pow_lt_pow_iff_right (a:=2) (by omega)).1 e2
  omega
 obtain ⟨F,hF2⟩:∃ F,F+d=E+J:=⟨E+J - d,by omega⟩
 have hb:=mN (n:=N) (lo:=4503599627370496) (hi:=9007199254740992) (aR d) (by rw [show 4503599627370496=2 ^ 52 by rfl,← aW];exact hNd1) (by rw [show 9007199254740992=2 ^ 53 by rfl,← aW];exact hNd2)
 have hh:=aHu N (aR d)
 obtain ⟨R,hR⟩:∃ R,rnd N (2 ^ d)=R:=⟨_,rfl⟩
 have hread:=nE (N:=N) (d:=d) (R:=R) (place := -(E:Int) + -(J:Int)) (last := -(F:Int)) (by omega) hd hR (by omega) (by omega) (by omega) (by rw [← hR];exact hb.1) (by rw [← hR];exact hb.2)
 rw [hR] at hb hh
 have hJp:=aR J
 have hA:2*(R*2 ^ E)≤2*(c*P*2 ^ F)+2 ^ E∧2*(c*P*2 ^ F)≤2*(R*2 ^ E)+2 ^ E:=by
  have g1:R*2 ^ d*2 ^ F=R*2 ^ E*2 ^ J:=by rw [aG,aG,← aW,← aW,Nat.add_comm d F,hF2]
  have g2:N*2 ^ F=c*P*2 ^ F*2 ^ J:=by rw [hN];generalize 2 ^ J=j;generalize 2 ^ F=f;rw [← aG,aG (c*P),Nat.mul_comm j f,← aG (c*P)]
  have g3:2 ^ d*2 ^ F=2 ^ E*2 ^ J:=by rw [← aW,← aW,Nat.add_comm d F,hF2]
  have k1:=aM (2 ^ F) hh.1
  have k2:=aM (2 ^ F) hh.2
  rw [bD,aG,aG 2 N,g1,g2,g3,← aG,← aG 2 (c*P*2 ^ F),← bD] at k1
  rw [bD,aG,aG 2 (R*2 ^ d),g1,g2,g3,← aG,← aG 2 (R*2 ^ E),← bD] at k2
  exact ⟨Nat.le_of_mul_le_mul_right k1 hJp,Nat.le_of_mul_le_mul_right k2 hJp⟩
 refine ⟨fd.nearest false N (-(E:Int) + -(J:Int)),?_⟩
 by_cases hc:R<9007199254740992
 · rw [if_pos hc] at hread
   exact ⟨R,F,lD,hread,hc,hA.1⟩
 · obtain rfl:R=9007199254740992:=by omega
   rw [if_neg hc] at hread
   obtain ⟨F',rfl⟩:∃ F',F=F'+1:=⟨F - 1,by omega⟩
   refine ⟨4503599627370496,F',lD,?_,by omega,?_⟩
   · rw [hread]
     congr 1
     omega
   · have:=hA.1
     have e:c*P*2 ^ (F'+1)=2*(c*P*2 ^ F'):=by rw [Nat.pow_succ,← aG,Nat.mul_comm 2]
     rw [e] at this
     omega
theorem LitIs.far {b k l m:Nat} (g:LitIs b l m) (h1:1≤k) (hkl:k<l):∃ r V:Nat,floatBits .mul .f64 b (fX k)=some r∧fM r=false∧IsI (flW r) V∧V≤1000000000000000:=by
 have h6:k≤6:=by have:=g.2.1;omega
 rcases g.near with ⟨rfl,rfl⟩ | ⟨g0,gn⟩
 · obtain ⟨r,V,e1,e2,e3,e4⟩:=(show LitIs 0 k 0 from ⟨h1,h6,by omega,aDz h1 h6⟩).floor
   exact ⟨r,V,e1,e2,e3,by omega⟩
 · obtain ⟨c,E,r1,c1,c2,hE1,hE2,b1,b2⟩:=gn
   have hmm:=g.2.2.1
   have hPQ:10 ^ l=10 ^ k*10 ^ (l - k):=by rw [← aW];congr 1;omega
   have hQ:=qQ (k:=l - k) (by omega)
   have hsm:=Near.small (b:=b) c1 hmm b1
   have hX:=aR E
   have hcP:c*10 ^ k*10≤c*10 ^ l:=by
    rw [hPQ,← aG]
    exact Nat.mul_le_mul_left _ hQ
   have e2:m*2 ^ E≤999999999999999*2 ^ E:=aM _ (by omega)
   have hsz:c*10 ^ k<2 ^ (50+E):=by
    rw [aW,show (2:Nat) ^ 50=1125899906842624 by rfl]
    generalize m*2 ^ E=y at *
    generalize c*10 ^ k=z at *
    generalize c*10 ^ l=z' at *
    generalize 10 ^ l=P at *
    generalize 2 ^ E=X at *
    omega
   obtain ⟨r,c',F,hr,hread,hc',hA⟩:=aOa r1 c1 c2 hE2 hsz h1 h6
   have hY:=aR F
   have hV:c' / 2 ^ F≤1000000000000000:=by
    rcases aY 1000000000000000 (c' / 2 ^ F) with hlt | hge
    · exfalso
      have h3:1000000000000001*2 ^ F≤c':=(Nat.le_div_iff_mul_le hY).1 hlt
      have h4:=aM (2 ^ E) h3
      have h5:c*10 ^ k*2 ^ F*10≤(m*2 ^ E+10 ^ l)*2 ^ F:=by
       rw [Nat.mul_right_comm]
       refine aM _ ?_
       omega
      have h6:=aM (2 ^ F) e2
      have h7:=aM (2 ^ F) hsm
      rw [bD] at h5
      rw [aG 1000000000000001] at h4
      have hYX:2 ^ E*1≤2 ^ E*2 ^ F:=Nat.mul_le_mul_left _ hY
      rw [Nat.mul_right_comm,aG 2000000000000000] at h7
      rw [Nat.mul_comm (2 ^ F) (2 ^ E)] at h4
      rw [aG 999999999999999] at h6
      generalize c'*2 ^ E=u at *
      generalize c*10 ^ k*2 ^ F=z at *
      generalize 10 ^ l*2 ^ F=p at *
      generalize m*2 ^ E*2 ^ F=y at *
      generalize 2 ^ E*2 ^ F=t at *
      generalize 2 ^ E=X at *
      omega
    · exact hge
   refine ⟨r,c' / 2 ^ F,hr,by unfold fM;rw [hread];rfl,?_,hV⟩
   rcases uX hread with ⟨_,h3⟩ | ⟨h3,_⟩
   · rw [aDo] at h3;exact h3
   · rw [aDo] at h3;omega
theorem aDc {mag:Nat} {place:Int} (h:mag=0∨place+mag.log2≤900):∃ K last,fd.read (fd.nearest false mag place) = .number false K last:=by
 by_cases h0:mag=0
 · subst h0
   exact ⟨0,-1074,xE false place⟩
 · have h:=h.resolve_left h0
   unfold Format.nearest
   rw [if_neg h0,pJ,aLh]
   obtain ⟨last,hlast⟩:∃ last,last=max (place+(mag.log2:Int) - (52:Nat)) (-1074):=⟨_,rfl⟩
   simp only
   rw [← hlast,aAu,Nat.shiftLeft_eq]
   have hml:mag<2 ^ (mag.log2+1):=Nat.lt_log2_self
   have hk:rnd (mag*2 ^ (place - last).toNat) (2 ^ (last - place).toNat)≤9007199254740992:=by
    refine (mN (lo:=0) (aR _) (by omega) ?_).2
    have e1:mag*2 ^ (place - last).toNat<2 ^ (mag.log2+1)*2 ^ (place - last).toNat:=Nat.mul_lt_mul_of_pos_right hml (aR _)
    refine aE e1 ?_
    rw [show 9007199254740992=2 ^ 53 by rfl,← aW,← aW]
    exact bP (by omega) (by omega)
   generalize rnd (mag*2 ^ (place - last).toNat) (2 ^ (last - place).toNat)=R at *
   obtain ⟨q,hq⟩:∃ q:Nat,q=(last - -1074).toNat:=⟨_,rfl⟩
   rw [← hq,lN,kR,Nat.min_eq_left (by omega)]
   have e0:fd.word false (q*4503599627370496+R)=q*4503599627370496+R:=by unfold Format.word;rw [if_neg (by decide)]
   rw [e0]
   have e2:((q*4503599627370496+R) / 9223372036854775808 % 2==1)=false:=by
    rw [show (q*4503599627370496+R) / 9223372036854775808 % 2=0 by omega];rfl
   unfold Format.read
   simp only [mQ,lN,kR,pJ]
   rw [e2,Nat.mod_eq_of_lt (by omega:q*4503599627370496+R<9223372036854775808)]
   split
   · exact ⟨_,_,rfl⟩
   · rw [if_pos (by omega)]
     exact ⟨_,_,rfl⟩
theorem aQq {b k c:Nat} {i:Int} (hr:fd.read b = .number false c i) (hlt:fd.order b w15=some .lt) (h1:1≤k) (h6:k≤6):
  ∃ r c' e',floatBits .mul .f64 b (fX k)=some r∧fd.read r = .number false c' e':=by
 obtain ⟨J,r2,hJ1,hJ2,m1,m2⟩:=rO h1 h6
 have lD:floatBits .mul .f64 b (fX k)=some (fd.nearest false (c*(10 ^ k*2 ^ J)) (i + -(J:Int))):=by
  show ((fd.read b).product (fd.read (fX k))).map fd.write=_
  rw [hr,r2]
  rfl
 have hn:=rB hr
 have hnum:c*(10 ^ k*2 ^ J)=0∨i + -(J:Int)+(c*(10 ^ k*2 ^ J)).log2≤900:=by
  rcases bM c with h0 | h0
  · left;rw [h0,Nat.zero_mul]
  · right
    have hci:i≤53:=by
     rcases Int.lt_or_le 53 i with h | h
     · exfalso
       unfold Format.order at hlt
       rw [hr,rC] at hlt
       simp only [Datum.order,Option.some.injEq] at hlt
       rw [Int.min_eq_right (by omega:(-3:Int)≤i),Int.compare_eq_lt,show (-3 - -3:Int).toNat=0 by omega] at hlt
       unfold signed at hlt
       rw [if_neg (by decide),if_neg (by decide),Nat.shiftLeft_eq,Nat.shiftLeft_zero] at hlt
       have e1:1*2 ^ 56≤c*2 ^ (i - -3).toNat:=Nat.mul_le_mul h0 (bP (by omega) (by omega))
       have e2:(2:Nat) ^ 56=72057594037927936:=by decide
       omega
     · exact h
    have hlog:(c*(10 ^ k*2 ^ J)).log2<106:=(Nat.log2_lt (Nat.ne_of_gt (Nat.mul_pos h0 (by omega)))).2 (by
     rw [show (2:Nat) ^ 106=9007199254740992*9007199254740992 by rfl]
     exact Nat.mul_lt_mul'' hn.1 m2)
    omega
 obtain ⟨K,last,h⟩:=aDc hnum
 exact ⟨_,K,last,lD,h⟩
end Go.As
end
section
namespace Go.As
open Go Ieee
def eR (c:UInt8):Bool:=decide (48≤c.toNat∧c.toNat≤57)
def cG (l:List UInt8):Nat:=l.foldl (fun n c=>10*n+(c.toNat - 48)) 0
def rpW (s:List UInt8):List UInt8:=(Lib.cut s [46]).1
def rpP (s:List UInt8):List UInt8:=(Lib.cut s [46]).2.1
def rpO (s:List UInt8):Bool:=(Lib.cut s [46]).2.2
def fU (o:Bool) (x p:List UInt8):Bool:=decide (o=true∧x≠[]∧p≠[]∧p.length≤6∧x.length+p.length≤15∧¬ (x.head?=some 48∧x≠[48]))
def lE (s:List UInt8):Bool:=fU (rpO s) (rpW s) (rpP s)&&(rpW s++rpP s).all eR
def rpB (s:List UInt8):Nat:=if lE s=true then arN .quo (floatOfInt .f64 (cG (rpW s++rpP s))) (fX (rpP s).length) else 0
def rpF (s:List UInt8):Int:=if lE s=true then 0 else 4
theorem aCm {s:List UInt8} (h:lE s=false):rpB s=0∧rpF s=4:=by unfold rpB rpF;rw [h];exact ⟨rfl,rfl⟩
theorem iU (l:List UInt8) (c:UInt8):cG (l++[c])=10*cG l+(c.toNat - 48):=by unfold cG;rw [List.foldl_append];rfl
theorem aT6 (s:List UInt8):(Lib.cut s [46]).1.length≤s.length:=by
 unfold Lib.cut
 split
 · simp only [aT];omega
 · simp
theorem j6 {c:UInt8} (h:eR c=true):48≤c.toNat∧c.toNat≤57:=by unfold eR at h;exact of_decide_eq_true h
theorem aJ1:∀ (l:List UInt8),l.all eR=true→cG l<10 ^ l.length:=by
 have key:∀ (l:List UInt8) (a n:Nat),a<10 ^ n→l.all eR=true→l.foldl (fun n c=>10*n+(c.toNat - 48)) a<10 ^ (n+l.length):=by
  intro l
  induction l with
  | nil=>intro a n h _;simpa using h
  | cons c r ih=>
    intro a n h hd
    rw [List.all_cons,aI] at hd
    have hc:=j6 hd.1
    rw [List.foldl_cons,aB,show n+(r.length+1)=(n+1)+r.length by omega]
    exact ih _ _ (by rw [Nat.pow_succ];omega) hd.2
 intro l h
 have:=key l 0 0 (by simp) h
 unfold cG
 simpa using this
theorem o9:∀ (X P:List UInt8),(46:UInt8) ∉ X→Lib.indexByte (X++46::P) 46=(X.length:Nat)
 | [],P,_=>by simp [Lib.indexByte]
 | c::X,P,h=>by
   have hc:(c==46)=false:=by simp;intro e;exact h (by simp [e])
   have ih:=o9 X P (fun e=>h (by simp [e]))
   rw [bO,Lib.indexByte,hc,if_neg (by decide),ih]
   have:(((X.length:Nat):Int) == -1)=false:=beq_false_of_ne (by omega)
   rw [this,if_neg (by decide)]
   simp
theorem nR:∀ (s:List UInt8),(46:UInt8) ∉ s→Lib.indexByte s 46 = -1
 | [],_=>rfl
 | c::s,h=>by
   have hc:(c==46)=false:=by simp;intro e;exact h (by simp [e])
   rw [Lib.indexByte,hc,if_neg (by decide),nR s (fun e=>h (by simp [e]))]
   rfl
theorem aDl {X P:List UInt8} (h:(46:UInt8) ∉ X):Lib.cut (X++46::P) [46]=(X,P,true):=by
 unfold Lib.cut
 rw [Lib.index_one,o9 X P h,if_pos (by omega)]
 simp
theorem aM9 {s:List UInt8} (h:(46:UInt8) ∉ s):Lib.cut s [46]=(s,[],false):=by
 unfold Lib.cut
 rw [Lib.index_one,nR s h,if_neg (by decide)]
theorem xY:∀ (s:List UInt8),((46:UInt8) ∉ s)∨∃ X P,s=X++46::P∧(46:UInt8) ∉ X
 | [] => .inl (by simp)
 | c::s=>by
   by_cases hc:c=46
   · exact .inr ⟨[],s,by simp [hc],by simp⟩
   · rcases xY s with h | ⟨X,P,h1,h2⟩
     · exact .inl (fun e=>by rcases bJ e with e | e;exact hc e.symm;exact h e)
     · exact .inr ⟨c::X,P,by simp [h1],fun e=>by rcases bJ e with e | e;exact hc e.symm;exact h2 e⟩
theorem aP4 {s:List UInt8} (h:rpO s=true):s=rpW s++46::rpP s∧(46:UInt8) ∉ rpW s:=by
 rcases xY s with h1 | ⟨X,P,h1,h2⟩
 · unfold rpO at h;rw [aM9 h1] at h;cases h
 · have:rpW s=X∧rpP s=P:=by unfold rpW rpP;rw [h1,aDl h2];exact ⟨rfl,rfl⟩
   rw [this.1,this.2]
   exact ⟨h1,h2⟩
def xN (d:Nat):UInt8:=UInt8.ofNat (48+d)
theorem nG {d:Nat} (h:d<10):(xN d).toNat=48+d:=by unfold xN;rw [UInt8.toNat_ofNat'];omega
theorem wH {d:Nat} (h:d<10):eR (xN d)=true:=by unfold eR;rw [nG h];exact decide_eq_true (by omega)
theorem aDq {c:UInt8} (h:eR c=true):xN (c.toNat - 48)=c:=by
 have hc:=j6 h
 apply UInt8.toNat_inj.1
 rw [nG (by omega)]
 omega
def dgw:Nat→Nat→List UInt8
 | 0,_=>[]
 | w+1,n=>dgw w (n / 10)++[xN (n % 10)]
theorem f8:∀ (w n:Nat),(dgw w n).length=w
 | 0,n=>rfl
 | w+1,n=>by rw [dgw,aA,f8];rfl
theorem aC5:∀ (w n:Nat),(dgw w n).all eR=true
 | 0,n=>rfl
 | w+1,n=>by rw [dgw,List.all_append,aC5 w];simp [wH (Nat.mod_lt n (by decide:10 > 0))]
theorem aGw (X:List UInt8):∀ (w n:Nat),cG (X++dgw w n)=cG X*10 ^ w+n % 10 ^ w
 | 0,n=>by simp [dgw,Nat.mod_one]
 | w+1,n=>by
   rw [dgw,← aK,iU,aGw X w (n / 10),nG (Nat.mod_lt n (by decide:10 > 0)),Nat.pow_succ]
   have h1:=Nat.mod_mul (a:=10) (b:=10 ^ w) (x:=n)
   rw [Nat.mul_comm (10 ^ w) 10,h1]
   generalize cG X=v at *
   generalize (n / 10) % 10 ^ w=z at *
   rw [Nat.mul_left_comm]
   generalize v*10 ^ w=u at *
   omega
theorem eS {n:Nat} (h:n<10):Lib.decDigits n=[xN n]:=by rw [Lib.decDigits,dif_pos h];rfl
theorem j8 {n:Nat} (h:¬ n<10):Lib.decDigits n=Lib.decDigits (n / 10)++[xN (n % 10)]:=by rw [Lib.decDigits,dif_neg h];rfl
theorem fW (n:Nat):(Lib.decDigits n).all eR=true:=by
 induction n using Nat.strongRecOn with
 | _ n ih=>
   by_cases h:n<10
   · rw [eS h];simp [wH h]
   · rw [j8 h,List.all_append,ih (n / 10) (by omega)];simp [wH (Nat.mod_lt n (by decide:10 > 0))]
theorem tR (n:Nat):cG (Lib.decDigits n)=n:=by
 induction n using Nat.strongRecOn with
 | _ n ih=>
   by_cases h:n<10
   · rw [eS h]
     have:=iU [] (xN n)
     rw [bR,nG h] at this
     rw [this]
     simp [cG]
   · rw [j8 h,iU,ih (n / 10) (by omega),nG (Nat.mod_lt n (by decide:10 > 0))]
     omega
theorem iH (n:Nat):Lib.decDigits n≠[]:=by
 intro h
 have:=Lib.decDigits_length n
 rw [h] at this
 have:=Lib.nDigits_pos n
 simp at *
 omega
theorem tN {n:Nat} (h0:0<n):(Lib.decDigits n).head?≠some 48:=by
 induction n using Nat.strongRecOn with
 | _ n ih=>
   by_cases h:n<10
   · rw [eS h]
     simp only [List.head?_cons]
     intro e
     injection e with e
     have:=congrArg UInt8.toNat e
     rw [nG h] at this
     simp at this
     omega
   · rw [j8 h,List.head?_append,Option.or_of_isSome]
     · exact ih (n / 10) (by omega) (by omega)
     · cases hd:Lib.decDigits (n / 10) with
       | nil=>exact absurd hd (iH _)
       | cons a l=>rfl
theorem aQv {l:List UInt8} (h:l.all eR=true):(46:UInt8) ∉ l:=by
 intro hm
 have:=bE h 46 hm
 revert this
 decide
theorem aRo:∀ {l:List UInt8},l≠[]→l.all eR=true→l.head?≠some 48→0<cG l:=by
 have key:∀ (l:List UInt8) (a:Nat),0<a→0<l.foldl (fun n (c:UInt8)=>10*n+(c.toNat - 48)) a:=by
  intro l
  induction l with
  | nil=>intro a h;exact h
  | cons c r ih=>intro a h;exact ih (10*a+(c.toNat - 48)) (by omega)
 intro l h1 h2 h3
 cases l with
 | nil=>exact absurd rfl h1
 | cons c r=>
   rw [List.all_cons,aI] at h2
   have hc:=j6 h2.1
   have:c.toNat≠48:=fun e=>h3 (by simp;exact UInt8.toNat_inj.1 e)
   exact key r (10*0+(c.toNat - 48)) (by omega)
theorem vZ:∀ (m:Nat) {l:List UInt8},l.length=m→l≠[]→l.all eR=true→(l.head?≠some 48∨l=[48])→Lib.decDigits (cG l)=l
 | 0,l,hl,h1,_,_=>absurd (aF hl) h1
 | m+1,l,hl,h1,h2,h3=>by
   obtain ⟨l',c,rfl⟩:∃ l' c,l=l'++[c]:=⟨l.dropLast,l.getLast h1,(List.dropLast_concat_getLast h1).symm⟩
   rw [List.all_append,aI] at h2
   have hc:eR c=true:=by simpa using h2.2
   have hcv:=j6 hc
   rw [iU]
   by_cases hn:l'=[]
   · subst hn
     rw [show 10*cG []+(c.toNat - 48)=c.toNat - 48 by simp [cG],eS (by omega),aDq hc]
     rfl
   · have hh:l'.head?≠some 48:=by
      rcases h3 with h3 | h3
      · intro e;apply h3
        rw [List.head?_append,e];rfl
      · exfalso
        have:=congrArg List.length h3
        simp at this
        exact hn this
     have hp:=aRo hn h2.1 hh
     rw [j8 (by omega),show (10*cG l'+(c.toNat - 48)) / 10=cG l' by omega,show (10*cG l'+(c.toNat - 48)) % 10=c.toNat - 48 by omega,aDq hc,
      vZ m (by simp at hl;exact hl) hn h2.1 (.inl hh)]
theorem aB0 (X:List UInt8):∀ (w:Nat) {P:List UInt8},P.length=w→P.all eR=true→cG (X++P) / 10 ^ w=cG X∧dgw w (cG (X++P))=P
 | 0,P,hl,_=>by
   obtain rfl:=aF hl
   simp [dgw]
 | w+1,P,hl,h2=>by
   have h1:P≠[]:=fun e=>by rw [e] at hl;simp at hl
   obtain ⟨P',c,rfl⟩:∃ P' c,P=P'++[c]:=⟨P.dropLast,P.getLast h1,(List.dropLast_concat_getLast h1).symm⟩
   rw [List.all_append,aI] at h2
   have hc:eR c=true:=by simpa using h2.2
   have hcv:=j6 hc
   have ih:=aB0 X w (P:=P') (by simp at hl;exact hl) h2.1
   rw [← aK,iU,Nat.pow_succ,Nat.mul_comm (10 ^ w) 10,← Nat.div_div_eq_div_mul,show (10*cG (X++P')+(c.toNat - 48)) / 10=cG (X++P') by omega]
   refine ⟨ih.1,?_⟩
   rw [dgw,show (10*cG (X++P')+(c.toNat - 48)) / 10=cG (X++P') by omega,show (10*cG (X++P')+(c.toNat - 48)) % 10=c.toNat - 48 by omega,aDq hc,ih.2]
def fE (n k:Nat):List UInt8:=Lib.decDigits (n / 10 ^ k)++46::dgw k n
theorem uU {n w:Nat} (h:n<10 ^ (w+1)):Lib.nDigits n≤w+1:=by
 induction w generalizing n with
 | zero=>rw [Lib.nDigits_small (by simpa using h)];omega
 | succ w ih=>
   by_cases h1:n<10
   · rw [Lib.nDigits_small h1];omega
   · rw [Lib.nDigits_big h1]
     have:=ih (n:=n / 10) (by rw [Nat.pow_succ] at h;omega)
     omega
theorem aDm (n k:Nat):Lib.cut (fE n k) [46]=(Lib.decDigits (n / 10 ^ k),dgw k n,true):=aDl (aQv (fW _))
theorem aTd (n k:Nat):cG (Lib.decDigits (n / 10 ^ k)++dgw k n)=n:=by
 rw [aGw,tR]
 have:=Nat.div_add_mod n (10 ^ k)
 rw [Nat.mul_comm]
 exact this
theorem aG7 {n k:Nat} (hn:n<1000000000000000) (h1:1≤k) (h6:k≤6):lE (fE n k)=true:=by
 unfold lE rpO rpW rpP
 rw [aDm,List.all_append,fW,aC5]
 have hd:Lib.nDigits (n / 10 ^ k)≤14 - k+1:=uU ((Nat.div_lt_iff_lt_mul (Nat.pos_of_ne_zero (by simp))).2 (by
  rw [← aW,show 14 - k+1+k=15 by omega];exact hn))
 have:fU true (Lib.decDigits (n / 10 ^ k)) (dgw k n)=true:=by
  unfold fU
  refine decide_eq_true ⟨rfl,iH _,?_,by rw [f8];exact h6,by rw [Lib.decDigits_length,f8];omega,?_⟩
  · intro e
    have:=f8 k n
    rw [e] at this
    simp at this
    omega
  · rintro ⟨e1,e2⟩
    rcases bM (n / 10 ^ k) with h0 | h0
    · rw [h0,eS (by omega)] at e2
      exact e2 rfl
    · exact tN h0 e1
 rw [this];rfl
theorem sG {n k:Nat} (hn:n<1000000000000000) (h1:1≤k) (h6:k≤6):rpB (fE n k)=aAw n k∧rpF (fE n k)=0:=by
 unfold rpB rpF
 rw [if_pos (aG7 hn h1 h6),if_pos (aG7 hn h1 h6)]
 unfold rpW rpP
 rw [aDm]
 simp only [aTd,f8]
 exact ⟨rfl,trivial⟩
theorem aTh {n k:Nat} (hn:1000000000000000≤n) (h6:k≤6):rpB (fE n k)=0∧rpF (fE n k)=4:=by
 apply aCm
 unfold lE rpO rpW rpP
 rw [aDm,Bool.and_eq_false_iff]
 left
 unfold fU
 refine decide_eq_false (fun h=>?_)
 have h5:=h.2.2.2.2.1
 rw [Lib.decDigits_length,f8] at h5
 have:=Lib.lt_pow_nDigits (n / 10 ^ k)
 have h7:n<10 ^ (Lib.nDigits (n / 10 ^ k)+k):=by
  rw [aW]
  exact (Nat.div_lt_iff_lt_mul (Nat.pos_of_ne_zero (by simp))).1 this
 have h8:10 ^ (Lib.nDigits (n / 10 ^ k)+k)≤10 ^ 15:=bP (by omega) h5
 have:(10:Nat) ^ 15=1000000000000000:=by decide
 omega
theorem aUf {s:List UInt8} (h:lE s=true):∃ n k,s=fE n k∧n<1000000000000000∧1≤k∧k≤6∧rpB s=aAw n k:=by
 have h0:=h
 unfold lE at h
 rw [aI] at h
 obtain ⟨h1,h2⟩:=h
 unfold fU at h1
 obtain ⟨o1,o2,o3,o4,o5,o6⟩:=of_decide_eq_true h1
 obtain ⟨hp,hnp⟩:=aP4 o1
 have ha:=h2
 rw [List.all_append,aI] at h2
 have hs:=aB0 (rpW s) (rpP s).length rfl h2.2
 have hX:=vZ (rpW s).length rfl o2 h2.1 (by
  by_cases e:(rpW s).head?=some 48
  · right
    exact Classical.byContradiction fun e2=>o6 ⟨e,e2⟩
  · exact .inl e)
 have hk1:1≤(rpP s).length:=by
  rcases bM (rpP s).length with e | e
  · exact absurd (aF e) o3
  · exact e
 have hlt:=aJ1 _ ha
 rw [aA] at hlt
 have hn:cG (rpW s++rpP s)<1000000000000000:=aE hlt (by
  have:=bP (n:=10) (by omega) o5
  exact this)
 refine ⟨cG (rpW s++rpP s),(rpP s).length,?_,hn,hk1,o4,?_⟩
 · unfold fE
   rw [hs.1,hs.2,hX]
   exact hp
 · unfold rpB
   rw [if_pos h0]
   rfl
theorem k5 (n k:Nat):(fE n k).length=Lib.nDigits (n / 10 ^ k)+1+k:=by
 unfold fE
 rw [aA,aB,Lib.decDigits_length,f8]
 omega
theorem aJm:∀ (k n:Nat),List.replicate (k+1 - Lib.nDigits n) 48++Lib.decDigits n=Lib.decDigits (n / 10 ^ k)++dgw k n
 | 0,n=>by
   have:=Lib.nDigits_pos n
   rw [show 0+1 - Lib.nDigits n=0 by omega]
   simp [dgw]
 | k+1,n=>by
   rw [dgw,← aK,Nat.pow_succ,Nat.mul_comm (10 ^ k) 10,← Nat.div_div_eq_div_mul,← aJm k (n / 10)]
   by_cases h:n<10
   · rw [Lib.nDigits_small h,eS h,show n / 10=0 by omega,Lib.nDigits_small (by omega),eS (by omega),Nat.mod_eq_of_lt h,show k+1+1 - 1=k+1 by omega,show k+1 - 1=k by omega,List.replicate_succ']
     rfl
   · rw [Lib.nDigits_big h,j8 h,show k+1+1 - (Lib.nDigits (n / 10)+1)=k+1 - Lib.nDigits (n / 10) by omega,aK]
end Go.As
end
section
namespace Go.As
open Go Go.RowKit
def byt (l:List UInt8):List Value:=l.map fun b=>Value.int .u8 b.toNat
theorem aSt {l:List UInt8} {k:Nat} {u:Value} (h:(byt l)[k]?=some u):∃ x,l[k]?=some x∧u = .int .u8 x.toNat:=by
 simp only [byt,List.getElem?_map,Option.map_eq_some_iff] at h
 obtain ⟨x,hx,rfl⟩:=h
 exact ⟨x,hx,rfl⟩
theorem aSw (l:List UInt8):Lib.strCells (str l)=byt l:=by simp [Lib.strCells,byt,str]
section
variable {P:Program} {w:World}
theorem aI7 (base:Nat) (t u ty e:TypeId) (ht:P.underlying t=some (.slice e)) (hu:P.underlying u=some .string)
  (hinf:(P.info? e).map (fun i=>(i.zero,i.size,i.bytes))=some (some (.int .u8 0),1,1))
  (v:Value) (n:Nat) (xs:List Value) (hown:w.ownsRow base e 1 v n xs) (l:List UInt8)
  (hbytes:n+l.length≤140737488355328) (hbase:base≤w.heap.size):
  ∃ v' w',(Builtin.append_ #[t,u] ty #[v,.string (str l)]).run P w = .ok v' w'∧w'.ownsRow base e 1 v' (n+l.length) (xs++byt l)∧w.grownBy w' v.ownBlock∧yI w v v':=by
 obtain ⟨i,hi,hz,hs,hb⟩:=info_parts hinf
 have hsz:=str_size l
 have h63:n+(str l).size≤maxLen:=by simp only [maxLen];omega
 obtain ⟨v',w',hr,h2,h3,-⟩:=Lib.run_append_own_string (P:=P) w base t u ty e i ht hu hi hz hs hb v n xs hown (str l) h63 (by omega) hbase
 rw [hsz,aSw] at h2
 refine ⟨v',w',hr,h2,h3,?_⟩
 rcases hown.2 with ⟨rfl,rfl⟩ | ⟨g,cap,cur,rfl,hbg,hg,hnc,hcm,hcs,htake⟩
 · obtain ⟨v2,w2,hr2,h4,-,-⟩:=Lib.run_append_own_string (P:=P) w w.heap.size t u ty e i ht hu hi hz hs hb _ 0 [] (World.ownsRow_nil _ _ _ _) (str l) (by omega) (by omega) (aH _)
   rw [hr] at hr2
   injection hr2 with hv _
   subst hv
   exact fun k hk => .inr (h4.lt k hk).1
 · by_cases hroom:n+(str l).size≤cap
   · have hr2:=Lib.run_append_room_string (P:=P) w t u ty e i ht hu hi hs g n cap cur hg (str l) hroom (by have:=hcs;simp at this;omega)
     rw [hr] at hr2
     injection hr2 with hv _
     subst hv
     exact fun k hk => .inl hk
   · have hxl:xs.length=n:=by simpa using hown.1
     have holds:∀ j u,xs[j]?=some u→w.cell? ((⟨g,0,none⟩:Addr).add j)=some u:=hown.cells (g:=g) rfl
     have hr2:=Lib.run_append_grow_string (P:=P) w t u ty e i (.int .u8 0) ht hu hi hz ⟨g,0,none⟩ n cap xs (by rw [hs];simpa using hxl) holds (str l) (by omega) (by omega) (by rw [hb];exact growslice_fits (by omega) (by omega))
     rw [hr] at hr2
     injection hr2 with hv _
     subst hv
     intro k hk
     simp [Value.ownBlock] at hk
     exact .inr (by omega)
section
variable {ops:Array Oper} {rest:List Oper} {o:Oper} {a:Act} {Q:Exit→Act→World→Prop}
end
end
end Go.As
end
section
namespace Go.As
open Go Go.RowKit
section
variable {w:World} {e:TypeId} {l:List UInt8}
theorem aAk (w:World) (e:TypeId) (l:List UInt8):Below w.heap.size w (Lib.bytesWorld w e (str l)):=
 ⟨rfl,rfl,rfl,by rw [Lib.bytesWorld_size];omega,fun j hj=>Lib.bytesWorld_at_old w e (str l) j hj⟩
theorem aVq (w:World) (e:TypeId) (l:List UInt8):Sl (Lib.bytesWorld w e (str l)) 1 (some ⟨w.heap.size,0,none⟩) l.length (byt l):=by
 refine ⟨by simp [byt],fun _=>⟨_,rfl,by rw [Lib.bytesWorld_size];exact Nat.lt_succ_self _,fun j u hu=>?_⟩⟩
 obtain ⟨x,hx,rfl⟩:=aSt hu
 have hj:j<l.length:=(List.getElem?_eq_some_iff.1 hx).1
 have:(⟨w.heap.size,0,none⟩:Addr).add j=⟨w.heap.size,j,none⟩:=by unfold Addr.add;split <;> simp_all
 rw [this,Lib.bytesWorld_cell w e (str l) j (by rw [str_size];exact hj),aF8]
 simp [hx]
theorem aGb (w:World) (e:TypeId) (l:List UInt8) (n:Nat) (h:l.length=n):Sl (Lib.bytesWorld w e (str l)) 1 (some ⟨w.heap.size,0,none⟩) n (byt l):=by
 rw [← h];exact aVq w e l
end
end Go.As
end
section
namespace Go.Proofs
open Go.Shelf
def Tryz.lays219_ren:Go.Shelf.Ren:=⟨fun | 219=>146 | 217=>155 | 225=>156 | 224=>157 | 267=>158 | 266=>162 | 314=>163 | n=>n,fun | 9=>9 | 3=>3 | 4=>4 | 5=>5 | 46=>145 | 146=>175 | 51=>174 | n=>n,fun | 1=>2 | n=>n⟩
theorem Tryz.lays219:Go.Proofs.Lays.n219 Tryz.prog Tryz.lays219_ren:={
 mixed:=by kernel_rfl
 f217:=Tryz.func155.trans (congrArg some (by kernel_rfl))
 f219:=Tryz.func146.trans (congrArg some (by kernel_rfl))
 f224:=Tryz.func157.trans (congrArg some (by kernel_rfl))
 f225:=Tryz.func156.trans (congrArg some (by kernel_rfl))
 f266:=Tryz.func162.trans (congrArg some (by kernel_rfl))
 f267:=Tryz.func158.trans (congrArg some (by kernel_rfl))
 f314:=Tryz.func163.trans (congrArg some (by kernel_rfl))
 t3:=Tryz.underlying3
 a3:=Tryz.isAgg3
 z3:=Tryz.sizeOf3
 v3:=Tryz.zeroValue3
 t4:=Tryz.underlying4
 a4:=Tryz.isAgg4
 z4:=Tryz.sizeOf4
 v4:=Tryz.zeroValue4
 t5:=Tryz.underlying5
 a5:=Tryz.isAgg5
 z5:=Tryz.sizeOf5
 v5:=Tryz.zeroValue5
 t9:=Tryz.underlying9
 a9:=Tryz.isAgg9
 z9:=Tryz.sizeOf9
 v9:=Tryz.zeroValue9
 t46:=Tryz.underlying145
 a46:=Tryz.isAgg145
 z46:=Tryz.sizeOf145
 v46:=Tryz.zeroValue145
 t51:=Tryz.underlying174
 a51:=Tryz.isAgg174
 z51:=Tryz.sizeOf174
 v51:=Tryz.zeroValue174
 t146:=Tryz.underlying175
 a146:=Tryz.isAgg175
 z146:=Tryz.sizeOf175
 v146:=Tryz.zeroValue175
 g1:=by kernel_rfl }
open Go.RowKit Go.Lib in
theorem Tryz.stringslite_Index_one (s:ByteArray) (c:UInt8) (w:World):
 Calls Tryz.prog 146 #[.string s,.string ⟨#[c]⟩] w fun e w'=>e = .returned (.int .i64 (Lib.indexByte s.data.toList c))∧w'=w:=Any.stringslite_Index_one Tryz.lays219 s c w
end Go.Proofs
end
