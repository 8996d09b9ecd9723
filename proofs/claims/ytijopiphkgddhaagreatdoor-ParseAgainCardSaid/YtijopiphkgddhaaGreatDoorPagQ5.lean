/- Texts of this proof, one behind the other. Conditions: those in each theorem. -/
import Derived.Test.YtijopiphkgddhaaGreatDoorPagQ1
import Derived.Recover
import Derived.Orders
import Derived.Deep.MidRow
import Derived.Maps.AppendAt
import Derived.Below
import Derived.ProofKit
import Derived.Laws.Tables
import Derived.Great.BuildSlice
import Derived.Laws.MakeOwn
set_option linter.unusedVariables false
set_option linter.unusedSimpArgs false
section
namespace Go.Sy
open Go
inductive Tr (α:Type) where
 | leaf
 | node (x:Option α) (l r:Tr α)
namespace Tr
variable {α:Type}
def get0:Tr α→Nat→Option α
 | .leaf,_=>none
 | .node x l r,k=>match k with
   | 0=>x
   | k+1=>match Nat.beq (Nat.mod k 2) 0 with
     | true=>l.get0 (Nat.div k 2)
     | false=>r.get0 (Nat.div k 2)
def m4 (v:Option α):Nat→Tr α→Nat→Tr α
 | 0,t,_=>t
 | f+1,t,k=>match t with
   | .leaf=>(match k with
     | 0 => .node v .leaf .leaf
     | k+1=>match Nat.beq (Nat.mod k 2) 0 with
       | true => .node none (m4 v f .leaf (Nat.div k 2)) .leaf
       | false => .node none .leaf (m4 v f .leaf (Nat.div k 2)))
   | .node x l r=>(match k with
     | 0 => .node v l r
     | k+1=>match Nat.beq (Nat.mod k 2) 0 with
       | true => .node x (m4 v f l (Nat.div k 2)) r
       | false => .node x l (m4 v f r (Nat.div k 2)))
theorem aH4 {k j:Nat} (h:Nat.beq (Nat.mod k 2) 0=Nat.beq (Nat.mod j 2) 0) (h2:Nat.div k 2=Nat.div j 2):k=j:=by
 have e1:Nat.mod k 2=k % 2:=rfl
 have e2:Nat.mod j 2=j % 2:=rfl
 have e3:Nat.div k 2=k / 2:=rfl
 have e4:Nat.div j 2=j / 2:=rfl
 rw [e1,e2] at h
 rw [e3,e4] at h2
 rcases Nat.mod_two_eq_zero_or_one k with a | a <;> rcases Nat.mod_two_eq_zero_or_one j with b | b <;> rw [a,b] at h <;> simp at h <;> omega
theorem aNt (v:Option α):∀ (f:Nat) (t:Tr α) (k j:Nat),k<f→(m4 v f t k).get0 j=if j=k then v else t.get0 j:=by
 intro f
 induction f with
 | zero=>intro t k j h;omega
 | succ f ih=>
   intro t k j hk
   cases k with
   | zero=>
     cases t with
     | leaf=>
       cases j with
       | zero=>rfl
       | succ j=>
         rw [if_neg (by omega)]
         simp only [m4,get0]
         split <;> rfl
     | node x l r=>
       cases j with
       | zero=>rfl
       | succ j=>
         rw [if_neg (by omega)]
         simp only [m4,get0]
   | succ k=>
     have hd:Nat.div k 2<f:=by
      have:Nat.div k 2=k / 2:=rfl
      omega
     have key:∀ (x:Option α) (l r:Tr α),(match Nat.beq (Nat.mod k 2) 0 with
       | true=>Tr.node x (m4 v f l (Nat.div k 2)) r
       | false=>Tr.node x l (m4 v f r (Nat.div k 2))).get0 j=if j=k+1 then v else (Tr.node x l r).get0 j:=by
      intro x l r
      cases j with
      | zero=>
        rw [if_neg (by omega)]
        cases Nat.beq (Nat.mod k 2) 0 <;> rfl
      | succ j=>
        cases hkb:Nat.beq (Nat.mod k 2) 0 <;> cases hjb:Nat.beq (Nat.mod j 2) 0
        · simp only [get0,hjb]
          rw [ih r _ _ hd]
          by_cases e:Nat.div j 2=Nat.div k 2
          · have:=aH4 (hjb.trans hkb.symm) e
            rw [if_pos e,if_pos (by omega)]
          · rw [if_neg e,if_neg (fun h=>e (by rw [show j=k by omega]))]
        · simp only [get0,hjb]
          rw [if_neg (fun h=>by rw [show j=k by omega,hkb] at hjb;cases hjb)]
        · simp only [get0,hjb]
          rw [if_neg (fun h=>by rw [show j=k by omega,hkb] at hjb;cases hjb)]
        · simp only [get0,hjb]
          rw [ih l _ _ hd]
          by_cases e:Nat.div j 2=Nat.div k 2
          · have:=aH4 (hjb.trans hkb.symm) e
            rw [if_pos e,if_pos (by omega)]
          · rw [if_neg e,if_neg (fun h=>e (by rw [show j=k by omega]))]
     cases t with
     | leaf=>
       have:=key none .leaf .leaf
       simp only [m4]
       rw [this]
       congr 1
       cases j with
       | zero=>rfl
       | succ j=>simp only [get0];split <;> rfl
     | node x l r=>exact key x l r
inductive Path where
 | here
 | left (p:Path)
 | right (p:Path)
noncomputable def sE (f:Nat):Nat→Path:=Nat.rec (motive:=fun _=>Nat→Path) (fun _ => .here) (fun _ ih k=>Nat.rec (motive:=fun _=>Path) .here (fun j _=>Bool.rec (motive:=fun _=>Path) (.right (ih (Nat.div j 2))) (.left (ih (Nat.div j 2))) (Nat.beq (Nat.mod j 2) 0)) k) f
noncomputable def aOm (k:Nat):Path:=sE (Nat.succ k) k
noncomputable def aUg (t:Tr α):Path→Option α:=
 Tr.rec (motive:=fun _=>Path→Option α) (fun _=>none) (fun x _ _ gl gr p=>Path.rec (motive:=fun _=>Option α) x (fun q _=>gl q) (fun q _=>gr q) p) t
noncomputable def aUb (v:Option α) (p:Path):Tr α→Tr α:=
 Path.rec (motive:=fun _=>Tr α→Tr α) (Tr.rec (motive:=fun _=>Tr α) (.node v .leaf .leaf) (fun _ l r _ _ => .node v l r))
  (fun _ ih=>Tr.rec (motive:=fun _=>Tr α) (.node none (ih .leaf) .leaf) (fun x l r _ _ => .node x (ih l) r))
  (fun _ ih=>Tr.rec (motive:=fun _=>Tr α) (.node none .leaf (ih .leaf)) (fun x l r _ _ => .node x l (ih r))) p
noncomputable def get (t:Tr α) (k:Nat):Option α:=aUg t (aOm k)
noncomputable def put (t:Tr α) (k:Nat) (v:Option α):Tr α:=aUb v (aOm k) t
theorem aCv (f j:Nat):sE (f+1) (j+1)=match Nat.beq (Nat.mod j 2) 0 with
  | true => .left (sE f (Nat.div j 2))
  | false => .right (sE f (Nat.div j 2)):=by
 show (Bool.rec (motive:=fun _=>Path) (.right (sE f (Nat.div j 2))) (.left (sE f (Nat.div j 2))) (Nat.beq (Nat.mod j 2) 0))=_
 cases Nat.beq (Nat.mod j 2) 0 <;> rfl
theorem p7 {f k:Nat} (h:k+1<f+1):Nat.div k 2<f:=by
 have:Nat.div k 2=k / 2:=rfl
 omega
theorem aUa:∀ (f:Nat) (t:Tr α) (k:Nat),k<f→aUg t (sE f k)=t.get0 k:=by
 intro f
 induction f with
 | zero=>intro t k h;omega
 | succ f ih=>
   intro t k h
   cases t with
   | leaf=>rfl
   | node x l r=>
     cases k with
     | zero=>rfl
     | succ k=>
       rw [aCv]
       simp only [get0]
       cases Nat.beq (Nat.mod k 2) 0 with
       | true=>exact ih l _ (p7 h)
       | false=>exact ih r _ (p7 h)
theorem aTj (v:Option α):∀ (f:Nat) (t:Tr α) (k:Nat),k<f→aUb v (sE f k) t=m4 v f t k:=by
 intro f
 induction f with
 | zero=>intro t k h;omega
 | succ f ih=>
   intro t k h
   cases k with
   | zero=>cases t <;> rfl
   | succ k=>
     rw [aCv]
     cases t with
     | leaf=>
       simp only [m4]
       cases Nat.beq (Nat.mod k 2) 0 with
       | true=>exact congrArg (fun z=>Tr.node none z .leaf) (ih .leaf _ (p7 h))
       | false=>exact congrArg (fun z=>Tr.node none .leaf z) (ih .leaf _ (p7 h))
     | node x l r=>
       simp only [m4]
       cases Nat.beq (Nat.mod k 2) 0 with
       | true=>exact congrArg (fun z=>Tr.node x z r) (ih l _ (p7 h))
       | false=>exact congrArg (fun z=>Tr.node x l z) (ih r _ (p7 h))
theorem get_eq (t:Tr α) (k:Nat):t.get k=t.get0 k:=aUa (k+1) t k (by omega)
theorem get_leaf (k:Nat):(leaf:Tr α).get k=none:=rfl
theorem get_put (t:Tr α) (k:Nat) (v:Option α) (j:Nat):(t.put k v).get j=if j=k then v else t.get j:=by
 rw [get_eq,get_eq]
 have:t.put k v=m4 v (k+1) t k:=aTj v (k+1) t k (by omega)
 rw [this]
 exact aNt v (k+1) t k j (by omega)
theorem get_put_same (t:Tr α) (k:Nat) (v:Option α):(t.put k v).get k=v:=by rw [get_put,if_pos rfl]
theorem get_put_ne (t:Tr α) {k j:Nat} (v:Option α) (h:j≠k):(t.put k v).get j=t.get j:=by rw [get_put,if_neg h]
end Tr
inductive AV where
 | v (x:Value)
 | ptr (b off:Nat)
 | sl (b off len cap:Nat)
 | slg (b off len esz:Nat)
 | agg (cs:List AV)
 | tup (vs:List AV)
 | ifc (t:Nat) (x:AV)
 | fn (f:Fn) (first cap:List AV)
 | map (b:Nat)
 deriving Inhabited
abbrev Gm:=Nat→Option (Nat×Nat)
def Gm.le (γ γ':Gm):Prop:=∀ b p,γ b=some p→γ' b=some p
theorem Gm.le.refl (γ:Gm):Gm.le γ γ:=fun _ _ h=>h
theorem Gm.le.trans {a b c:Gm} (h:Gm.le a b) (k:Gm.le b c):Gm.le a c:=fun x p e=>k x p (h x p e)
def Gm.upd (γ:Gm) (b:Nat) (p:Nat×Nat):Gm:=fun x=>if x=b then some p else γ x
theorem Gm.upd_le {γ:Gm} {b:Nat} (h:γ b=none) (p:Nat×Nat):Gm.le γ (γ.upd b p):=by
 intro x q e
 unfold Gm.upd
 rw [if_neg (by rintro rfl;rw [h] at e;cases e)]
 exact e
theorem Gm.upd_same (γ:Gm) (b:Nat) (p:Nat×Nat):γ.upd b p b=some p:=by simp [Gm.upd]
inductive VR (γ:Gm):AV→Value→Prop where
 | v (x:Value):VR γ (.v x) x
 | ptr {b off n N:Nat} (h:γ b=some (n,N)):VR γ (.ptr b off) (.pointer (some ⟨n,off,none⟩))
 | sl {b off len cap n N:Nat} (h:γ b=some (n,N)) (hl:len≤cap):VR γ (.sl b off len cap) (.slice (some ⟨n,off,none⟩) len cap)
 | slg {b off len esz n N o cap:Nat} (h:γ b=some (n,N)) (hl:len≤cap) (hm:cap≤maxLen) (ho:off=0∨0<len→o=off∧off+cap*esz=N):
  VR γ (.slg b off len esz) (.slice (some ⟨n,o,none⟩) len cap)
 | agg {aS:List AV} {vs:Array Value} (hl:aS.length=vs.size) (h:∀ (i:Nat) (a:AV) (x:Value),aS[i]?=some a→vs[i]?=some x→VR γ a x):VR γ (.agg aS) (.agg vs)
 | tup {aS:List AV} {vs:Array Value} (hl:aS.length=vs.size) (h:∀ (i:Nat) (a:AV) (x:Value),aS[i]?=some a→vs[i]?=some x→VR γ a x):VR γ (.tup aS) (.tuple vs)
 | ifc {t:Nat} {a:AV} {x:Value} (h:VR γ a x):VR γ (.ifc t a) (.iface t x)
 | fn {f:Fn} {aS bs:List AV} {vs ws:Array Value} (hl:aS.length=vs.size) (h:∀ (i:Nat) (a:AV) (x:Value),aS[i]?=some a→vs[i]?=some x→VR γ a x)
  (hl':bs.length=ws.size) (h':∀ (i:Nat) (a:AV) (x:Value),bs[i]?=some a→ws[i]?=some x→VR γ a x):VR γ (.fn f aS bs) (.func f vs ws)
 | map {b n N:Nat} (h:γ b=some (n,N)):VR γ (.map b) (.map (some n))
theorem VR.mono {γ γ':Gm} (hle:Gm.le γ γ') {a:AV} {x:Value} (h:VR γ a x):VR γ' a x:=by
 induction h with
 | v x=>exact .v x
 | ptr h=>exact .ptr (hle _ _ h)
 | sl h hl=>exact .sl (hle _ _ h) hl
 | slg h hl hm ho=>exact .slg (hle _ _ h) hl hm ho
 | agg hl _ ih=>exact .agg hl ih
 | tup hl _ ih=>exact .tup hl ih
 | ifc _ ih=>exact .ifc ih
 | fn hl _ hl' _ ih ih'=>exact .fn hl ih hl' ih'
 | map h=>exact .map (hle _ _ h)
def LR (γ:Gm) (aS:List AV) (vs:List Value):Prop:=aS.length=vs.length∧∀ (i:Nat) (a:AV) (x:Value),aS[i]?=some a→vs[i]?=some x→VR γ a x
section
variable {γ γ':Gm}
theorem LR.mono (hle:Gm.le γ γ') {aS:List AV} {vs:List Value} (h:LR γ aS vs):LR γ' aS vs:=⟨h.1,fun i a x h1 h2=>(h.2 i a x h1 h2).mono hle⟩
theorem LR.nil:LR γ [] []:=⟨rfl,by simp⟩
theorem LR.cons {a:AV} {x:Value} {aS:List AV} {vs:List Value} (h:VR γ a x) (hs:LR γ aS vs):LR γ (a::aS) (x::vs):=
 ⟨by simp [hs.1],fun i b y h1 h2=>by
  cases i with
  | zero=>simp at h1 h2;subst h1 h2;exact h
  | succ i=>simp at h1 h2;exact hs.2 i b y h1 h2⟩
theorem LR.get {aS:List AV} {vs:List Value} (h:LR γ aS vs) {i:Nat} {a:AV} (hi:aS[i]?=some a):∃ x,vs[i]?=some x∧VR γ a x:=by
 have:i<vs.length:=by rw [← h.1];exact (List.getElem?_eq_some_iff.1 hi).1
 exact ⟨vs[i],aO this,h.2 i a _ hi (aO this)⟩
theorem LR.append {aS bs:List AV} {vs ws:List Value} (h:LR γ aS vs) (k:LR γ bs ws):LR γ (aS++bs) (vs++ws):=by
 refine ⟨by simp [h.1,k.1],fun i a x h1 h2=>?_⟩
 by_cases hi:i<aS.length
 · rw [bG hi] at h1
   rw [bG (by rw [← h.1];exact hi)] at h2
   exact h.2 i a x h1 h2
 · rw [aP (by omega)] at h1
   rw [aP (by rw [← h.1];omega),← h.1] at h2
   exact k.2 _ a x h1 h2
theorem LR.drop {aS:List AV} {vs:List Value} (h:LR γ aS vs) (n:Nat):LR γ (aS.drop n) (vs.drop n):=
 ⟨by simp [h.1],fun i a x h1 h2=>h.2 (n+i) a x (by simpa using h1) (by simpa using h2)⟩
theorem LR.take {aS:List AV} {vs:List Value} (h:LR γ aS vs) (n:Nat):LR γ (aS.take n) (vs.take n):=
 ⟨by simp [h.1],fun i a x h1 h2=>by
  rw [List.getElem?_take] at h1 h2
  split at h1
  · rename_i hi;rw [if_pos hi] at h2;exact h.2 i a x h1 h2
  · cases h1⟩
theorem LR.vs (vs:List Value):LR γ (vs.map .v) vs:=
 ⟨by simp,fun i a x h1 h2=>by
  simp [h2] at h1
  subst h1
  exact .v x⟩
theorem VR.aggL {aS:List AV} {vs:List Value} (h:LR γ aS vs):VR γ (.agg aS) (.agg vs.toArray) := .agg (by simpa using h.1) (fun i a x h1 h2=>h.2 i a x h1 (by simpa using h2))
theorem VR.tupL {aS:List AV} {vs:List Value} (h:LR γ aS vs):VR γ (.tup aS) (.tuple vs.toArray) := .tup (by simpa using h.1) (fun i a x h1 h2=>h.2 i a x h1 (by simpa using h2))
end
def AV.cells:AV→List AV
 | .agg l=>l
 | .v x=>x.cells.toList.map .v
 | a=>[a]
theorem VR.cells {γ:Gm} {a:AV} {x:Value} (h:VR γ a x):LR γ a.cells x.cells.toList:=by
 cases h with
 | v x=>exact LR.vs _
 | agg hl h=>exact ⟨by simpa [AV.cells,Value.cells] using hl,fun i a x h1 h2=>h i a x h1 (by simpa [Value.cells] using h2)⟩
 | ptr h=>exact LR.cons (.ptr h) LR.nil
 | sl h hl=>exact LR.cons (.sl h hl) LR.nil
 | slg h hl hm ho=>exact LR.cons (.slg h hl hm ho) LR.nil
 | tup hl h=>exact LR.cons (.tup hl h) LR.nil
 | ifc h=>exact LR.cons (.ifc h) LR.nil
 | fn hl h hl' h'=>exact LR.cons (.fn hl h hl' h') LR.nil
 | map h=>exact LR.cons (.map h) LR.nil
def AV.one:AV→Bool
 | .v x=>x.oneCell'
 | .agg _ | .tup _=>false
 | _=>true
theorem VR.one {γ:Gm} {a:AV} {x:Value} (h:VR γ a x) (ha:a.one=true):x.oneCell'=true:=by
 cases h <;> first | exact ha | rfl | (simp [AV.one] at ha)
theorem LR.one {γ:Gm} {aS:List AV} {vs:List Value} (h:LR γ aS vs) (ha:aS.all AV.one=true):∀ x∈vs,x.oneCell'=true:=by
 intro x hx
 obtain ⟨i,hi⟩:=List.mem_iff_getElem?.1 hx
 have hl:i<aS.length:=by rw [h.1];exact (List.getElem?_eq_some_iff.1 hi).1
 exact (h.2 i _ x (aO hl) hi).one (bE ha _ (List.getElem_mem hl))
def mO:List AV→Option (List Value)
 | []=>some []
 | .v x::l=>match mO l with
   | some r=>some (x::r)
   | none=>none
 | _::_=>none
def AV.close:AV→Option Value
 | .v x=>some x
 | .agg l=>match mO l with
   | some r=>some (.agg r.toArray)
   | none=>none
 | .ifc t (.v x)=>some (.iface t x)
 | .fn f [] []=>some (.func f #[] #[])
 | _=>none
theorem xB {γ:Gm}:∀ {aS:List AV} {vs ws:List Value},mO aS=some ws→LR γ aS vs→vs=ws
 | [],vs,ws,h,hr=>by
   simp [mO] at h
   subst h
   exact aF hr.1.symm
 | a::aS,vs,ws,h,hr=>by
   cases vs with
   | nil=>have:=hr.1;simp at this
   | cons x vs=>
     have h0:=hr.2 0 a x rfl rfl
     have ht:LR γ aS vs:=⟨by have:=hr.1;simpa using this,fun i b y h1 h2=>hr.2 (i+1) b y (by simpa using h1) (by simpa using h2)⟩
     cases a with
     | v y=>
       simp only [mO] at h
       cases hc:mO aS with
       | none=>rw [hc] at h;cases h
       | some r=>
         rw [hc] at h
         injection h with h
         subst h
         cases h0
         rw [xB hc ht]
     | _=>simp [mO] at h
theorem jY {γ:Gm} {a:AV} {x y:Value} (h:a.close=some y) (hr:VR γ a x):x=y:=by
 cases hr with
 | v x=>simpa [AV.close] using h
 | agg hl hh=>
   rename_i aS vs
   simp only [AV.close] at h
   cases hc:mO aS with
   | none=>rw [hc] at h;cases h
   | some r=>
     rw [hc] at h
     injection h with h
     subst h
     have:=xB (γ:=γ) (vs:=vs.toList) hc ⟨by simpa using hl,fun i a x h1 h2=>hh i a x h1 (by simpa using h2)⟩
     rw [← this]
 | ifc hh=>
   rename_i t a x
   cases hh <;> simp [AV.close] at h
   subst h
   rfl
 | fn hl hh hl' hh'=>
   rename_i f aS bs vs ws
   cases aS with
   | nil=>
     cases bs with
     | nil=>
       simp [AV.close] at h
       subst h
       simp at hl hl'
       have e1:vs=#[]:=Array.eq_empty_of_size_eq_zero hl.symm
       have e2:ws=#[]:=Array.eq_empty_of_size_eq_zero hl'.symm
       rw [e1,e2]
     | cons b bs=>simp [AV.close] at h
   | cons b bs=>simp [AV.close] at h
 | _=>simp [AV.close] at h
def iN:Value→AV
 | .agg cs => .agg (cs.toList.map .v)
 | x => .v x
def bW:Value→AV
 | .tuple vs => .tup (vs.toList.map iN)
 | .iface t x => .ifc t (iN x)
 | .func f a b => .fn f (a.toList.map iN) (b.toList.map iN)
 | x=>iN x
theorem l4 {γ:Gm} (x:Value):VR γ (iN x) x:=by
 cases x <;> first | exact .v _ | skip
 rename_i cs
 exact .agg (by simp) (fun i a x h1 h2=>by
  simp at h1
  obtain ⟨y,h3,rfl⟩:=h1
  rw [h2] at h3
  injection h3 with h3
  subst h3
  exact .v _)
theorem lB {γ:Gm} (vs:Array Value):(vs.toList.map iN).length=vs.size∧∀ (i:Nat) (a:AV) (x:Value),(vs.toList.map iN)[i]?=some a→vs[i]?=some x→VR γ a x:=by
 refine ⟨by simp,fun i a x h1 h2=>?_⟩
 simp at h1
 obtain ⟨y,h3,rfl⟩:=h1
 rw [h2] at h3
 injection h3 with h3
 subst h3
 exact l4 _
theorem eP {γ:Gm} (x:Value):VR γ (bW x) x:=by
 cases x with
 | tuple vs=>exact .tup (lB (γ:=γ) vs).1 (lB vs).2
 | iface t x=>exact .ifc (l4 x)
 | func f a b=>exact .fn (lB (γ:=γ) a).1 (lB a).2 (lB (γ:=γ) b).1 (lB b).2
 | agg cs=>exact l4 (Value.agg cs)
 | _=>exact .v _
structure Keep (F:Nat→Prop) (w w':World):Prop where
 os:w'.os=w.os
 tape:w'.tape=w.tape
 output:w'.output=w.output
 size:w.heap.size≤w'.heap.size
 block:∀ k,F k→w'.heap[k]?=w.heap[k]?
theorem Keep.refl (F:Nat→Prop) (w:World):Keep F w w:=⟨rfl,rfl,rfl,aH _,fun _ _=>rfl⟩
theorem Keep.trans {F:Nat→Prop} {a b c:World} (h:Keep F a b) (k:Keep F b c):Keep F a c:=
 ⟨k.os.trans h.os,k.tape.trans h.tape,k.output.trans h.output,bC h.size k.size,fun i hi=>(k.block i hi).trans (h.block i hi)⟩
theorem Keep.mono {F F':Nat→Prop} {w w':World} (h:Keep F w w') (hF:∀ k,F' k→F k):Keep F' w w':=⟨h.os,h.tape,h.output,h.size,fun k hk=>h.block k (hF k hk)⟩
theorem Keep.of_below {F:Nat→Prop} {B:Nat} {w w':World} (h:Go.RowKit.Below B w w') (hF:∀ k,F k→k<B):Keep F w w':=⟨h.os,h.tape,h.output,h.size,fun k hk=>h.block k (hF k hk)⟩
theorem Keep.below {B:Nat} {w w':World} (h:Keep (·<B) w w'):Go.RowKit.Below B w w':=⟨h.os,h.tape,h.output,h.size,h.block⟩
theorem Keep.drew {F:Nat→Prop} {a w:World} (h:Keep F a w):Keep F a w.drew:=⟨h.os,h.tape,h.output,h.size,h.block⟩
theorem Keep.alloc {F:Nat→Prop} {a w:World} (h:Keep F a w) (hB:∀ k,F k→k<w.heap.size) (o:Obj):Keep F a (w.alloc o):=
 h.trans ⟨rfl,rfl,rfl,by simp,fun k hk=>Go.RowKit.Below.heap_alloc _ _ _ (hB k hk)⟩
theorem Keep.grown {F:Nat→Prop} {a w w':World} {row:Option Nat} (h:Keep F a w) (hg:w.grownBy w' row) (hB:∀ k,F k→k<w.heap.size) (hr:∀ k,row=some k→¬ F k):Keep F a w':=
 h.trans ⟨hg.os,hg.tape,hg.output,hg.size,fun k hk=>hg.block k (hB k hk) (fun e=>hr k e.symm hk)⟩
inductive Blk where
 | cells (ty:Nat) (own clean ex:Bool) (lim:Nat) (cs:Tr AV)
 | map (es:List (AV×AV×Nat)) (clock:Nat)
 | row (e:Nat) (xs:List Value)
def aAi (γ:Gm) (es:List (AV×AV×Nat)) (l:List MapEntry):Prop:=
 es.length=l.length∧∀ (i:Nat) (e:AV×AV×Nat) (m:MapEntry),es[i]?=some e→l[i]?=some m→VR γ e.1 m.key∧VR γ e.2.1 m.val∧e.2.2=m.born
def BR (B:Nat→Prop) (γ:Gm) (blk:Blk) (p:Nat×Nat) (w:World):Prop:=
 match blk with
 | .cells ty own clean ex lim cs=>(own=true→¬ B p.1)∧∃ c ty' fz,w.heap[p.1]?=some (.cells c ty' fz)∧c.size=p.2∧((clean=true→fz=(0,0)∧ty=ty')∧(ex=true→c.size=lim∧ty=ty'))∧
  ∀ (i:Nat) (a:AV),i<lim→cs.get i=some a→∃ x,c[i]?=some x∧VR γ a x
 | .map es clock=>¬ B p.1∧∃ l,w.heap[p.1]?=some (.map l clock)∧aAi γ es l.toList
 | .row e xs=>¬ B p.1∧∃ c,w.heap[p.1]?=some (.cells c e (0,0))∧c.size=p.2∧c.toList.take xs.length=xs
abbrev Hp:=Tr Blk
structure HR (B:Nat→Prop) (G:Nat) (γ:Gm) (h:Hp) (c:Nat) (w:World):Prop where
 live:∀ b blk,h.get b=some blk→∃ p,γ b=some p∧BR B γ blk p w
 inj:∀ b b' blk blk' p p',h.get b=some blk→h.get b'=some blk'→γ b=some p→γ b'=some p'→p.1=p'.1→b=b'
 fresh:∀ b,c≤b→γ b=none
 glob:∀ g,g<G→∃ N,γ g=some (g,N)
 base:∀ k,B k→k<w.heap.size
theorem BR.mono {B:Nat→Prop} {γ γ':Gm} (hle:Gm.le γ γ') {blk:Blk} {p:Nat×Nat} {w:World} (h:BR B γ blk p w):BR B γ' blk p w:=by
 cases blk with
 | cells ty own clean ex lim cs=>
   obtain ⟨h0,c,ty',fz,h1,h2,h3,h4⟩:=h
   exact ⟨h0,c,ty',fz,h1,h2,h3,fun i a hl hi=>let ⟨x,h5,h6⟩:=h4 i a hl hi;⟨x,h5,h6.mono hle⟩⟩
 | map es clock=>
   obtain ⟨h0,l,h1,h2,h3⟩:=h
   exact ⟨h0,l,h1,h2,fun i e m he hm=>let ⟨a,b,c⟩:=h3 i e m he hm;⟨a.mono hle,b.mono hle,c⟩⟩
 | row e xs=>exact h
theorem BR.lt {B:Nat→Prop} {γ:Gm} {blk:Blk} {p:Nat×Nat} {w:World} (h:BR B γ blk p w):p.1<w.heap.size:=by
 cases blk with
 | cells ty own clean ex lim cs=>obtain ⟨h0,c,ty',fz,h1,_⟩:=h;exact (Array.getElem?_eq_some_iff.1 h1).1
 | map es clock=>obtain ⟨h0,l,h1,_⟩:=h;exact (Array.getElem?_eq_some_iff.1 h1).1
 | row e xs=>obtain ⟨h0,c,h1,_⟩:=h;exact (Array.getElem?_eq_some_iff.1 h1).1
theorem BR.kept {B:Nat→Prop} {γ:Gm} {blk:Blk} {p:Nat×Nat} {w w':World} (h:BR B γ blk p w) (hk:w'.heap[p.1]?=w.heap[p.1]?):BR B γ blk p w':=by
 cases blk with
 | cells ty own clean ex lim cs=>
   obtain ⟨h0,c,ty',fz,h1,h2⟩:=h
   exact ⟨h0,c,ty',fz,hk.trans h1,h2⟩
 | map es clock=>
   obtain ⟨h0,l,h1,h2⟩:=h
   exact ⟨h0,l,hk.trans h1,h2⟩
 | row e xs=>
   obtain ⟨h0,c,h1,h2⟩:=h
   exact ⟨h0,c,hk.trans h1,h2⟩
section
variable {B:Nat→Prop} {G:Nat} {γ:Gm} {h:Hp} {c:Nat} {w:World}
theorem HR.new (hr:HR B G γ h c w):¬ B w.heap.size:=fun hk=>Nat.lt_irrefl _ (hr.base _ hk)
theorem HR.below (hr:HR B G γ h c w):G≤c:=by
 rcases aY c G with hl | hg
 · obtain ⟨N,hN⟩:=hr.glob c hl
   rw [hr.fresh c (aH _)] at hN
   cases hN
 · exact hg
theorem HR.add (hr:HR B G γ h c w) {w':World} (q:Nat×Nat) (blk:Blk) (hs:w.heap.size≤w'.heap.size)
  (hk:∀ b blk' p,h.get b=some blk'→γ b=some p→w'.heap[p.1]?=w.heap[p.1]?∧p.1≠q.1) (hb:BR B (γ.upd c q) blk q w'):
  HR B G (γ.upd c q) (h.put c (some blk)) (c+1) w':=by
 have hc:=hr.fresh c (aH _)
 have hG:=hr.below
 have hle:=Gm.upd_le hc q
 refine ⟨fun b blk' hb'=>?_,fun b b' blk1 blk2 p p' h1 h2 g1 g2 e=>?_,fun b hb=>?_,fun g hg=>?_,fun k hk=>aE (hr.base k hk) hs⟩
 · rw [Tr.get_put] at hb'
   split at hb'
   · rename_i e
     injection hb' with hb'
     subst hb' e
     exact ⟨_,Gm.upd_same _ _ _,hb⟩
   · obtain ⟨p,hp,hbr⟩:=hr.live b blk' hb'
     exact ⟨p,hle b p hp,(hbr.mono hle).kept (hk b blk' p hb' hp).1⟩
 · rw [Tr.get_put] at h1 h2
   split at h1 <;> split at h2
   · rename_i e1 e2;exact e1.trans e2.symm
   · rename_i e1 e2
     subst e1
     rw [Gm.upd_same] at g1
     injection g1 with g1
     subst g1
     obtain ⟨q',hq,hbr⟩:=hr.live b' _ h2
     have:q'=p':=by have:=hle _ _ hq;rw [this] at g2;injection g2
     subst this
     exact absurd e.symm (hk _ _ _ h2 hq).2
   · rename_i e1 e2
     subst e2
     rw [Gm.upd_same] at g2
     injection g2 with g2
     subst g2
     obtain ⟨q',hq,hbr⟩:=hr.live b _ h1
     have:q'=p:=by have:=hle _ _ hq;rw [this] at g1;injection g1
     subst this
     exact absurd e (hk _ _ _ h1 hq).2
   · obtain ⟨q,hq,_⟩:=hr.live b _ h1
     obtain ⟨q',hq',_⟩:=hr.live b' _ h2
     have e1:q=p:=by have:=hle _ _ hq;rw [this] at g1;injection g1
     have e2:q'=p':=by have:=hle _ _ hq';rw [this] at g2;injection g2
     subst e1 e2
     exact hr.inj b b' _ _ _ _ h1 h2 hq hq' e
 · unfold Gm.upd
   rw [if_neg (by omega)]
   exact hr.fresh b (by omega)
 · obtain ⟨N',hN⟩:=hr.glob g hg
   exact ⟨N',hle _ _ hN⟩
theorem HR.alloc (hr:HR B G γ h c w) (o:Obj) (N:Nat) (blk:Blk) (hb:BR B (γ.upd c (w.heap.size,N)) blk (w.heap.size,N) (w.alloc o)):
  HR B G (γ.upd c (w.heap.size,N)) (h.put c (some blk)) (c+1) (w.alloc o):=
 hr.add _ blk (by show w.heap.size≤(w.heap.push o).size;rw [Array.size_push];omega) (fun b blk' p h1 h2=>by
  obtain ⟨q,hq,hbr⟩:=hr.live b blk' h1
  obtain rfl:q=p:=by rw [hq] at h2;injection h2
  have:=hbr.lt
  exact ⟨heap_alloc_old w o q.1 hbr.lt,by simp;omega⟩) hb
theorem HR.turn (hr:HR B G γ h c w) {w':World} {b:Nat} {p:Nat×Nat} {blk0 blk:Blk} (h0:h.get b=some blk0) (hp:γ b=some p) (hs:w.heap.size≤w'.heap.size) (hk:∀ k,k≠p.1→k<w.heap.size→w'.heap[k]?=w.heap[k]?)
  (hb:BR B γ blk p w'):HR B G γ (h.put b (some blk)) c w':=by
 refine ⟨fun b1 blk1 h1=>?_,fun b1 b2 blk1 blk2 p1 p2 h1 h2 g1 g2 e=>?_,hr.fresh,hr.glob,fun k hk=>aE (hr.base k hk) hs⟩
 · rw [Tr.get_put] at h1
   split at h1
   · rename_i e
     subst e
     injection h1 with h1
     subst h1
     exact ⟨p,hp,hb⟩
   · rename_i hne
     obtain ⟨q,hq,hbr⟩:=hr.live b1 blk1 h1
     refine ⟨q,hq,hbr.kept (hk _ (fun e=>hne ?_) hbr.lt)⟩
     exact hr.inj _ _ _ _ _ _ h1 h0 hq hp e
 · have key:∀ x blkx,(h.put b (some blk)).get x=some blkx→∃ y,h.get x=some y:=by
    intro x blkx hx
    rw [Tr.get_put] at hx
    split at hx
    · rename_i e;subst e;exact ⟨_,h0⟩
    · exact ⟨_,hx⟩
   obtain ⟨y1,k1⟩:=key _ _ h1
   obtain ⟨y2,k2⟩:=key _ _ h2
   exact hr.inj _ _ _ _ _ _ k1 k2 g1 g2 e
theorem HR.drop (hr:HR B G γ h c w) (b:Nat):HR B G γ (h.put b none) c w:=by
 have key:∀ x blkx,(h.put b none).get x=some blkx→h.get x=some blkx:=by
  intro x blkx hx
  rw [Tr.get_put] at hx
  split at hx
  · cases hx
  · exact hx
 exact ⟨fun b1 blk1 h1=>hr.live b1 blk1 (key _ _ h1),fun b1 b2 _ _ p1 p2 h1 h2=>hr.inj b1 b2 _ _ p1 p2 (key _ _ h1) (key _ _ h2),hr.fresh,hr.glob,hr.base⟩
theorem HR.kept (hr:HR B G γ h c w) {w':World} (hs:w.heap.size≤w'.heap.size) (hk:∀ k,k<w.heap.size→w'.heap[k]?=w.heap[k]?):HR B G γ h c w':=
 ⟨fun b blk hb=>let ⟨p,hp,hbr⟩:=hr.live b blk hb;⟨p,hp,hbr.kept (hk _ hbr.lt)⟩,hr.inj,hr.fresh,hr.glob,fun k hk=>aE (hr.base k hk) hs⟩
end
end Go.Sy
end
section
noncomputable section
namespace Go.Sy
open Go
def aev (P:Program) (T:Tr AV):Operand→Option AV
 | .tmp t=>T.get t
 | .const v=>some (bW v)
 | .global g=>match Nat.blt g P.globals.size with
   | true=>some (.ptr g 0)
   | false=>none
 | .func f=>some (.fn (.func f) [] [])
def kT (P:Program) (T:Tr AV):List Operand→Option (List AV)
 | []=>some []
 | x::l=>match aev P T x with
   | none=>none
   | some a=>match kT P T l with
     | none=>none
     | some r=>some (a::r)
def Ok (P:Program) (γ:Gm) (T:Tr AV) (a:Act) (l:List Operand):Prop:=∀ x∈l,∀ av,aev P T x=some av→VR γ av (a.eval x)
theorem jD {P:Program} {γ:Gm} {T:Tr AV} {a:Act}:∀ {l:List Operand} {aS:List AV},Ok P γ T a l→kT P T l=some aS→LR γ aS (l.map a.eval)
 | [],aS,_,h=>by simp [kT] at h;subst h;exact LR.nil
 | x::l,aS,ho,h=>by
   simp only [kT] at h
   cases h1:aev P T x with
   | none=>rw [h1] at h;cases h
   | some av=>
     rw [h1] at h
     cases h2:kT P T l with
     | none=>rw [h2] at h;cases h
     | some r=>
       rw [h2] at h
       injection h with h
       subst h
       exact LR.cons (ho x (by simp) av h1) (jD (fun y hy=>ho y (by simp [hy])) h2)
def nF (P:Program) {α:Type}:Sem α→Option α
 | .pure a=>some a
 | .program k=>nF P (k P)
 | .mark _ k=>nF P k
 | _=>none
theorem vG {P:Program} {α:Type} {s:Sem α}:∀ {a:α},nF P s=some a→∀ w,s.run P w = .ok a w:=by
 induction s with
 | pure b=>intro a h w;simp [nF] at h;subst h;rfl
 | program k ih=>intro a h w;exact ih P h w
 | mark m k ih=>intro a h w;exact ih h w
 | _=>intro a h;simp [nF] at h
def nB (P:Program) (T:Tr AV):List Operand→Bool
 | []=>true
 | x::l=>match aev P T x with
   | none=>false
   | some a=>match a.close with
     | none=>false
     | some _=>nB P T l
def sN (P:Program) (T:Tr AV) (x:Operand):Value:=match aev P T x with
 | none=>undef
 | some a=>match a.close with
   | none=>undef
   | some v=>v
theorem tF {P:Program} {γ:Gm} {T:Tr AV} {a:Act}:∀ {l:List Operand},Ok P γ T a l→nB P T l=true→∀ x∈l,sN P T x=a.eval x
 | [],_,_,x,hx=>by simp at hx
 | y::l,ho,h,x,hx=>by
   simp only [nB] at h
   cases h1:aev P T y with
   | none=>rw [h1] at h;cases h
   | some av=>
     rw [h1] at h
     simp only at h
     cases h2:av.close with
     | none=>rw [h2] at h;cases h
     | some v=>
       rw [h2] at h
       rcases bJ hx with rfl | hx
       · unfold sN
         rw [h1]
         simp only [h2]
         exact (jY h2 (ho x (by simp) av h1)).symm
       · exact tF (fun z hz=>ho z (by simp [hz])) h x hx
def aQt:Op→Bool
 | .select _ _=>true
 | _=>false
def cC (P:Program) (T:Tr AV) (o:Oper):Option AV:=
 match aQt o.op with
 | true=>none
 | false=>match nB P T o.op.operands.toList with
   | false=>none
   | true=>match nF P (execOp (sN P T) o) with
     | some (.value v)=>some (bW v)
     | _=>none
theorem dI {P:Program} {γ:Gm} {T:Tr AV} {a:Act} {o:Oper} {av:AV} (ho:Ok P γ T a o.op.operands.toList) (h:cC P T o=some av):
  ∃ v,VR γ av v∧∀ w,(execOp a.eval o).run P w = .ok (.value v) w:=by
 unfold cC at h
 split at h
 · cases h
 · rename_i hs
   split at h
   · cases h
   · rename_i hc
     have hcong:=execOp_congr (ρ:=sN P T) (ρ':=a.eval) o (fun cs b e=>by rw [e] at hs;cases hs) (fun x hx=>tF ho hc x (by simpa using hx))
     split at h
     · rename_i v hv
       injection h with h
       subst h
       exact ⟨v,eP v,fun w=>by rw [← hcong];exact vG hv w⟩
     · cases h
def aggB (P:Program) (t:TypeId):Option Bool:=match P.underlying t with
 | some (.struct _)=>some true
 | some (.array _ _)=>some true
 | some _=>some false
 | none=>none
theorem tP {P:Program} {t:TypeId} {b:Bool} (h:aggB P t=some b) (w:World):(isAgg t).run P w = .ok b w:=by
 unfold aggB at h
 split at h <;> first | (cases h;done) | skip
 all_goals
  rename_i hu
  injection h with h
  subst h
  unfold isAgg
  rw [Sem.run_bind,run_underlying hu w]
  simp only [Result.andThen_ok]
  first | rfl | skip
def szB (P:Program) (t:TypeId):Option Nat:=match P.info? t with
 | some i=>some i.size
 | none=>none
theorem szB_ok {P:Program} {t:TypeId} {n:Nat} (h:szB P t=some n) (w:World):(sizeOf t).run P w = .ok n w:=by
 unfold szB at h
 split at h
 · rename_i i hi
   injection h with h
   subst h
   simp [sizeOf,typeInfo,hi]
 · cases h
def iO (P:Program) (t:TypeId):Option Value:=match P.info? t with
 | some i=>i.zero
 | none=>none
theorem qK {P:Program} {t:TypeId} {v:Value} (h:iO P t=some v) (w:World):(zeroValue t).run P w = .ok v w:=by
 unfold iO at h
 split at h
 · rename_i i hi
   simp [zeroValue,typeInfo,hi,h]
 · cases h
def pU (P:Program) (s:TypeId) (x:AV) (f:Nat):Option AV:=match x with
 | .ptr b off=>match P.underlying s with
   | some (.struct fs)=>match fs[f]? with
     | some fd=>match szB P fd.type with
       | some (_+1)=>some (.ptr b (Nat.add off fd.offset))
       | _=>none
     | none=>none
   | _=>none
 | _=>none
theorem aFi {P:Program} {γ:Gm} {s:TypeId} {a:AV} {x:Value} {f:Nat} {r:AV} (hx:VR γ a x) (h:pU P s a f=some r):
  ∃ v,VR γ r v∧∀ w,(Instr.fieldAt s x f).run P w = .ok v w:=by
 unfold pU at h
 split at h <;> first | (cases h;done) | skip
 rename_i b off
 split at h <;> first | (cases h;done) | skip
 rename_i fs hu
 split at h <;> first | (cases h;done) | skip
 rename_i fd hf
 split at h <;> first | (cases h;done) | skip
 rename_i n hn
 injection h with h
 subst h
 cases hx with
 | ptr hb=>
   refine ⟨_,.ptr hb,fun w=>?_⟩
   simp [Instr.fieldAt,run_underlying hu,hf,Instr.sureAddr,fieldPlace,szB_ok hn,Addr.add_mid]
def aFw (P:Program) (t:TypeId) (l:List AV) (off:Nat):Option AV:=match aggB P t with
 | some true=>match szB P t with
   | some n=>some (.agg ((l.drop off).take n))
   | none=>none
 | some false=>l[off]?
 | none=>none
theorem aHc {P:Program} {γ:Gm} {t:TypeId} {l:List AV} {cs:Array Value} {off:Nat} {r:AV} (hl:LR γ l cs.toList) (h:aFw P t l off=some r):
  ∃ v,VR γ r v∧∀ w,(part t cs off).run P w = .ok v w:=by
 unfold aFw at h
 split at h
 · rename_i ha
   split at h
   · rename_i n hn
     injection h with h
     subst h
     have:=VR.aggL ((hl.drop off).take n)
     refine ⟨_,this,fun w=>?_⟩
     have e:((cs.toList.drop off).take n).toArray=cs.extract off (off+n):=by
      apply Array.ext'
      simp [Array.toList_extract,List.extract]
     rw [e]
     simp [part,tP ha,szB_ok hn]
   · cases h
 · rename_i ha
   obtain ⟨x,h1,h2⟩:=hl.get h
   refine ⟨x,h2,fun w=>?_⟩
   have h1':cs[off]?=some x:=by simpa using h1
   simp [part,tP ha,h1']
 · cases h
def aCq (P:Program) (s:TypeId) (x:AV) (f:Nat):Option AV:=match x with
 | .agg l=>match P.underlying s with
   | some (.struct fs)=>match fs[f]? with
     | some fd=>aFw P fd.type l fd.offset
     | none=>none
   | _=>none
 | _=>none
theorem aO5 {P:Program} {γ:Gm} {s:TypeId} {a:AV} {x:Value} {f:Nat} {r:AV} (hx:VR γ a x) (h:aCq P s a f=some r):
  ∃ v,VR γ r v∧∀ w,(Instr.field s x f).run P w = .ok v w:=by
 unfold aCq at h
 split at h <;> first | (cases h;done) | skip
 rename_i l
 split at h <;> first | (cases h;done) | skip
 rename_i fs hu
 split at h <;> first | (cases h;done) | skip
 rename_i fd hf
 have hc:=hx.cells
 cases hx with
 | agg hl hh=>
   rename_i vs
   obtain ⟨v,h1,h2⟩:=aHc (cs:=vs) (by simpa [AV.cells,Value.cells] using hc) h
   exact ⟨v,h1,fun w=>by simp [Instr.field,run_underlying hu,hf,asAgg,h2]⟩
def xG:AV→Option (IntKind×Nat)
 | .v (.int k (.ofNat n))=>some (k,n)
 | _=>none
theorem pX {γ:Gm} {a:AV} {x:Value} {k:IntKind} {n:Nat} (hx:VR γ a x) (h:xG a=some (k,n)):x = .int k (n:Int):=by
 unfold xG at h
 split at h
 · injection h with h
   injection h with h1 h2
   subst h1 h2
   cases hx
   rfl
 · cases h
def pV (P:Program) (t:TypeId) (x i:AV):Option AV:=match xG i with
 | none=>none
 | some (_,i)=>match P.underlying t with
   | some (.slice e)=>match szB P e with
     | none=>none
     | some z=>match x with
       | .sl b off len _=>match Nat.blt i len with
         | true=>some (.ptr b (Nat.add off (Nat.mul i z)))
         | false=>none
       | .slg b off len _=>match Nat.blt i len with
         | true=>some (.ptr b (Nat.add off (Nat.mul i z)))
         | false=>none
       | _=>none
   | some (.array n e)=>match szB P e with
     | none=>none
     | some z=>match x with
       | .ptr b off=>match Nat.blt i n with
         | true=>some (.ptr b (Nat.add off (Nat.mul i z)))
         | false=>none
       | _=>none
   | _=>none
theorem cI {a b:Nat} (h:Nat.blt a b=true):a<b:=aN h
theorem aFj {P:Program} {γ:Gm} {t:TypeId} {a ai:AV} {x i:Value} {r:AV} (hx:VR γ a x) (hi:VR γ ai i) (h:pV P t a ai=some r):
  ∃ v,VR γ r v∧∀ w,(Instr.indexAt t x i).run P w = .ok v w:=by
 unfold pV at h
 split at h
 · cases h
 rename_i k n hn
 obtain rfl:=pX hi hn
 split at h
 · rename_i e hu
   split at h
   · cases h
   rename_i z hz
   split at h
   · split at h <;> first | (cases h;done) | skip
     rename_i b off len cap hlt
     injection h with h
     subst h
     have hlt:=cI hlt
     cases hx with
     | sl hb hl=>
       refine ⟨_,.ptr hb,fun w=>?_⟩
       simp [Instr.indexAt,asIntOf,run_underlying hu,szB_ok hz,Addr.add_mid,hlt]
   · split at h <;> first | (cases h;done) | skip
     rename_i b off len esz hlt
     injection h with h
     subst h
     have hlt:=cI hlt
     cases hx with
     | slg hb hl hm ho=>
       obtain ⟨rfl,_⟩:=ho (.inr (by omega))
       refine ⟨_,.ptr hb,fun w=>?_⟩
       simp [Instr.indexAt,asIntOf,run_underlying hu,szB_ok hz,Addr.add_mid,hlt]
   · cases h
 · rename_i m e hu
   split at h
   · cases h
   rename_i z hz
   split at h
   · split at h <;> first | (cases h;done) | skip
     rename_i b off hlt
     injection h with h
     subst h
     have hlt:=cI hlt
     cases hx with
     | ptr hb=>
       refine ⟨_,.ptr hb,fun w=>?_⟩
       simp [Instr.indexAt,asIntOf,run_underlying hu,Instr.sureAddr,szB_ok hz,Addr.add_mid,hlt]
   · cases h
 · cases h
def aB8 (P:Program) (t:TypeId) (x i:AV):Option AV:=match x with
 | .agg l=>match xG i with
   | none=>none
   | some (_,i)=>match P.underlying t with
     | some (.array n e)=>match szB P e with
       | none=>none
       | some z=>match Nat.blt i n with
         | true=>aFw P e l (Nat.mul i z)
         | false=>none
     | _=>none
 | _=>none
theorem aO0 {P:Program} {γ:Gm} {t:TypeId} {a ai:AV} {x i:Value} {r:AV} (hx:VR γ a x) (hi:VR γ ai i) (h:aB8 P t a ai=some r):
  ∃ v,VR γ r v∧∀ w,(Instr.index t x i).run P w = .ok v w:=by
 unfold aB8 at h
 split at h <;> first | (cases h;done) | skip
 rename_i l
 split at h
 · cases h
 rename_i k n hn
 obtain rfl:=pX hi hn
 split at h <;> first | (cases h;done) | skip
 rename_i m e hu
 split at h
 · cases h
 rename_i z hz
 split at h <;> first | (cases h;done) | skip
 rename_i hlt
 have hlt:=cI hlt
 have hc:=hx.cells
 cases hx with
 | agg hl hh=>
   rename_i vs
   obtain ⟨v,h1,h2⟩:=aHc (cs:=vs) (by simpa [AV.cells,Value.cells] using hc) h
   refine ⟨v,h1,fun w=>?_⟩
   have h2':∀ w,(part e vs (n*z)).run P w = .ok v w:=h2
   simp [Instr.index,asIntOf,run_underlying hu,szB_ok hz,hlt,h2']
def uJ (x:AV) (i:Nat):Option AV:=match x with
 | .tup l=>l[i]?
 | _=>none
theorem aIm {P:Program} {γ:Gm} {a:AV} {x:Value} {i:Nat} {r:AV} (hx:VR γ a x) (h:uJ a i=some r):
  ∃ v,VR γ r v∧∀ w,(Instr.extract x i).run P w = .ok v w:=by
 unfold uJ at h
 split at h <;> first | (cases h;done) | skip
 rename_i l
 cases hx with
 | tup hl hh=>
   rename_i vs
   obtain ⟨x,h1,h2⟩:=LR.get (γ:=γ) (aS:=l) (vs:=vs.toList) ⟨by simpa using hl,fun i a x h1 h2=>hh i a x h1 (by simpa using h2)⟩ h
   have h1':vs[i]?=some x:=by simpa using h1
   exact ⟨x,h2,fun w=>by simp [Instr.extract,h1']⟩
def lI (x:Option AV) (dflt most:Nat):Option Nat:=match x with
 | none=>some dflt
 | some a=>match xG a with
   | none=>none
   | some (_,n)=>match Nat.ble n most with
     | true=>some n
     | false=>none
def aCu (P:Program) (t:TypeId) (x:AV) (lo hi mx:Option AV):Option AV:=match P.underlying t with
 | some (.slice e)=>match szB P e with
   | none=>none
   | some z=>match x with
     | .slg b off len esz=>match mx with
       | some mx=>match xG mx with
         | some (_,0)=>match lI hi 0 0 with
           | some 0=>match hi,lI lo 0 0 with
             | some _,some 0=>match Nat.beq off 0 with
               | true=>some (.sl b 0 0 0)
               | false=>none
             | _,_=>none
           | _=>none
         | _=>none
       | none=>match lI hi len len with
         | none=>none
         | some h=>match lI lo 0 h with
           | none=>none
           | some l=>match Nat.beq z esz,Nat.blt 0 z with
             | true,true=>some (.slg b (Nat.add off (Nat.mul l z)) (Nat.sub h l) esz)
             | _,_=>none
     | .sl b off len cap=>match mx with
       | some _=>none
       | none=>match lI hi len cap with
         | none=>none
         | some h=>match lI lo 0 h with
           | none=>none
           | some l=>match Nat.beq cap l with
             | true=>some (.sl b off (Nat.sub h l) (Nat.sub cap l))
             | false=>some (.sl b (Nat.add off (Nat.mul l z)) (Nat.sub h l) (Nat.sub cap l))
     | _=>none
 | some (.array n e)=>match szB P e with
   | none=>none
   | some z=>match x with
     | .ptr b off=>match mx with
       | some _=>none
       | none=>match lI hi n n with
         | none=>none
         | some h=>match lI lo 0 h with
           | none=>none
           | some l=>match Nat.beq n l with
             | true=>some (.sl b off (Nat.sub h l) (Nat.sub n l))
             | false=>some (.sl b (Nat.add off (Nat.mul l z)) (Nat.sub h l) (Nat.sub n l))
     | _=>none
 | _=>none
def OVR (γ:Gm):Option AV→Option Value→Prop
 | none,none=>True
 | some a,some x=>VR γ a x
 | _,_=>False
theorem jK {P:Program} {γ:Gm} {a:Option AV} {x:Option Value} {d most n:Nat} (hx:OVR γ a x) (h:lI a d most=some n):
  (x=none∧n=d)∨(n≤most∧∃ k,x=some (.int k (n:Int))):=by
 unfold lI at h
 cases a with
 | none=>
   cases x with
   | none=>injection h with h;exact .inl ⟨rfl,h.symm⟩
   | some x=>exact hx.elim
 | some a=>
   cases x with
   | none=>exact hx.elim
   | some x=>
     simp only at h
     split at h
     · cases h
     · rename_i k m hm
       split at h
       · rename_i hle
         injection h with h
         subst h
         exact .inr ⟨by simpa using aN hle,k,by rw [pX hx hm]⟩
       · cases h
theorem m6 {P:Program} (isS:Bool) (len cap l h:Nat) (lo hi:Option Value) (hcap:len≤cap) (hh:(hi=none∧h=len)∨(h≤cap∧∃ k,hi=some (.int k (h:Int))))
  (hl:(lo=none∧l=0)∨(l≤h∧∃ k,lo=some (.int k (l:Int)))) (w:World):(Instr.sliceBounds isS len cap lo hi none).run P w = .ok (l,h,cap) w:=by
 rcases hh with ⟨rfl,rfl⟩ | ⟨h1,k,rfl⟩ <;> rcases hl with ⟨rfl,rfl⟩ | ⟨h2,k',rfl⟩
 · simp [Instr.sliceBounds]
 · simp [Instr.sliceBounds,Instr.sliceBound,asIntOf]
   omega
 · simp [Instr.sliceBounds,Instr.sliceBound,asIntOf]
   omega
 · simp [Instr.sliceBounds,Instr.sliceBound,asIntOf,h1,h2]
theorem aMn {P:Program} {γ:Gm} {t:TypeId} {a:AV} {x:Value} {alo ahi amx:Option AV} {lo hi mx:Option Value} {r:AV} (hx:VR γ a x)
  (hlo:OVR γ alo lo) (hhi:OVR γ ahi hi) (hmx:OVR γ amx mx) (h:aCu P t a alo ahi amx=some r):
  ∃ v,VR γ r v∧∀ w,(Instr.sliceAt t x lo hi mx).run P w = .ok v w:=by
 unfold aCu at h
 split at h
 · rename_i e hu
   split at h
   · cases h
   rename_i z hz
   split at h
   · rename_i b off len esz
     split at h
     ·
      rename_i mxa
      split at h <;> first | (cases h;done) | skip
      rename_i k1 hk1
      split at h <;> first | (cases h;done) | skip
      rename_i hb0
      split at h <;> first | (cases h;done) | skip
      rename_i hia hlo0
      split at h <;> first | (cases h;done) | skip
      rename_i hoff
      have hoff:off=0:=by simpa using hoff
      injection h with h
      subst h hoff
      cases mx with
      | none=>exact hmx.elim
      | some mx=>
        obtain rfl:=pX hmx hk1
        cases hx with
        | slg hb hl hm ho=>
          obtain ⟨rfl,_⟩:=ho (.inl rfl)
          rename_i cap
          refine ⟨_,.sl hb (aH _),fun w=>?_⟩
          rcases jK (P:=P) hhi hb0 with ⟨rfl,_⟩ | ⟨_,k2,rfl⟩
          · exact hhi.elim
          · rcases jK (P:=P) hlo hlo0 with ⟨rfl,_⟩ | ⟨_,k3,rfl⟩
            · simp [Instr.sliceAt,run_underlying hu,Instr.slice,Instr.sliceBounds,Instr.sliceBound,asIntOf,szB_ok hz]
            · simp [Instr.sliceAt,run_underlying hu,Instr.slice,Instr.sliceBounds,Instr.sliceBound,asIntOf,szB_ok hz]
     · split at h
       · cases h
       rename_i hh hhb
       split at h
       · cases h
       rename_i l hlb
       split at h <;> first | (cases h;done) | skip
       rename_i hez hz0
       have hez:z=esz:=by simpa using hez
       have hz0:=cI hz0
       injection h with h
       subst h hez
       cases mx with
       | some mx=>exact hmx.elim
       | none=>
         have k1:=jK (P:=P) hhi hhb
         have k2:=jK (P:=P) hlo hlb
         cases hx with
         | slg hb hl hm ho=>
           rename_i n N o cap
           have hhl:hh≤len:=by rcases k1 with ⟨_,e⟩ | ⟨e,_⟩ <;> omega
           have hll:l≤hh:=by rcases k2 with ⟨_,e⟩ | ⟨e,_⟩ <;> omega
           have k1':(hi=none∧hh=len)∨(hh≤cap∧∃ k,hi=some (.int k (hh:Int))):=by
            rcases k1 with e | ⟨e,e2⟩
            · exact .inl e
            · exact .inr ⟨by omega,e2⟩
           have hb2:=fun w=>m6 (P:=P) true len cap l hh lo hi hl k1' k2 w
           refine ⟨.slice (if cap=l then some ⟨n,o,none⟩ else some ⟨n,o+l*z,none⟩) (hh - l) (cap - l),?_,fun w=>?_⟩
           · split
             · rename_i hc
               refine .slg hb (by simp only [Nat.sub_eq];omega) (by omega) (fun hor=>?_)
               simp only [Nat.add_eq,Nat.mul_eq,Nat.sub_eq] at hor
               rcases hor with hor | hor
               · have h0:off=0:=by omega
                 have hl0:l=0:=by
                  have:l*z=0:=by omega
                  rcases Nat.mul_eq_zero.1 this with e | e <;> omega
                 obtain ⟨e1,e2⟩:=ho (.inl h0)
                 subst hl0
                 simp only [Nat.add_eq,Nat.mul_eq,Nat.zero_mul,Nat.add_zero,Nat.sub_zero]
                 exact ⟨e1,e2⟩
               · omega
             · rename_i hc
               refine .slg hb (by simp only [Nat.sub_eq];omega) (by omega) (fun hor=>?_)
               simp only [Nat.add_eq,Nat.mul_eq,Nat.sub_eq] at hor
               have hpre:off=0∨0<len:=by
                rcases hor with hor | hor
                · left;omega
                · right;omega
               obtain ⟨e1,e2⟩:=ho hpre
               subst e1
               refine ⟨rfl,?_⟩
               simp only [Nat.add_eq,Nat.mul_eq]
               have:l*z+(cap - l)*z=cap*z:=by rw [← bD];congr 1;omega
               omega
           · simp [Instr.sliceAt,run_underlying hu,Instr.slice,hb2,szB_ok hz,Addr.add_mid]
   · rename_i b off len cap
     split at h
     · cases h
     split at h
     · cases h
     rename_i hh hhb
     split at h
     · cases h
     rename_i l hlb
     cases mx with
     | some mx=>exact hmx.elim
     | none=>
       have k1:=jK (P:=P) hhi hhb
       have k2:=jK (P:=P) hlo hlb
       cases hx with
       | sl hb hl=>
         have hb2:=fun w=>m6 (P:=P) true len cap l hh lo hi hl k1 k2 w
         have hhl:hh≤cap:=by rcases k1 with ⟨_,e⟩ | ⟨e,_⟩ <;> omega
         split at h
         · rename_i hc
           have hc:cap=l:=by simpa using hc
           injection h with h
           subst h hc
           refine ⟨_,.sl hb (by simp only [Nat.sub_eq];omega),fun w=>?_⟩
           simp [Instr.sliceAt,run_underlying hu,Instr.slice,hb2,szB_ok hz]
         · rename_i hc
           have hc:cap≠l:=fun e=>by rw [e] at hc;simp at hc
           injection h with h
           subst h
           refine ⟨_,.sl hb (by simp only [Nat.sub_eq];omega),fun w=>?_⟩
           simp [Instr.sliceAt,run_underlying hu,Instr.slice,hb2,szB_ok hz,hc,Addr.add_mid]
   · cases h
 · rename_i m e hu
   split at h
   · cases h
   rename_i z hz
   split at h <;> first | (cases h;done) | skip
   rename_i b off
   split at h
   · cases h
   split at h
   · cases h
   rename_i hh hhb
   split at h
   · cases h
   rename_i l hlb
   cases mx with
   | some mx=>exact hmx.elim
   | none=>
     have k1:=jK (P:=P) hhi hhb
     have k2:=jK (P:=P) hlo hlb
     cases hx with
     | ptr hb=>
       have hb2:=fun w=>m6 (P:=P) false m m l hh lo hi (aH _) k1 k2 w
       have hhl:hh≤m:=by rcases k1 with ⟨_,e⟩ | ⟨e,_⟩ <;> omega
       split at h
       · rename_i hc
         have hc:m=l:=by simpa using hc
         injection h with h
         subst h hc
         refine ⟨_,.sl hb (by simp only [Nat.sub_eq];omega),fun w=>?_⟩
         simp [Instr.sliceAt,run_underlying hu,Instr.sureAddr,hb2,szB_ok hz]
       · rename_i hc
         have hc:m≠l:=fun e=>by rw [e] at hc;simp at hc
         injection h with h
         subst h
         refine ⟨_,.sl hb (by simp only [Nat.sub_eq];omega),fun w=>?_⟩
         simp [Instr.sliceAt,run_underlying hu,Instr.sureAddr,hb2,szB_ok hz,hc,Addr.add_mid]
 · cases h
end Go.Sy
end
end
section
noncomputable section
namespace Go.Sy
open Go
def oE (P:Program) (x:AV) (asd:TypeId) (ok:Bool):Option AV:=match x with
 | .ifc t a=>match P.underlying asd with
   | some (.interface want)=>match P.info? t with
     | some i=>match Instr.missingMethod want i.methods with
       | none=>match ok with
         | true=>some (.tup [.ifc t a,.v (.bool true)])
         | false=>some (.ifc t a)
       | some _=>match ok with
         | true=>match iO P asd with
           | some z=>some (.tup [iN z,.v (.bool false)])
           | none=>none
         | false=>none
     | none=>none
   | some _=>match Nat.beq t asd with
     | true=>match ok with
       | true=>some (.tup [a,.v (.bool true)])
       | false=>some a
     | false=>match ok with
       | true=>match iO P asd with
         | some z=>some (.tup [iN z,.v (.bool false)])
         | none=>none
       | false=>none
   | none=>none
 | _=>none
theorem VR.tup2 {γ:Gm} {a b:AV} {x y:Value} (h:VR γ a x) (k:VR γ b y):VR γ (.tup [a,b]) (.tuple #[x,y]):=VR.tupL (LR.cons h (LR.cons k LR.nil))
theorem aDg {P:Program} {γ:Gm} {a:AV} {x:Value} {xT asd:TypeId} {ok:Bool} {r:AV} (hx:VR γ a x) (h:oE P a asd ok=some r):
  ∃ v,VR γ r v∧∀ w,(Instr.typeAssert x xT asd ok).run P w = .ok v w:=by
 unfold oE at h
 split at h <;> first | (cases h;done) | skip
 rename_i t a
 cases hx with
 | ifc hx=>
   rename_i x
   split at h
   · rename_i want hu
     split at h <;> first | (cases h;done) | skip
     rename_i i hi
     split at h
     · rename_i hm
       split at h
       · injection h with h
         subst h
         exact ⟨_,.tup2 (.ifc hx) (.v _),fun w=>by simp [Instr.typeAssert,run_underlying hu,typeInfo,hi,hm]⟩
       · injection h with h
         subst h
         exact ⟨_,.ifc hx,fun w=>by simp [Instr.typeAssert,run_underlying hu,typeInfo,hi,hm]⟩
     · rename_i nm hm
       split at h <;> first | (cases h;done) | skip
       split at h <;> first | (cases h;done) | skip
       rename_i z hz
       injection h with h
       subst h
       exact ⟨_,.tup2 (l4 z) (.v _),fun w=>by simp [Instr.typeAssert,run_underlying hu,typeInfo,hi,hm,qK hz]⟩
   · rename_i d hni hu
     have hrun:∀ w,(Instr.typeAssert (.iface t x) xT asd ok).run P w=(if t=asd then (pure (if ok then .tuple #[x,.bool true] else x):Sem Value) else (if ok then (do pure (.tuple #[← zeroValue asd,.bool false])) else runtimePanic (.typeAssertion (some xT) (some t) asd ""))).run P w:=by
      intro w
      unfold Instr.typeAssert
      rw [Sem.run_bind,run_underlying hu w,Result.andThen_ok]
      cases d <;> first | rfl | exact (hni _ rfl).elim
     split at h
     · rename_i he
       have he:t=asd:=by simpa using he
       split at h
       · injection h with h
         subst h
         exact ⟨_,.tup2 hx (.v _),fun w=>by rw [hrun,if_pos he];rfl⟩
       · injection h with h
         subst h
         exact ⟨_,hx,fun w=>by rw [hrun,if_pos he];rfl⟩
     · rename_i he
       have he:t≠asd:=fun e=>by rw [e] at he;simp at he
       split at h <;> first | (cases h;done) | skip
       split at h <;> first | (cases h;done) | skip
       rename_i z hz
       injection h with h
       subst h
       exact ⟨_,.tup2 (l4 z) (.v _),fun w=>by rw [hrun,if_neg he];simp [qK hz]⟩
   · cases h
def k6 (P:Program) (t:TypeId) (x:AV):Option AV:=match P.underlying t with
 | some (.interface _)=>none
 | some _=>some (.ifc t x)
 | none=>none
theorem zO {P:Program} {γ:Gm} {a:AV} {x:Value} {t:TypeId} {r:AV} (hx:VR γ a x) (h:k6 P t a=some r):
  ∃ v,VR γ r v∧∀ w,(Instr.makeInterface t x).run P w = .ok v w:=by
 unfold k6 at h
 split at h <;> first | (cases h;done) | skip
 rename_i d hni hu
 injection h with h
 subst h
 refine ⟨_,.ifc hx,fun w=>?_⟩
 unfold Instr.makeInterface
 rw [Sem.run_bind,run_underlying hu w,Result.andThen_ok]
 cases d <;> first | rfl | exact (hni _ rfl).elim
def splice {α:Type} (cs:List α) (off:Nat) (l:List α):List α:=cs.take off++(l++cs.drop (off+l.length))
theorem yK:∀ (l:List Value) (off k:Nat) (cells:Array Value),off+k+l.length≤cells.size→
  ((l.zipIdx k).foldl (fun cs p=>cs.setIfInBounds (off+p.2) p.1) cells).toList=splice cells.toList (off+k) l
 | [],off,k,cells,_=>by simp [splice]
 | v::l,off,k,cells,h=>by
   have hl:off+k+1+l.length≤cells.size:=by simp at h;omega
   rw [List.zipIdx_cons,List.foldl_cons,yK l off (k+1) _ (by simp;omega)]
   have:=list_seg_step cells.toList (off+k) v l (by simp;omega)
   simp only [splice,Array.toList_setIfInBounds,aK,aB] at this ⊢
   rw [show off+(k+1)=off+k+1 by omega,this]
theorem aNl (l:List Value) (off:Nat) (cells:Array Value) (h:off+l.length≤cells.size) (v:Value) (hv:v.cells.toList=l):
  (v.cells.zipIdx.foldl (fun cs (x:Value×Nat)=>match x with | (c,j)=>cs.setIfInBounds (off+j) c) cells).toList=splice cells.toList off l:=by
 have:=yK l off 0 cells (by omega)
 subst hv
 rw [Nat.add_zero] at this
 rw [← this]
 congr 1
 rw [← Array.foldl_toList]
 simp [Array.toList_zipIdx]
def sD (place:Nat→Option (Nat×Nat)) (cs:List AV):List (Nat×AV)→Option (List AV)
 | []=>some cs
 | p::rest=>match place p.1 with
   | none=>none
   | some q=>match Nat.beq p.2.cells.length q.2,Nat.ble (Nat.add q.1 q.2) cs.length with
     | true,true=>sD place (splice cs q.1 p.2.cells) rest
     | _,_=>none
theorem LR.splice {γ:Gm} {aS bs:List AV} {vs ws:List Value} (h:LR γ aS vs) (k:LR γ bs ws) (off:Nat):LR γ (splice aS off bs) (splice vs off ws):=by
 unfold Sy.splice
 rw [k.1]
 exact (h.take off).append (k.append (h.drop _))
theorem vM {γ:Gm} (place:Nat→Option (Nat×Nat)):∀ {ps:List (Nat×AV)} {cs:List AV} {vs:Array Value} {qs:List (Nat×Value)} {r:List AV},LR γ cs vs.toList→
  (ps.map (·.1)=qs.map (·.1))→LR γ (ps.map (·.2)) (qs.map (·.2))→sD place cs ps=some r→∃ cells,Instr.fill place vs qs=some cells∧LR γ r cells.toList
 | [],cs,vs,qs,r,hc,h1,h2,h=>by
   cases qs with
   | nil=>simp [sD] at h;subst h;exact ⟨vs,rfl,hc⟩
   | cons q qs=>simp at h1
 | p::ps,cs,vs,qs,r,hc,h1,h2,h=>by
   cases qs with
   | nil=>simp at h1
   | cons q qs=>
     obtain ⟨i,a⟩:=p
     obtain ⟨j,x⟩:=q
     simp only [List.map_cons,List.cons.injEq] at h1
     obtain ⟨rfl,h1⟩:=h1
     have hax:VR γ a x:=h2.2 0 a x rfl rfl
     have h2':LR γ (ps.map (·.2)) (qs.map (·.2)):=⟨by have:=h2.1;simpa using this,fun i b y e1 e2=>h2.2 (i+1) b y (by simpa using e1) (by simpa using e2)⟩
     simp only [sD] at h
     cases hp:place i with
     | none=>rw [hp] at h;cases h
     | some q=>
       obtain ⟨off,size⟩:=q
       rw [hp] at h
       simp only at h
       split at h
       · rename_i e1 e2
         have e1:a.cells.length=size:=by simpa using e1
         have e2:off+size≤cs.length:=by simpa using aN e2
         have hxc:=hax.cells
         have hsz:x.cells.size=size:=by rw [← e1,hxc.1];simp
         have hcs:cs.length=vs.size:=by rw [hc.1];simp
         have hst:=aNl x.cells.toList off vs (by simp;omega) x rfl
         obtain ⟨cells,h3,h4⟩:=vM place (vs:=(x.cells.zipIdx.foldl (fun cs (x:Value×Nat)=>match x with | (c,j)=>cs.setIfInBounds (off+j) c) vs)) (by rw [hst];exact hc.splice hxc off) h1 h2' h
         refine ⟨cells,?_,h4⟩
         unfold Instr.fill
         simp only [hp]
         rw [if_neg (by simp [hsz];omega)]
         exact h3
       · cases h
def p6 (P:Program):List Field→Option (List (Nat×Nat))
 | []=>some []
 | f::l=>match szB P f.type with
   | none=>none
   | some n=>match p6 P l with
     | none=>none
     | some r=>some ((f.offset,n)::r)
theorem aBt {P:Program}:∀ {l:List Field} {r:List (Nat×Nat)},p6 P l=some r→l.mapM (fun f=>(P.info? f.type).map fun i=>(f.offset,i.size))=some r
 | [],r,h=>by simp [p6] at h;subst h;rfl
 | f::l,r,h=>by
   simp only [p6] at h
   cases h1:szB P f.type with
   | none=>rw [h1] at h;cases h
   | some n=>
     rw [h1] at h
     cases h2:p6 P l with
     | none=>rw [h2] at h;cases h
     | some s=>
       rw [h2] at h
       injection h with h
       subst h
       unfold szB at h1
       split at h1 <;> first | (cases h1;done) | skip
       rename_i i hi
       injection h1 with h1
       subst h1
       simp [hi,aBt h2]
def mZ (P:Program) (T:Tr AV):List (Nat×Operand)→Option (List (Nat×AV))
 | []=>some []
 | p::l=>match aev P T p.2 with
   | none=>none
   | some a=>match mZ P T l with
     | none=>none
     | some r=>some ((p.1,a)::r)
theorem wN {P:Program} {γ:Gm} {T:Tr AV} {a:Act}:∀ {l:List (Nat×Operand)} {aS:List (Nat×AV)},Ok P γ T a (l.map (·.2))→mZ P T l=some aS→
  aS.map (·.1)=(l.map fun p=>(p.1,a.eval p.2)).map (·.1)∧LR γ (aS.map (·.2)) ((l.map fun p=>(p.1,a.eval p.2)).map (·.2))
 | [],aS,_,h=>by simp [mZ] at h;subst h;exact ⟨rfl,LR.nil⟩
 | p::l,aS,ho,h=>by
   simp only [mZ] at h
   cases h1:aev P T p.2 with
   | none=>rw [h1] at h;cases h
   | some av=>
     rw [h1] at h
     cases h2:mZ P T l with
     | none=>rw [h2] at h;cases h
     | some r=>
       rw [h2] at h
       injection h with h
       subst h
       have:=wN (fun y hy=>ho y (bA _ hy)) h2
       exact ⟨by simp at this ⊢;exact this.1,LR.cons (ho p.2 (by simp) av h1) this.2⟩
def aCh (P:Program) (t:TypeId) (ps:List (Nat×AV)):Option AV:=match iO P t with
 | none=>none
 | some z=>match P.underlying t with
   | some (.struct fs)=>match p6 P fs.toList with
     | none=>none
     | some pl=>match sD (fun i=>pl[i]?) (z.cells.toList.map .v) ps with
       | none=>none
       | some r=>some (.agg r)
   | some (.array _ e)=>match szB P e with
     | none=>none
     | some n=>match sD (fun i=>some (Nat.mul i n,n)) (z.cells.toList.map .v) ps with
       | none=>none
       | some r=>some (.agg r)
   | _=>none
theorem aM0 {P:Program} {γ:Gm} {t:TypeId} {ps:List (Nat×AV)} {qs:Array (Nat×Value)} {r:AV} (h1:ps.map (·.1)=qs.toList.map (·.1)) (h2:LR γ (ps.map (·.2)) (qs.toList.map (·.2)))
  (h:aCh P t ps=some r):∃ v,VR γ r v∧∀ w,(Instr.build t qs).run P w = .ok v w:=by
 unfold aCh at h
 split at h
 · cases h
 rename_i z hz
 unfold iO at hz
 split at hz <;> first | (cases hz;done) | skip
 rename_i it hit
 split at h
 · rename_i fs hu
   split at h
   · cases h
   rename_i pl hpl
   split at h
   · cases h
   rename_i r hf
   injection h with h
   subst h
   obtain ⟨cells,h3,h4⟩:=vM _ (vs:=z.cells) (LR.vs _) h1 h2 hf
   refine ⟨.agg cells,by simpa using VR.aggL h4,fun w=>run_build w t qs cells ?_⟩
   unfold Program.built
   simp only [hit,hu,hz,aBt hpl]
   rw [← h3]
   congr 1
   funext i
   simp
 · rename_i n e hu
   split at h
   · cases h
   rename_i m hm
   split at h
   · cases h
   rename_i r hf
   injection h with h
   subst h
   obtain ⟨cells,h3,h4⟩:=vM _ (vs:=z.cells) (LR.vs _) h1 h2 hf
   refine ⟨.agg cells,by simpa using VR.aggL h4,fun w=>run_build w t qs cells ?_⟩
   unfold szB at hm
   split at hm <;> first | (cases hm;done) | skip
   rename_i ie hie
   injection hm with hm
   subst hm
   unfold Program.built
   simp only [hit,hu,hz,hie]
   exact h3
 · cases h
def aLi (P:Program) (op:BinOp) (t:TypeId) (x y:AV):Option AV:=
 match op with
 | .eql=>match P.underlying t,x,y with
   | some (.pointer _),.ptr _ _,.v (.pointer none)=>some (.v (.bool false))
   | some (.pointer _),.v (.pointer none),.ptr _ _=>some (.v (.bool false))
   | some (.slice _),.sl _ _ _ _,.v (.slice none _ _)=>some (.v (.bool false))
   | some (.slice _),.slg _ _ _ _,.v (.slice none _ _)=>some (.v (.bool false))
   | some (.func _ _ _),.fn _ _ _,.v .nilFunc=>some (.v (.bool false))
   | some (.map _ _),.map _,.v (.map none)=>some (.v (.bool false))
   | some (.interface _),.ifc _ _,.v .nilIface=>some (.v (.bool false))
   | _,_,_=>none
 | .neq=>match P.underlying t,x,y with
   | some (.pointer _),.ptr _ _,.v (.pointer none)=>some (.v (.bool true))
   | some (.pointer _),.v (.pointer none),.ptr _ _=>some (.v (.bool true))
   | some (.slice _),.sl _ _ _ _,.v (.slice none _ _)=>some (.v (.bool true))
   | some (.slice _),.slg _ _ _ _,.v (.slice none _ _)=>some (.v (.bool true))
   | some (.func _ _ _),.fn _ _ _,.v .nilFunc=>some (.v (.bool true))
   | some (.map _ _),.map _,.v (.map none)=>some (.v (.bool true))
   | some (.interface _),.ifc _ _,.v .nilIface=>some (.v (.bool true))
   | _,_,_=>none
 | _=>none
theorem eqG {P:Program} {op:BinOp} {t:TypeId} {x y:Value} {ox oy:Operand} {w:World} (h1:eqGuard op t ox oy x y=pure ()) {r:Value} (h2:(binOp op t x y).run P w = .ok r w):
  (do eqGuard op t ox oy x y;binOp op t x y:Sem Value).run P w = .ok r w:=by
 rw [h1,Sem.run_bind,Sem.run_pure,Result.andThen_ok]
 exact h2
theorem eqE {P:Program} {t:TypeId} {x y:Value} {w:World} {b:Bool} (h1:binOp .eql t x y=(do pure (.bool (← Op.equal t x y)))) (h2:(Op.equalIn (9999+1) t x y).run P w = .ok b w):
  (binOp .eql t x y).run P w = .ok (.bool b) w:=by
 rw [h1,Sem.run_bind]
 have:(Op.equal t x y).run P w = .ok b w:=h2
 rw [this]
 rfl
theorem neE {P:Program} {t:TypeId} {x y:Value} {w:World} {b:Bool} (h1:binOp .neq t x y=(do pure (.bool (!(← Op.equal t x y))))) (h2:(Op.equalIn (9999+1) t x y).run P w = .ok b w):
  (binOp .neq t x y).run P w = .ok (.bool !b) w:=by
 rw [h1,Sem.run_bind]
 have:(Op.equal t x y).run P w = .ok b w:=h2
 rw [this]
 rfl
theorem aTk {P:Program} {γ:Gm} {op:BinOp} {t:TypeId} {a b:AV} {x y:Value} {r:AV} (hx:VR γ a x) (hy:VR γ b y) (h:aLi P op t a b=some r) (ox oy:Operand):
  ∃ v,VR γ r v∧∀ w,(do eqGuard op t ox oy x y;binOp op t x y:Sem Value).run P w = .ok v w:=by
 unfold aLi at h
 split at h <;> first | (cases h;done) | skip
 all_goals
  split at h <;> first | (cases h;done) | skip
 all_goals
  rename_i hu
  injection h with h
  subst h
  refine ⟨_,.v _,fun w=>?_⟩
  cases hx
  cases hy
  refine eqG rfl ?_
  first
   | (refine eqE (b:=false) rfl ?_;unfold Op.equalIn;rw [Sem.run_bind,run_underlying hu w,Result.andThen_ok];rfl)
   | (refine neE (b:=false) rfl ?_;unfold Op.equalIn;rw [Sem.run_bind,run_underlying hu w,Result.andThen_ok];rfl)
def aMi (P:Program) (ts:Array TypeId) (x:AV):Option AV:=match ts[0]? with
 | none=>none
 | some t=>match P.underlying t with
   | some (.slice _)=>match x with
     | .sl _ _ len _=>some (.v (.int .i64 (.ofNat len)))
     | .slg _ _ len _=>some (.v (.int .i64 (.ofNat len)))
     | _=>none
   | _=>none
theorem aTn {P:Program} {γ:Gm} {ts:Array TypeId} {ty:TypeId} {a:AV} {x:Value} {r:AV} (hx:VR γ a x) (h:aMi P ts a=some r):
  ∃ v,VR γ r v∧∀ w,(Builtin.len_ ts ty #[x]).run P w = .ok v w:=by
 unfold aMi at h
 split at h
 · cases h
 rename_i t ht
 split at h <;> first | (cases h;done) | skip
 rename_i e hu
 split at h <;> first | (cases h;done) | skip
 all_goals
  injection h with h
  subst h
  cases hx
  exact ⟨_,.v _,fun w=>by simp [Builtin.len_,ht,run_underlying hu,goInt]⟩
def aLl (P:Program) (ts:Array TypeId) (x:AV):Option AV:=match ts[0]? with
 | none=>none
 | some t=>match P.underlying t with
   | some (.slice _)=>match x with
     | .sl _ _ _ cap=>some (.v (.int .i64 (.ofNat cap)))
     | _=>none
   | _=>none
theorem aT4 {P:Program} {γ:Gm} {ts:Array TypeId} {ty:TypeId} {a:AV} {x:Value} {r:AV} (hx:VR γ a x) (h:aLl P ts a=some r):
  ∃ v,VR γ r v∧∀ w,(Builtin.cap_ ts ty #[x]).run P w = .ok v w:=by
 unfold aLl at h
 split at h
 · cases h
 rename_i t ht
 split at h <;> first | (cases h;done) | skip
 rename_i e hu
 split at h <;> first | (cases h;done) | skip
 injection h with h
 subst h
 cases hx
 exact ⟨_,.v _,fun w=>by simp [Builtin.cap_,ht,run_underlying hu,goInt]⟩
def yH:AV→Option AV
 | .ptr b off=>some (.ptr b off)
 | .fn (.func f) aS bs=>some (.fn (.func f) aS bs)
 | .ifc t x=>some (.ifc t x)
 | _=>none
end Go.Sy
end
end
section
noncomputable section
namespace Go.Sy
open Go Go.RowKit
def cellsAt (cs:Tr AV):Nat→Nat→Option (List AV)
 | _,0=>some []
 | off,n+1=>match cs.get off with
   | none=>none
   | some a=>match cellsAt cs (Nat.succ off) n with
     | none=>none
     | some r=>some (a::r)
def d6 (cs:Tr AV) (off:Nat) (l:List AV):Tr AV:=List.rec (motive:=fun _=>Tr AV→Nat→Tr AV) (fun cs _=>cs) (fun a _ ih cs off=>ih (cs.put off (some a)) (Nat.succ off)) l cs off
theorem aO6 (cs:Tr AV) (off:Nat) (a:AV) (l:List AV):d6 cs off (a::l)=d6 (cs.put off (some a)) (Nat.succ off) l:=rfl
theorem f0:∀ (l:List AV) (cs:Tr AV) (off i:Nat),(d6 cs off l).get i=if off≤i∧i<off+l.length then l[i - off]? else cs.get i
 | [],cs,off,i=>by rw [if_neg (by simp <;> omega)];rfl
 | a::l,cs,off,i=>by
   rw [aO6,f0 l,Tr.get_put,show Nat.succ off=off+1 from rfl]
   by_cases h1:i=off
   · subst h1
     rw [if_neg (by omega),if_pos rfl,if_pos (by simp)]
     simp
   · by_cases h2:off+1≤i∧i<off+1+l.length
     · rw [if_pos h2,if_pos (by simp;omega),show i - off=(i - (off+1))+1 by omega,List.getElem?_cons_succ]
     · rw [if_neg (by simpa using h2),if_neg h1,if_neg (by simp;omega)]
theorem sT {cs:Tr AV}:∀ {n off:Nat} {l:List AV},cellsAt cs off n=some l→l.length=n∧∀ i,i<n→cs.get (off+i)=l[i]?
 | 0,off,l,h=>by simp [cellsAt] at h;subst h;exact ⟨rfl,fun i hi=>by omega⟩
 | n+1,off,l,h=>by
   simp only [cellsAt] at h
   cases h1:cs.get off with
   | none=>rw [h1] at h;cases h
   | some a=>
     rw [h1] at h
     cases h2:cellsAt cs (Nat.succ off) n with
     | none=>rw [h2] at h;cases h
     | some r=>
       rw [h2] at h
       injection h with h
       subst h
       obtain ⟨h3,h4⟩:=sT h2
       refine ⟨by simp [h3],fun i hi=>?_⟩
       cases i with
       | zero=>simpa using h1
       | succ i=>
         have:=h4 i (by omega)
         rw [show off+(i+1)=Nat.succ off+i by omega,this]
         rfl
section
variable {P:Program} {B:Nat→Prop} {G:Nat} {γ:Gm} {h:Hp} {c:Nat} {w:World}
theorem HR.cellsAt (hr:HR B G γ h c w) {b n N:Nat} (hb:γ b=some (n,N)) {ty:Nat} {own clean ex:Bool} {lim:Nat} {cs:Tr AV} (hg:h.get b=some (.cells ty own clean ex lim cs))
  {off k:Nat} {l:List AV} (hl:Sy.cellsAt cs off k=some l) (hlim:off+k≤lim):∃ vs,LR γ l vs∧vs.length=k∧w.rangeAt n off vs∧off+k≤N∨k=0∧l=[]:=by
 rcases bM k with h0 | hpos
 · subst h0
   exact ⟨[],.inr ⟨rfl,by simpa [Sy.cellsAt] using hl.symm⟩⟩
 obtain ⟨p,hp,hbr⟩:=hr.live b _ hg
 rw [hb] at hp
 injection hp with hp
 subst hp
 obtain ⟨h0,cc,ty',fz,h1,h2,h3,h4⟩:=hbr
 obtain ⟨h5,h6⟩:=sT hl
 have hex:∀ i,i<k→∃ x,cc[off+i]?=some x∧∀ a,l[i]?=some a→VR γ a x:=by
  intro i hi
  obtain ⟨a,ha⟩:∃ a,l[i]?=some a:=⟨l[i],aO (by omega)⟩
  obtain ⟨x,h7,h8⟩:=h4 (off+i) a (by omega) (by rw [h6 i hi,ha])
  exact ⟨x,h7,fun a' ha'=>by rw [ha] at ha';injection ha' with ha';subst ha';exact h8⟩
 have hbd:off+k≤N:=by
  obtain ⟨x,hx,_⟩:=hex (k - 1) (by omega)
  have:=(Array.getElem?_eq_some_iff.1 hx).1
  simp only at h2
  omega
 refine ⟨(cc.toList.drop off).take k,.inl ⟨⟨by simp [h5,h2];omega,fun i a x ha hx=>?_⟩,by simp [h2];omega,fun j v hv=>?_,hbd⟩⟩
 · rw [List.getElem?_take] at hx
   split at hx
   · rename_i hi
     obtain ⟨y,h7,h8⟩:=hex i hi
     simp at hx
     rw [h7] at hx
     injection hx with hx
     subst hx
     exact h8 a ha
   · cases hx
 · rw [List.getElem?_take] at hv
   split at hv
   · rename_i hi
     simp at hv
     rw [cell_of_row w n (off+j) cc ty' fz h1]
     exact hv
   · cases hv
end
def lA (P:Program) (t:TypeId) (x:AV) (h:Hp):Option AV:=match x with
 | .ptr b off=>match h.get b with
   | some (.cells _ _ _ _ lim cs)=>match aggB P t with
     | some true=>match szB P t with
       | none=>none
       | some n=>match Nat.ble (Nat.add off n) lim with
         | true=>match cellsAt cs off n with
           | none=>none
           | some l=>some (.agg l)
         | false=>none
     | some false=>match Nat.blt off lim with
       | true=>cs.get off
       | false=>none
     | none=>none
   | _=>none
 | _=>none
theorem nQ {P:Program} {B:Nat→Prop} {G:Nat} {γ:Gm} {h:Hp} {c:Nat} {w:World} {t:TypeId} {a:AV} {x:Value} {r:AV} (hr:HR B G γ h c w) (hx:VR γ a x) (hh:lA P t a h=some r):
  ∃ v,VR γ r v∧(Instr.loadAt t x).run P w = .ok v w:=by
 unfold lA at hh
 split at hh <;> first | (cases hh;done) | skip
 rename_i b off
 split at hh <;> first | (cases hh;done) | skip
 rename_i ty own clean ex lim cs hg
 cases hx with
 | ptr hb=>
   rename_i n N
   split at hh
   · rename_i ha
     split at hh
     · cases hh
     rename_i k hk
     split at hh <;> first | (cases hh;done) | skip
     rename_i hle
     have hle:off+k≤lim:=aN hle
     split at hh
     · cases hh
     rename_i l hl
     injection hh with hh
     subst hh
     obtain ⟨d,hd,hrow⟩:∃ d,P.underlying t=some d∧d.isRow=true:=by
      unfold aggB at ha
      split at ha <;> first | (cases ha;done) | exact ⟨_,by assumption,rfl⟩
     have hsz:(P.info? t).map (·.size)=some k:=by
      unfold szB at hk
      split at hk
      · rename_i i hi;injection hk with hk;rw [hi];simp [hk]
      · cases hk
     obtain ⟨vs,⟨h1,h2,h3,_⟩ | ⟨h1,h2⟩⟩:=hr.cellsAt hb hg hl hle
     · refine ⟨_,VR.aggL h1,run_loadAt_mid w n off t vs d h3 hd hrow (by rw [h2];exact hsz)⟩
     · subst h1 h2
       refine ⟨_,VR.aggL LR.nil,run_loadAt_mid w n off t [] d (fun j v hv=>by simp at hv) hd hrow (by simpa using hsz)⟩
   · rename_i ha
     split at hh <;> first | (cases hh;done) | skip
     rename_i hlt
     have hlt:=cI hlt
     obtain ⟨p,hp,hbr⟩:=hr.live b _ hg
     rw [hb] at hp
     injection hp with hp
     subst hp
     obtain ⟨h0,cc,ty',fz,h1,h2,h3,h4⟩:=hbr
     obtain ⟨v,h5,h6⟩:=h4 off r hlt hh
     have hc:w.cell? ⟨n,off,none⟩=some v:=by rw [cell_of_row w n off cc ty' fz h1];exact h5
     refine ⟨v,h6,?_⟩
     simp [Instr.loadAt,Instr.sureAddr,loadVar,tP ha,hc]
   · cases hh
inductive R1 where
 | fail
 | val (a:AV) (h:Hp) (c:Nat)
 | pan (a:AV) (h:Hp) (c:Nat)
def KOk (B:Nat→Prop) (G:Nat) (γ:Gm) (w0:World) (a:Act) (dst:Option Tmp) (K:Act→World→Prop) (Q:Exit→Act→World→Prop):R1→Prop
 | .fail=>False
 | .val av h c=>∀ γ' v w',Gm.le γ γ'→VR γ' av v→HR B G γ' h c w'→Keep B w0 w'→K (a.put dst v) w'
 | .pan av h c=>∀ γ' v w',Gm.le γ γ'→VR γ' av v→HR B G γ' h c w'→Keep B w0 w'→Q (.panic [{ v,recovered:=false }]) a w'
def kO (ty:Nat) (l:List AV) (h:Hp) (c:Nat):Hp:=h.put c (some (.cells ty true true true l.length (d6 .leaf 0 l)))
theorem oU {B:Nat→Prop} {G:Nat} {γ:Gm} {h:Hp} {c:Nat} {w w0:World} (hr:HR B G γ h c w) (hb:Keep B w0 w) {l:List AV} {vs:List Value} (hl:LR γ l vs) (ty:Nat):
  Gm.le γ (γ.upd c (w.heap.size,vs.length))∧(γ.upd c (w.heap.size,vs.length)) c=some (w.heap.size,vs.length)∧
   HR B G (γ.upd c (w.heap.size,vs.length)) (kO ty l h c) (c+1) (w.alloc (.cells vs.toArray ty))∧Keep B w0 (w.alloc (.cells vs.toArray ty)):=by
 have hle:=Gm.upd_le (hr.fresh c (aH _)) (w.heap.size,vs.length)
 refine ⟨hle,Gm.upd_same _ _ _,hr.alloc _ _ _ ⟨fun _=>hr.new,vs.toArray,_,(0,0),heap_alloc_new w _,by simp,⟨fun _=>⟨rfl,rfl⟩,fun _=>⟨by simp [hl.1],rfl⟩⟩,fun i a hlt hi=>?_⟩,hb.alloc hr.base _⟩
 rw [f0,if_pos ⟨by omega,by omega⟩] at hi
 obtain ⟨x,h1,h2⟩:=hl.get (by simpa using hi)
 exact ⟨x,by simpa using h1,h2.mono hle⟩
def oR (P:Program) (e:TypeId) (h:Hp) (c:Nat):R1:=match iO P e with
 | none => .fail
 | some z => .val (.ptr c 0) (kO e (z.cells.toList.map .v) h c) (Nat.succ c)
def aMe (e:TypeId) (x:AV) (h:Hp) (c:Nat):R1 := .val (.ptr c 0) (kO e x.cells h c) (Nat.succ c)
section
variable {P:Program} {B:Nat→Prop} {G:Nat} {γ:Gm} {h:Hp} {c:Nat} {w w0:World} {o:Oper} {a:Act} {K:Act→World→Prop} {Q:Exit→Act→World→Prop}
theorem dM {v:Value} {w':World} (hrun:(execOp a.eval o).run P w = .ok (.value v) w') (hK:K (a.put o.dst v) w'):o.wp P a w K Q:=by
 unfold Oper.wp
 rw [hrun]
 exact hK
theorem qZ {w':World} (hrun:(execOp a.eval o).run P w = .ok .skip w') (hK:K (a.put o.dst undef) w'):o.wp P a w K Q:=by
 unfold Oper.wp
 rw [hrun]
 exact hK
theorem aPe (hr:HR B G γ h c w) (hb:Keep B w0 w) {e:TypeId} (ho:o.op = .alloc e) (hk:KOk B G γ w0 a o.dst K Q (oR P e h c)):o.wp P a w K Q:=by
 unfold oR at hk
 split at hk
 · exact hk.elim
 rename_i z hz
 obtain ⟨h1,h2,h3,h4⟩:=oU hr hb (LR.vs (γ:=γ) z.cells.toList) e
 refine dM ?_ (hk _ _ _ h1 (.ptr h2) h3 h4)
 unfold execOp
 rw [ho]
 simp only [Sem.run_bind,Sem.run_pure,Instr.alloc,qK hz,Result.andThen_ok,newVar,newRow,run_newObj,Array.toArray_toList]
 rfl
theorem aS0 (hr:HR B G γ h c w) (hb:Keep B w0 w) {e:TypeId} {x:Operand} {ax:AV} (ho:o.op = .box e x) (hx:VR γ ax (a.eval x)) (hk:KOk B G γ w0 a o.dst K Q (aMe e ax h c)):o.wp P a w K Q:=by
 unfold aMe at hk
 obtain ⟨h1,h2,h3,h4⟩:=oU hr hb hx.cells e
 refine dM ?_ (hk _ _ _ h1 (.ptr h2) h3 h4)
 unfold execOp
 rw [ho]
 simp only [Sem.run_bind,Sem.run_pure,Instr.box,Result.andThen_ok,newVar,newRow,run_newObj,Array.toArray_toList]
 rfl
def vA (z:List AV) (n:Nat):List AV:=match n with
 | 0=>[]
 | n+1=>z++vA z n
theorem aAc {zs:List AV} {vs:List Value} (hz:LR γ zs vs):∀ n,LR γ (vA zs n) ((List.replicate n vs).flatten)
 | 0=>LR.nil
 | n+1=>by rw [List.replicate_succ,List.flatten_cons];exact hz.append (aAc hz n)
theorem wF (vs:Array Value) (n:Nat) (hn:0<vs.size):((Array.range (n*vs.size)).map (vs[· % vs.size]!)).toList=(List.replicate n vs.toList).flatten:=by
 simp only [Array.toList_map,Array.toList_range]
 induction n with
 | zero=>simp
 | succ n ih=>
   rw [List.replicate_succ',List.flatten_append,← ih,bD,Nat.one_mul,List.range_add,List.map_append]
   congr 1
   simp only [List.map_map,List.flatten_cons,List.flatten_nil,bF]
   apply List.ext_getElem?
   intro i
   simp only [List.getElem?_map,Function.comp_apply]
   by_cases hi:i<vs.size
   · rw [List.getElem?_range hi]
     have:(n*vs.size+i) % vs.size=i:=by rw [Nat.add_comm,Nat.add_mul_mod_self_right,Nat.mod_eq_of_lt hi]
     simp [this,hi]
   · rw [List.getElem?_eq_none (by simp;omega),List.getElem?_eq_none (by simp;omega)]
     rfl
def oI (P:Program) (t:TypeId) (len:Nat) (ps:List (Nat×AV)) (h:Hp) (c:Nat):R1:=match P.underlying t with
 | some (.slice e)=>match szB P e,iO P e with
   | some n,some z=>match Nat.beq z.cells.size n,Nat.ble (Nat.mul len n) 16777216,Nat.blt 0 n with
     | true,true,true=>match sD (fun i=>some (Nat.mul i n,n)) (vA (z.cells.toList.map .v) len) ps with
       | none => .fail
       | some r=>match Nat.beq r.length (Nat.mul len n),Nat.ble len 9223372036854775807 with
         | true,true => .val (.slg c 0 len n) (kO e r h c) (Nat.succ c)
         | _,_ => .fail
     | _,_,_ => .fail
   | _,_ => .fail
 | _ => .fail
theorem aDa (hr:HR B G γ h c w) (hb:Keep B w0 w) {t:TypeId} {len:Nat} {parts:Array (Nat×Operand)} {ps:List (Nat×AV)} (ho:o.op = .buildSlice t len parts)
  (h1:ps.map (·.1)=(parts.toList.map fun p=>(p.1,a.eval p.2)).map (·.1)) (h2:LR γ (ps.map (·.2)) ((parts.toList.map fun p=>(p.1,a.eval p.2)).map (·.2)))
  (hk:KOk B G γ w0 a o.dst K Q (oI P t len ps h c)):o.wp P a w K Q:=by
 unfold oI at hk
 split at hk <;> first | exact hk.elim | skip
 rename_i e hu
 split at hk <;> first | exact hk.elim | skip
 rename_i n z hn hz
 split at hk <;> first | exact hk.elim | skip
 rename_i e1 e2 e3
 have e1:z.cells.size=n:=by simpa using e1
 have e2:len*n≤16777216:=aN e2
 have e3:=cI e3
 split at hk <;> first | exact hk.elim | skip
 rename_i r hf
 split at hk <;> first | exact hk.elim | skip
 rename_i e4 e5
 have e4:r.length=len*n:=by simpa using e4
 have e5:len≤9223372036854775807:=aN e5
 have hzl:LR γ (vA (z.cells.toList.map .v) len) ((Array.range (len*n)).map (z.cells[· % z.cells.size]!)).toList:=by
  rw [← e1,wF z.cells len (by omega)]
  exact aAc (LR.vs _) len
 obtain ⟨cells,h3,h4⟩:=vM _ hzl h1 h2 hf
 obtain ⟨k1,k2,k3,k4⟩:=oU hr hb h4 e
 have hln:cells.toList.length=len*n:=by rw [← h4.1,e4]
 refine dM ?_ (hk _ _ _ k1 (.slg k2 (aH _) (by simp only [maxLen];omega) (fun _=>⟨rfl,by rw [hln];omega⟩)) k3 k4)
 unfold szB at hn
 split at hn <;> first | (cases hn;done) | skip
 rename_i ie hie
 injection hn with hn
 subst hn
 unfold iO at hz
 rw [hie] at hz
 unfold execOp
 rw [ho]
 have hpm:(parts.map fun (i,x)=>(i,a.eval x)).toList=parts.toList.map fun p=>(p.1,a.eval p.2):=by simp
 rcases bM len with hl0 | hlpos
 · subst hl0
   simp only [Nat.zero_mul] at h3 e4
   have hr0:cells=#[]:=Array.eq_empty_of_size_eq_zero (by simpa using hln)
   subst hr0
   have hp0:(parts.map fun (i,x)=>(i,a.eval x)).toList=[]:=by
    rw [hpm]
    cases hpp:parts.toList with
    | nil=>rfl
    | cons p l=>
      exfalso
      cases ps with
      | nil=>rw [hpp] at h1;simp at h1
      | cons q l'=>
        simp only [sD,vA,aD] at hf
        split at hf
        · rename_i _ e6
          have:=aN e6
          simp only [Nat.add_eq] at this
          omega
        · cases hf
   have hp0':(parts.map fun (x:Nat×Operand)=>match x with | (i,x)=>(i,a.eval x))=#[]:=by
    apply Array.ext'
    simpa using hp0
   simp only [Sem.run_bind,Sem.run_pure,Instr.buildSlice,run_underlying hu,Result.andThen_ok,sizeOf,typeInfo,run_program,hie,hp0']
   have hra:Array.range 0=#[]:=rfl
   simp [Instr.fill,newRow,hie,hra]
 · have hpos:¬ len*ie.size=0:=by
    intro e0
    rcases Nat.mul_eq_zero.1 e0 with e | e <;> omega
   simp only [Sem.run_bind,run_buildSlice w t e len _ cells ie z hu hie hz (by omega) hpos (by rw [hpm];exact h3),Result.andThen_ok,Array.toArray_toList]
   rfl
def pT (P:Program) (t:TypeId) (l m:AV) (h:Hp) (c:Nat):R1:=match P.underlying t with
 | some (.slice e)=>match P.info? e with
   | some i=>match i.zero,xG l,xG m with
     | some z,some (_,l),some (_,m)=>match Nat.beq z.cells.size i.size,Nat.ble l m,Nat.ble (Nat.mul i.bytes m) 281474976710656,Nat.ble m 9223372036854775807,Nat.blt 0 i.size,Nat.ble (Nat.mul m i.size) 16777216 with
       | true,true,true,true,true,true => .val (.slg c 0 l i.size) (kO e (vA (z.cells.toList.map .v) m) h c) (Nat.succ c)
       | _,_,_,_,_,_ => .fail
     | _,_,_ => .fail
   | _ => .fail
 | _ => .fail
theorem aE6 (hr:HR B G γ h c w) (hb:Keep B w0 w) {t:TypeId} {l m:Operand} {al am:AV} (ho:o.op = .makeSlice t l m) (hl:VR γ al (a.eval l)) (hm:VR γ am (a.eval m))
  (hk:KOk B G γ w0 a o.dst K Q (pT P t al am h c)):o.wp P a w K Q:=by
 unfold pT at hk
 split at hk <;> first | exact hk.elim | skip
 rename_i e hu
 split at hk <;> first | exact hk.elim | skip
 rename_i i hi
 split at hk <;> first | exact hk.elim | skip
 rename_i z k1 nl k2 nm hz hl' hm'
 split at hk <;> first | exact hk.elim | skip
 rename_i e1 e2 e3 e4 e5 e6
 have e1:z.cells.size=i.size:=by simpa using e1
 have e2:nl≤nm:=aN e2
 have e3:i.bytes*nm≤281474976710656:=aN e3
 have e4:nm≤9223372036854775807:=aN e4
 have e5:=cI e5
 have e6:nm*i.size≤16777216:=aN e6
 have hzl:LR γ (vA (z.cells.toList.map .v) nm) ((Array.range (nm*i.size)).map (z.cells[· % z.cells.size]!)).toList:=by
  rw [← e1,wF z.cells nm (by omega)]
  exact aAc (LR.vs _) nm
 obtain ⟨q1,q2,q3,q4⟩:=oU hr hb hzl e
 refine dM ?_ (hk _ _ _ q1 (.slg q2 e2 (by simp only [maxLen];omega) (fun _=>⟨rfl,by simp⟩)) q3 q4)
 unfold execOp
 rw [ho]
 have:=run_makeSlice (P:=P) (w:=w) t e i z hu hi hz k1 k2 (nl:Int) (nm:Int) (by omega) (by omega) (by simpa using e6) (by rw [← Int.natCast_mul];omega) (by omega)
 simp only [pX hl hl',pX hm hm',Sem.run_bind,this,Result.andThen_ok,Array.toArray_toList,Int.toNat_natCast]
 rfl
theorem HR.write (hr:HR B G γ h c w) (hb:Keep B w0 w) {b n N ty lim off:Nat} {ex:Bool} {cs:Tr AV} (hbp:γ b=some (n,N)) (hg:h.get b=some (.cells ty true true ex lim cs))
  {l:List AV} {vs:List Value} (hl:LR γ l vs) (h1:l.all AV.one=true) (hlim:off+l.length≤lim) {l0:List AV} (hc:Sy.cellsAt cs off l.length=some l0):
  ∃ w',(storeCells ⟨n,off,none⟩ vs).run P w = .ok () w'∧HR B G γ (h.put b (some (.cells ty true true ex lim (d6 cs off l)))) c w'∧Keep B w0 w':=by
 obtain ⟨p,hp,hbr⟩:=hr.live b _ hg
 rw [hbp] at hp
 injection hp with hp
 subst hp
 obtain ⟨h0,cc,ty',fz,k1,k2,k3,k4⟩:=hbr
 obtain ⟨rfl,rfl⟩:=k3.1 rfl
 simp only at k1 k2
 have hBn:¬ B n:=h0 rfl
 obtain ⟨h5,h6⟩:=sT hc
 have hex:∀ i,i<l.length→∃ x,cc[off+i]?=some x:=by
  intro i hi
  obtain ⟨a,ha⟩:∃ a,l0[i]?=some a:=⟨l0[i],aO (by omega)⟩
  obtain ⟨x,h7,_⟩:=k4 (off+i) a (by omega) (by rw [h6 i hi,ha])
  exact ⟨x,h7⟩
 have hbd:l.length=0∨off+l.length≤cc.size:=by
  rcases bM l.length with h0 | hpos
  · exact .inl h0
  · right
    obtain ⟨x,hx⟩:=hex (l.length - 1) (by omega)
    have:=(Array.getElem?_eq_some_iff.1 hx).1
    omega
 rcases hbd with hz | hbd
 · have hl0:l=[]:=aF hz
   subst hl0
   have hv0:vs=[]:=aF hl.1.symm
   subst hv0
   refine ⟨w,rfl,hr.turn hg hbp (aH _) (fun _ _ _=>rfl) ⟨h0,cc,_,(0,0),k1,k2,⟨fun _=>⟨rfl,rfl⟩,k3.2⟩,k4⟩,hb⟩
 have hst:=run_storeCells_at (P:=P) n off ty vs 0 cc w k1 (by rw [← hl.1];omega) (hl.one h1)
 refine ⟨_,hst,hr.turn hg hbp (by simp) (fun k hk _=>setRow_other _ _ _ _ hk) ⟨h0,_,_,(0,0),setRow_heap w n cc _ ty (0,0) k1,?_,⟨fun _=>⟨rfl,rfl⟩,fun he=>⟨?_,rfl⟩⟩,fun i a hlt hi=>?_⟩,
  ⟨hb.os,hb.tape,hb.output,by simpa using hb.size,fun k hk=>by rw [setRow_other _ _ _ _ (show k≠n from fun e=>hBn (e ▸ hk))];exact hb.block k hk⟩⟩
 · simp only [List.size_toArray,aA,aT,bI,Array.length_toList]
   have:=hl.1
   omega
 · simp only [List.size_toArray,aA,aT,bI,Array.length_toList]
   have:=hl.1
   have:=(k3.2 he).1
   omega
 · rw [f0] at hi
   have hlen:=hl.1
   simp only [Nat.add_zero,List.getElem?_toArray]
   split at hi
   · rename_i hin
     obtain ⟨x,h7,h8⟩:=hl.get hi
     refine ⟨x,?_,h8⟩
     rw [aK,aP (by simp;omega),bG (by simp;omega)]
     simp only [aT,Array.length_toList]
     rw [show i - min off cc.size=i - off by omega]
     exact h7
   · rename_i hout
     obtain ⟨x,h7,h8⟩:=k4 i a hlt hi
     refine ⟨x,?_,h8⟩
     have hi2:=(Array.getElem?_eq_some_iff.1 h7).1
     rcases aY i off with hlo | hhi
     · rw [aK,bG (by simp;omega),List.getElem?_take,if_pos hlo]
       simpa using h7
     · rw [aK,aP (by simp;omega),aP (by simp;omega),List.getElem?_drop]
       simp only [aT,Array.length_toList]
       rw [show off+vs.length+(i - min off cc.size - vs.length)=i by omega]
       simpa using h7
def aBr (P:Program) (t:TypeId) (x y:AV) (h:Hp) (c:Nat):R1:=match x with
 | .ptr b off=>match h.get b with
   | some (.cells ty true true ex lim cs)=>match szB P t with
     | none => .fail
     | some n=>match Nat.beq y.cells.length n,y.cells.all AV.one,Nat.ble (Nat.add off y.cells.length) lim,cellsAt cs off y.cells.length with
       | true,true,true,some _ => .val (.tup []) (h.put b (some (.cells ty true true ex lim (d6 cs off y.cells)))) c
       | _,_,_,_ => .fail
   | _ => .fail
 | _ => .fail
theorem aOe (hr:HR B G γ h c w) (hb:Keep B w0 w) {t:TypeId} {x y:Operand} {ax ay:AV} (ho:o.op = .store t x y) (hx:VR γ ax (a.eval x)) (hy:VR γ ay (a.eval y))
  (hk:KOk B G γ w0 a o.dst K Q (aBr P t ax ay h c)):o.wp P a w K Q:=by
 unfold aBr at hk
 split at hk <;> first | exact hk.elim | skip
 rename_i b off
 split at hk <;> first | exact hk.elim | skip
 rename_i ty ex lim cs hg
 split at hk <;> first | exact hk.elim | skip
 rename_i sz hsz
 split at hk <;> first | exact hk.elim | skip
 rename_i l0 e1 e2 e3 hc
 have e1:ay.cells.length=sz:=by simpa using e1
 have e3:off+ay.cells.length≤lim:=aN e3
 have hyc:=hy.cells
 generalize hvx:a.eval x=vx at hx
 cases hx with
 | ptr hbp=>
   rename_i n N
   obtain ⟨w',hst,h2,h3⟩:=hr.write (P:=P) hb hbp hg hyc e2 e3 hc
   refine qZ ?_ (hk γ undef w' (Gm.le.refl _) (VR.tupL LR.nil) h2 h3)
   unfold execOp
   rw [ho]
   have hns:¬ (a.eval y).cells.size≠sz:=by
    have:=hyc.1
    simp at this
    omega
   simp only [hvx,Sem.run_bind,Instr.storeAt,Instr.sureAddr,Sem.run_pure,Result.andThen_ok,storeVar,szB_ok hsz,if_neg hns,hst]
def nS (h:Hp) (esz:Nat) (x:AV):Option (Nat×List AV):=match x with
 | .v (.slice none 0 _)=>some (0,[])
 | .sl b off m _=>match h.get b with
   | some (.cells _ _ _ _ lim cs)=>match Nat.ble (Nat.add off (Nat.mul m esz)) lim with
     | true=>match cellsAt cs off (Nat.mul m esz) with
       | some l=>some (m,l)
       | none=>none
     | false=>none
   | _=>none
 | .slg b off m _=>match h.get b with
   | some (.cells _ _ _ _ lim cs)=>match Nat.ble (Nat.add off (Nat.mul m esz)) lim with
     | true=>match cellsAt cs off (Nat.mul m esz) with
       | some l=>some (m,l)
       | none=>none
     | false=>none
   | _=>none
 | _=>none
theorem kX (hr:HR B G γ h c w) {esz:Nat} {ax:AV} {x:Value} (hx:VR γ ax x) {m:Nat} {l:List AV} (hh:nS h esz ax=some (m,l)):
  ∃ A k vs,x = .slice A m k∧LR γ l vs∧vs.length=m*esz∧(0<m*esz→∃ ad,A=some ad∧∀ j u,vs[j]?=some u→w.cell? (ad.add j)=some u)∨∃ k',x = .slice none 0 k'∧m=0∧l=[]:=by
 unfold nS at hh
 split at hh <;> first | (cases hh;done) | skip
 · injection hh with hh
   injection hh with e1 e2
   subst e1 e2
   cases hx
   exact ⟨none,0,[],.inr ⟨_,rfl,rfl,rfl⟩⟩
 · rename_i b off m' cap
   split at hh <;> first | (cases hh;done) | skip
   rename_i ty own clean ex lim cs hg
   split at hh <;> first | (cases hh;done) | skip
   rename_i hle
   have hle:off+m'*esz≤lim:=aN hle
   split at hh <;> first | (cases hh;done) | skip
   rename_i l' hc
   injection hh with hh
   injection hh with e1 e2
   subst e1 e2
   cases hx with
   | sl hbp hl=>
     rename_i n N
     obtain ⟨vs,⟨h1,h2,h3,_⟩ | ⟨h1,h2⟩⟩:=hr.cellsAt hbp hg hc hle
     · exact ⟨_,_,vs,.inl ⟨rfl,h1,h2,fun _=>⟨_,rfl,fun j u hj=>by rw [Addr.add_mid];exact h3 j u hj⟩⟩⟩
     · subst h2
       exact ⟨_,_,[],.inl ⟨rfl,LR.nil,by simp only [Nat.mul_eq] at h1;simp [h1],fun hp=>by simp only [Nat.mul_eq] at h1;omega⟩⟩
 · rename_i b off m' esz'
   split at hh <;> first | (cases hh;done) | skip
   rename_i ty own clean ex lim cs hg
   split at hh <;> first | (cases hh;done) | skip
   rename_i hle
   have hle:off+m'*esz≤lim:=aN hle
   split at hh <;> first | (cases hh;done) | skip
   rename_i l' hc
   injection hh with hh
   injection hh with e1 e2
   subst e1 e2
   cases hx with
   | slg hbp hl hm ho=>
     rename_i n N o' cap
     obtain ⟨vs,⟨h1,h2,h3,_⟩ | ⟨h1,h2⟩⟩:=hr.cellsAt hbp hg hc hle
     · refine ⟨_,_,vs,.inl ⟨rfl,h1,h2,fun hp=>?_⟩⟩
       have hm0:0<m':=by
        rcases bM m' with e | e
        · subst e;simp at hp
        · exact e
       obtain ⟨rfl,_⟩:=ho (.inr hm0)
       exact ⟨_,rfl,fun j u hj=>by rw [Addr.add_mid];exact h3 j u hj⟩
     · subst h2
       exact ⟨_,_,[],.inl ⟨rfl,LR.nil,by simp only [Nat.mul_eq] at h1;simp [h1],fun hp=>by simp only [Nat.mul_eq] at h1;omega⟩⟩
def aKu (h:Hp) (e esz:Nat) (s:AV):Option (Nat×Tr AV×Option Nat):=match s with
 | .v (.slice none 0 0)=>some (0,.leaf,none)
 | .slg b 0 n z=>match h.get b with
   | some (.cells ty true true ex lim cs)=>match Nat.beq ty e,Nat.beq z esz,Nat.ble (Nat.mul n esz) lim,cellsAt cs 0 (Nat.mul n esz) with
     | true,true,true,some _=>some (n,cs,some b)
     | _,_,_,_=>none
   | _=>none
 | _=>none
def s9 (h:Hp):Option Nat→Hp
 | none=>h
 | some b=>h.put b none
def yR (P:Program) (ts:List TypeId) (s x:AV) (h:Hp) (c:Nat):R1:=match ts with
 | [t,t2]=>match Nat.beq t t2,P.underlying t with
   | true,some (.slice e)=>match P.info? e with
     | some i=>match i.zero with
       | some z=>match Nat.beq z.cells.size i.size,Nat.blt 0 i.size,Nat.blt 0 i.bytes with
         | true,true,true=>match aKu h e i.size s,nS h i.size x with
           | some (n,cs,ob),some (m,l)=>match l.all AV.one,Nat.ble (Nat.mul (Nat.add n m) i.bytes) 140737488355328,m with
             | true,true,Nat.succ _ => .val (.slg c 0 (Nat.add n m) i.size) ((s9 h ob).put c (some (.cells e true true false (Nat.mul (Nat.add n m) i.size) (d6 cs (Nat.mul n i.size) l)))) (Nat.succ c)
             | true,true,0 => .val s h c
             | _,_,_ => .fail
           | _,_ => .fail
         | _,_,_ => .fail
       | none => .fail
     | none => .fail
   | _,_ => .fail
 | _ => .fail
theorem aJw (hr:HR B G γ h c w) {e esz n:Nat} {s:AV} {v:Value} {cs:Tr AV} {ob:Option Nat} (hv:VR γ s v) (hh:aKu h e esz s=some (n,cs,ob)):
  ∃ xs,w.ownsRow 0 e esz v n xs∧(∀ k,v.ownBlock=some k→¬ B k)∧(∀ (i:Nat) (a:AV),i<n*esz→cs.get i=some a→∃ x,xs[i]?=some x∧VR γ a x)∧
    (∀ b blk p,(s9 h ob).get b=some blk→h.get b=some blk∧(γ b=some p→v.ownBlock≠some p.1)):=by
 unfold aKu at hh
 split at hh <;> first | (cases hh;done) | skip
 · injection hh with hh
   injection hh with e1 hh
   injection hh with e2 e3
   subst e1 e2 e3
   cases hv
   exact ⟨[],World.ownsRow_nil w 0 e esz,fun k hk=>by simp [Value.ownBlock] at hk,fun i a hi=>by simp at hi,fun b blk p hb=>⟨hb,fun _=>by simp [Value.ownBlock]⟩⟩
 · rename_i b n' z
   split at hh <;> first | (cases hh;done) | skip
   rename_i ty ex lim cs' hg
   split at hh <;> first | (cases hh;done) | skip
   rename_i l0 e1 e2 e3 hc
   have e1:ty=e:=by simpa using e1
   have e2:z=esz:=by simpa using e2
   have e3:n'*esz≤lim:=aN e3
   injection hh with hh
   injection hh with q1 hh
   injection hh with q2 q3
   subst q1 q2 q3 e1 e2
   cases hv with
   | slg hbp hl hm ho=>
     rename_i n1 N o1 cap
     obtain ⟨rfl,ho2⟩:=ho (.inl rfl)
     obtain ⟨p,hp,hbr⟩:=hr.live b _ hg
     rw [hbp] at hp
     injection hp with hp
     subst hp
     obtain ⟨h0,cc,ty',fz,k1,k2,k3,k4⟩:=hbr
     obtain ⟨rfl,rfl⟩:=k3.1 rfl
     simp only at k1 k2
     have hB:¬ B n1:=h0 rfl
     have hle:n'*z≤cap*z:=aM _ hl
     refine ⟨cc.toList.take (n'*z),⟨by simp;omega,.inr ⟨n1,cap,cc,rfl,Nat.zero_le _,k1,hl,hm,by omega,rfl⟩⟩,fun k hk=>by simp only [Value.ownBlock,Option.some.injEq] at hk;exact hk ▸ hB,fun i a hi ha=>?_,fun b' blk p hb'=>?_⟩
     · obtain ⟨x,h1,h2⟩:=k4 i a (by omega) ha
       exact ⟨x,by rw [List.getElem?_take,if_pos hi];simpa using h1,h2⟩
     · simp only [s9,Tr.get_put] at hb'
       split at hb'
       · cases hb'
       · rename_i hne
         refine ⟨hb',fun hp he=>hne ?_⟩
         simp only [Value.ownBlock,Option.some.injEq] at he
         exact hr.inj _ _ _ _ _ _ hb' hg hp hbp he.symm
theorem xF {e sz base n:Nat} {t ty:TypeId} {i:TypeInfo} (ht:P.underlying t=some (.slice e)) (hi:P.info? e=some i) {v:Value} {xs:List Value} (hown:w.ownsRow base e sz v n xs) (A:Option Addr) (k:Nat):
  (Builtin.append_ #[t,t] ty #[v,.slice A 0 k]).run P w = .ok v w:=by
 have hld:∀ a:Addr,(loadCells a 0).run P w = .ok #[] w:=fun a=>rfl
 rcases hown.2 with ⟨rfl,rfl⟩ | ⟨g,cap,cur,rfl,_,_,hnc,_⟩
 · cases A <;> simp [Builtin.append_,run_underlying ht,sizeOf,typeInfo,hi,Builtin.lenOf,Builtin.firstCells,hld]
 · cases A <;> simp [Builtin.append_,run_underlying ht,sizeOf,typeInfo,hi,Builtin.lenOf,Builtin.firstCells,hnc,storeCells,hld]
theorem aL4 (hr:HR B G γ h c w) (hb:Keep B w0 w) {s x:Operand} {ts:Array TypeId} {aS ax:AV} (ho:o.op = .call { callee := .builtin .append,args:=#[s,x],argTypes:=ts })
  (hs:VR γ aS (a.eval s)) (hx:VR γ ax (a.eval x)) (hk:KOk B G γ w0 a o.dst K Q (yR P ts.toList aS ax h c)):o.wp P a w K Q:=by
 unfold yR at hk
 split at hk <;> first | exact hk.elim | skip
 rename_i t t2 hts
 split at hk <;> first | exact hk.elim | skip
 rename_i e htt hu
 have htt:t=t2:=by simpa using htt
 subst htt
 have hts':ts=#[t,t]:=by apply Array.ext';simpa using hts
 subst hts'
 split at hk <;> first | exact hk.elim | skip
 rename_i i hi
 split at hk <;> first | exact hk.elim | skip
 rename_i z hz
 split at hk <;> first | exact hk.elim | skip
 rename_i e1 e2 e3
 have e1:z.cells.size=i.size:=by simpa using e1
 have e2:=cI e2
 have e3:=cI e3
 split at hk <;> first | exact hk.elim | skip
 rename_i n cs ob m l hrow hsrc
 obtain ⟨xs,hown,hnB,hxs,hdrop⟩:=aJw hr hs hrow
 have hop:∀ {v':Value} {w':World},(Builtin.append_ #[t,t] o.type #[a.eval s,a.eval x]).run P w = .ok v' w'→(execOp a.eval o).run P w = .ok (.value v') w':=by
  intro v' w' hrun
  unfold execOp
  simp only [ho,resolve,invoke,builtin,Sem.run_bind,Sem.run_pure,Result.andThen_ok,List.map_toArray,List.map_cons,List.map_nil,hrun]
 split at hk <;> first | exact hk.elim | skip
 · rename_i m' e4 e5
   have e5:(n+(m'+1))*i.bytes≤140737488355328:=aN e5
   rw [show Nat.succ m'=m'+1 from rfl] at hk
   obtain ⟨A,k,news,⟨hxe,hl,hln,hA⟩ | ⟨_,_,hm0,_⟩⟩:=kX hr hx hsrc
   case inr=>omega
   have hpos:0<(m'+1)*i.size:=Nat.mul_pos (by omega) e2
   obtain ⟨ad,rfl,hcell⟩:=hA hpos
   have h63:n+(m'+1)≤maxLen:=by
    have:(n+(m'+1))*1≤(n+(m'+1))*i.bytes:=Nat.mul_le_mul_left _ e3
    simp only [maxLen];omega
   obtain ⟨v',w',hrun,hown',hgr,_,hsame⟩:=run_append_own_at (P:=P) w 0 t o.type e i z i.size i.bytes hu hi hz rfl rfl e1 e2 (a.eval s) n xs hown ad (m'+1) k news hln hcell (hl.one e4) h63 e5 (Nat.zero_le _)
   rw [hxe] at hop
   have hnn:0<n+(m'+1):=by omega
   rcases hown'.2 with ⟨_,h0⟩ | ⟨g,cap,cur,rfl,hBg,hheap,hnc,hcm,hcs,htake⟩
   · omega
   have hown0:=hown.1
   have hBg':¬ B g:=by
    have hsame':some g=(a.eval s).ownBlock∨some g=some w.heap.size:=hsame
    rcases hsame' with h5 | h5
    · exact hnB g h5.symm
    · injection h5 with h5;rw [h5];exact hr.new
   have hd0:HR B G γ (s9 h ob) c w:=by
    cases ob with
    | none=>exact hr
    | some b=>exact hr.drop b
   have hle:=Gm.upd_le (hr.fresh c (aH _)) (g,cap*i.size)
   refine dM (hop hrun) (hk (γ.upd c (g,cap*i.size)) _ w' hle (.slg (Gm.upd_same _ _ _) hnc hcm (fun _=>⟨rfl,by simp⟩)) ?_ (hb.grown hgr hr.base hnB))
   refine hd0.add (g,cap*i.size) _ hgr.size (fun b blk p h1 h2=>?_) ⟨fun _=>hBg',cur,_,(0,0),hheap,hcs,⟨fun _=>⟨rfl,rfl⟩,fun e=>by cases e⟩,fun j av hj hav=>?_⟩
   · obtain ⟨h3,h4⟩:=hdrop b blk p h1
     have hne:=h4 h2
     obtain ⟨q,hq,hbr⟩:=hr.live b _ h3
     obtain rfl:q=p:=by rw [hq] at h2;injection h2
     refine ⟨hgr.block _ hbr.lt (fun e=>hne e.symm),fun e=>?_⟩
     have hsame':some g=(a.eval s).ownBlock∨some g=some w.heap.size:=hsame
     simp only at e
     subst e
     rcases hsame' with h5 | h5
     · exact hne h5.symm
     · injection h5 with h5
       have:=hbr.lt
       omega
   · simp only [Nat.mul_eq,Nat.add_eq] at hj hav
     have hget:∀ u,(xs++news)[j]?=some u→cur[j]?=some u:=by
      intro u hu'
      rw [← htake] at hu'
      have hj2:=(List.getElem?_eq_some_iff.1 hu').1
      rw [aT] at hj2
      rw [List.getElem?_take,if_pos (by omega)] at hu'
      simpa using hu'
     have hll:=hl.1
     rw [f0] at hav
     split at hav
     · rename_i hin
       obtain ⟨u,h5,h6⟩:=hl.get hav
       exact ⟨u,hget u (by rw [aP (by omega),hown0];exact h5),h6.mono hle⟩
     · rename_i hout
       have hjn:j<n*i.size:=by
        have hj':j<(n+(m'+1))*i.size:=hj
        rw [bD] at hj'
        have hout':¬ (n*i.size≤j∧j<n*i.size+l.length):=hout
        rw [hll,hln] at hout'
        have:Nat.succ m'=m'+1:=rfl
        rw [this] at hout'
        omega
       obtain ⟨u,h5,h6⟩:=hxs j av hjn hav
       exact ⟨u,hget u (by rw [bG (by omega)];exact h5),h6.mono hle⟩
 · obtain ⟨A,k,news,⟨hxe,_⟩ | ⟨k1,hxe,_⟩⟩:=kX hr hx hsrc
   · rw [hxe] at hop
     exact dM (hop (xF hu hi hown A k)) (hk γ _ w (Gm.le.refl _) hs hr hb)
   · rw [hxe] at hop
     exact dM (hop (xF hu hi hown none k1)) (hk γ _ w (Gm.le.refl _) hs hr hb)
end
end Go.Sy
end
end
