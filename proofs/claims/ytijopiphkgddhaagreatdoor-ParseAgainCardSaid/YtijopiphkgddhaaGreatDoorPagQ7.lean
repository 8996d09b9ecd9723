/- Texts of this proof, one behind the other. Conditions: those in each theorem. -/
import Derived.Test.YtijopiphkgddhaaGreatDoorPagQ1
import Derived.Test.YtijopiphkgddhaaGreatDoorPagQ6
set_option linter.unusedVariables false
set_option linter.unusedSimpArgs false
section
noncomputable section
namespace Go.Sy
open Go Go.RowKit
def aLe:Value→Value→Bool
 | .bool a,.bool b=>match a,b with | true,true=>true | false,false=>true | _,_=>false
 | .int k n,.int k' m=>decide (k=k')&&decide (n=m)
 | .float k n,.float k' m=>decide (k=k')&&Nat.beq n m
 | .string a,.string b=>decide (a.data.toList=b.data.toList)
 | .pointer none,.pointer none=>true
 | .slice none a b,.slice none c d=>Nat.beq a c&&Nat.beq b d
 | .map none,.map none=>true
 | .nilFunc,.nilFunc=>true
 | .nilIface,.nilIface=>true
 | _,_=>false
theorem aPf {x y:Value} (h:aLe x y=true):x=y:=by
 unfold aLe at h
 split at h <;> first | rfl | (cases h;done) | skip
 · split at h <;> first | rfl | (cases h;done)
 · rw [aI] at h
   have h1:=of_decide_eq_true h.1
   have h2:=of_decide_eq_true h.2
   subst h1 h2
   rfl
 · rw [aI] at h
   have h1:=of_decide_eq_true h.1
   have h2:=aV h.2
   subst h1 h2
   rfl
 · rename_i a b
   have h1:=of_decide_eq_true h
   congr 1
   apply ByteArray.ext
   apply Array.ext'
   exact h1
 · rw [aI] at h
   have h1:=aV h.1
   have h2:=aV h.2
   subst h1 h2
   rfl
def aKt:AV→AV→Bool
 | .v x,.v y=>aLe x y
 | .ptr b o,.ptr b' o'=>Nat.beq b b'&&Nat.beq o o'
 | .sl b o l c,.sl b' o' l' c'=>(Nat.beq b b'&&Nat.beq o o')&&(Nat.beq l l'&&Nat.beq c c')
 | .slg b o l c,.slg b' o' l' c'=>(Nat.beq b b'&&Nat.beq o o')&&(Nat.beq l l'&&Nat.beq c c')
 | .map b,.map b'=>Nat.beq b b'
 | _,_=>false
theorem aQc {x y:AV} (h:aKt x y=true):x=y:=by
 unfold aKt at h
 split at h <;> first | (cases h;done) | skip
 · rw [aPf h]
 · simp at h;obtain ⟨rfl,rfl⟩:=h;rfl
 · simp at h;obtain ⟨⟨rfl,rfl⟩,rfl,rfl⟩:=h;rfl
 · simp at h;obtain ⟨⟨rfl,rfl⟩,rfl,rfl⟩:=h;rfl
 · simp at h;subst h;rfl
def tZ (f:AV→AV→Bool):List AV→List AV→Bool
 | [],[]=>true
 | a::l,b::r=>f a b&&tZ f l r
 | _,_=>false
theorem rG {f:AV→AV→Bool} (hf:∀ x y,f x y=true→x=y):∀ {x y:List AV},tZ f x y=true→x=y
 | [],[],_=>rfl
 | a::l,b::r,h=>by
   simp only [tZ,aI] at h
   rw [hf _ _ h.1,rG hf h.2]
 | [],_::_,h=>by cases h
 | _::_,[],h=>by cases h
def pW:Nat→AV→AV→Bool
 | 0,_,_=>false
 | n+1,x,y=>match x,y with
   | .agg l,.agg r=>tZ (pW n) l r
   | .tup l,.tup r=>tZ (pW n) l r
   | .fn (.func f) a b,.fn (.func g) c d=>(Nat.beq f g&&tZ (pW n) a c)&&tZ (pW n) b d
   | .ifc t a,.ifc u b=>Nat.beq t u&&pW n a b
   | x,y=>aKt x y
theorem aHw:∀ (n:Nat) (x y:AV),pW n x y=true→x=y
 | 0,_,_,h=>by simp [pW] at h
 | n+1,x,y,h=>by
   have ih:=aHw n
   unfold pW at h
   split at h
   · rw [rG ih h]
   · rw [rG ih h]
   · simp only [aI] at h
     obtain ⟨⟨h1,h2⟩,h3⟩:=h
     have h1:=aV h1
     rw [h1,rG ih h2,rG ih h3]
   · simp only [aI] at h
     have h1:=aV h.1
     rw [h1,ih _ _ h.2]
   · exact aQc h
def same (x y:AV):Bool:=pW 5 x y
theorem aTg {x y:AV} (h:same x y=true):x=y:=aHw 5 x y h
def pC (acc:List Nat):List Edge→Nat
 | []=>0
 | e::l=>match Region.binds .any e with
   | true=>Nat.lor (Nat.lor (Nat.pow 2 e.on) (acc.getD e.on 0)) (pC acc l)
   | false=>pC acc l
def eH:List Oper→List Nat→List Nat
 | [],acc=>acc
 | o::l,acc=>eH l (acc++[pC acc o.after.toList])
theorem aBj {acc:List Nat}:∀ {l:List Edge} {j:Nat},(pC acc l).testBit j=true→∃ e∈l,Region.binds .any e=true∧(j=e.on∨(acc.getD e.on 0).testBit j=true)
 | [],j,h=>by simp [pC] at h
 | e::l,j,h=>by
   simp only [pC] at h
   split at h
   · rename_i hb
     have h':((2 ^ e.on ||| acc.getD e.on 0) ||| pC acc l).testBit j=true:=h
     rw [Nat.testBit_or,Nat.testBit_or,Bool.or_eq_true,Bool.or_eq_true] at h'
     rcases h' with (h' | h') | h'
     · rw [Nat.testBit_two_pow] at h'
       exact ⟨e,by simp,hb,.inl (of_decide_eq_true h').symm⟩
     · exact ⟨e,by simp,hb,.inr h'⟩
     · obtain ⟨e',h1,h2⟩:=aBj h'
       exact ⟨e',by simp [h1],h2⟩
   · obtain ⟨e',h1,h2⟩:=aBj h
     exact ⟨e',by simp [h1],h2⟩
theorem uW:∀ (L:List Oper) (acc:List Nat),∃ r,eH L acc=acc++r∧r.length=L.length
 | [],acc=>⟨[],by simp [eH],rfl⟩
 | o::L,acc=>by
   obtain ⟨r,h1,h2⟩:=uW L (acc++[pC acc o.after.toList])
   exact ⟨pC acc o.after.toList::r,by rw [eH,h1];simp,by simp [h2]⟩
theorem aA7:∀ (L:List Oper) (acc:List Nat) (i:Nat) (o:Oper),L[i]?=some o→(eH L acc)[acc.length+i]?=some (pC ((eH L acc).take (acc.length+i)) o.after.toList)
 | [],acc,i,o,h=>by simp at h
 | o::L,acc,0,o',h=>by
   simp at h
   subst h
   obtain ⟨r,h1,h2⟩:=uW L (acc++[pC acc o.after.toList])
   rw [eH,h1]
   simp
 | o::L,acc,i+1,o',h=>by
   have:=aA7 L (acc++[pC acc o.after.toList]) i o' (by simpa using h)
   simp only [aA,aB,aD] at this
   rw [eH,show acc.length+(i+1)=acc.length+(0+1)+i by omega]
   exact this
theorem sL {L:List Oper} {S:Nat→Prop} (hS:∀ (i:Nat) (o:Oper),S i→L[i]?=some o→∀ e∈o.after.toList,Region.binds .any e=true→S e.on):
  ∀ (i:Nat) (o:Oper) (b:Nat),L[i]?=some o→(eH L [])[i]?=some b→(∀ e∈o.after.toList,Region.binds .any e=true→S e.on)→∀ j,b.testBit j=true→S j:=by
 intro i
 induction i using Nat.strongRecOn with
 | _ i ih=>
   intro o b ho hb hp j hj
   have h1:=aA7 L [] i o ho
   simp only [aD,bH] at h1
   rw [h1] at hb
   injection hb with hb
   rw [← hb] at hj
   obtain ⟨e,he,hbn,h2 | h2⟩:=aBj hj
   · rw [h2];exact hp e he hbn
   · have hin:e.on<i∧e.on<(eH L []).length:=by
      rcases aY e.on ((eH L []).take i).length with hlt | hge
      · simp at hlt;omega
      · rw [List.getD_eq_getElem?_getD,List.getElem?_eq_none hge] at h2
        simp at h2
     obtain ⟨r,h3,h4⟩:=uW L []
     simp only [bR] at h3
     have hlen:(eH L []).length=L.length:=by rw [h3,h4]
     have h5:((eH L []).take i).getD e.on 0=(eH L [])[e.on]'hin.2:=by
      rw [List.getD_eq_getElem?_getD,List.getElem?_take,if_pos hin.1,aO hin.2]
      rfl
     rw [h5] at h2
     exact ih e.on hin.1 (L[e.on]'(by omega)) _ (aO _) (aO hin.2) (hS e.on _ (hp e he hbn) (aO (by omega))) j h2
def quiet (P:Program) (o:Oper):Bool:=match o.op with
 | .move _ | .assign _ | .pick _ _ _ | .build _ _ | .nilCheck _ | .makeInterface _ _ | .makeFunc _ _ _ | .fieldAddr _ _ _ | .field _ _ _ | .indexAddr _ _ _ | .index _ _ _ | .extract _ _ | .typeAssert _ _ _ _
 | .slice _ _ _ _ _ | .binOp _ _ _ _ _ | .unOp _ _ _ | .load _ _ | .lookup _ _ _ _=>true
 | .convert _ dst _=>match P.underlying dst with
   | some (.slice _)=>false
   | _=>true
 | .call c=>match c.callee with
   | .builtin .len=>true
   | .builtin .cap=>true
   | .builtin .min=>true
   | .builtin .max=>true
   | .builtin .unsafeSliceData=>true
   | _=>false
 | _=>false
def mR:List Operand→List Nat
 | []=>[]
 | .tmp t::l=>t::mR l
 | _::l=>mR l
def mB (ops:Array Oper) (o:Oper):List Nat:=match o.guard with
 | none=>mR o.op.operands.toList
 | some (j,_)=>match ops[j]? with
   | none=>mR o.op.operands.toList
   | some p=>match p.dst with
     | none=>mR o.op.operands.toList
     | some t=>t::mR o.op.operands.toList
def b6 (t:Nat):List Nat→Bool
 | []=>false
 | x::l=>match Nat.beq x t with
   | true=>true
   | false=>b6 t l
theorem hasNat_iff {t:Nat}:∀ {l:List Nat},b6 t l=true↔t∈l
 | []=>by simp [b6]
 | x::l=>by
   simp only [b6,List.mem_cons]
   split
   · rename_i h
     have h:=aV h
     simp [h]
   · rename_i h
     have h:=Nat.ne_of_beq_eq_false h
     rw [hasNat_iff (l:=l)]
     constructor
     · exact .inr
     · rintro (e | e)
       · exact absurd e.symm h
       · exact e
abbrev Row:=Nat×Oper×Nat
def lJ:Nat→List Oper→List Nat→List Row
 | i,o::l,b::bs=>(i,o,b)::lJ (Nat.succ i) l bs
 | _,_,_=>[]
theorem mS:∀ {L:List Oper} {bs:List Nat} {i0 i:Nat} {o:Oper} {b:Nat},L[i]?=some o→bs[i]?=some b→(lJ i0 L bs)[i]?=some (i0+i,o,b)
 | o::L,b::bs,i0,0,o',b',h1,h2=>by simp at h1 h2;subst h1 h2;rfl
 | o::L,b::bs,i0,i+1,o',b',h1,h2=>by
   have:=mS (i0:=i0+1) (i:=i) (L:=L) (bs:=bs) (by simpa using h1) (by simpa using h2)
   rw [show i0+(i+1)=i0+1+i by omega]
   exact this
 | [],_,_,_,_,_,h1,_=>by simp at h1
 | _::_,[],_,_,_,_,_,h2=>by simp at h2
def sY (i:Nat):List Edge→Bool
 | []=>true
 | e::l=>match Region.binds .any e with
   | true=>match Nat.blt e.on i with
     | true=>sY i l
     | false=>false
   | false=>sY i l
theorem sP {i:Nat}:∀ {l:List Edge},sY i l=true→∀ e∈l,Region.binds .any e=true→e.on<i
 | [],_,e,he,_=>by simp at he
 | x::l,h,e,he,hb=>by
   simp only [sY] at h
   rcases bJ he with rfl | he
   · rw [hb] at h
     simp only at h
     split at h
     · rename_i hlt;exact cI hlt
     · cases h
   · split at h
     · split at h
       · exact sP h e he hb
       · cases h
     · exact sP h e he hb
def fJ (o:Oper):Option TypeId:=match o.guard with
 | none=>match o.op with
   | .alloc e=>some e
   | _=>none
 | some _=>none
def xK (P:Program) (p q:Row):List Row→Bool
 | []=>true
 | x::l=>match Nat.beq x.1 q.1 with
   | true=>xK P p q l
   | false=>match !Nat.testBit x.2.2 q.1 || Nat.testBit x.2.2 p.1 with
     | false=>false
     | true=>match quiet P x.2.1 || Nat.ble x.1 p.1 || Nat.blt q.1 x.1 with
       | false=>false
       | true=>xK P p q l
theorem pI {P:Program} {p q:Row}:∀ {l:List Row},xK P p q l=true→∀ x∈l,x.1≠q.1→(Nat.testBit x.2.2 q.1=true→Nat.testBit x.2.2 p.1=true)∧(quiet P x.2.1=false→x.1≤p.1∨q.1<x.1)
 | [],_,x,hx,_=>by simp at hx
 | y::l,h,x,hx,hne=>by
   simp only [xK] at h
   rcases bJ hx with rfl | hx
   · have:Nat.beq x.1 q.1=false:=by
      cases hb:Nat.beq x.1 q.1 with
      | false=>rfl
      | true=>exact absurd (aV hb) hne
     rw [this] at h
     simp only at h
     split at h
     · cases h
     · rename_i h1
       split at h
       · cases h
       · rename_i h2
         refine ⟨fun hb=>?_,fun hq=>?_⟩
         · rw [hb] at h1;simpa using h1
         · rw [hq] at h2
           simp only [Bool.false_or,Bool.or_eq_true] at h2
           rcases h2 with h2 | h2
           · exact .inl (aN h2)
           · exact .inr (cI h2)
   · split at h
     · exact pI h x hx hne
     · split at h
       · cases h
       · split at h
         · cases h
         · exact pI h x hx hne
def wP (P:Program) (ops:Array Oper) (R:List Row) (p q:Row):Bool:=match Nat.beq p.1 q.1 with
 | true=>true
 | false=>
   (match p.2.1.dst,q.2.1.dst with
    | some a,some b=>!Nat.beq a b
    | _,_=>true) &&
   (match q.2.1.dst with
    | none=>true
    | some t=>match b6 t (mB ops p.2.1) with
      | false=>true
      | true=>Nat.testBit p.2.2 q.1 || Nat.testBit q.2.2 p.1) &&
   (match quiet P p.2.1,quiet P q.2.1,Nat.blt p.1 q.1 with
    | false,false,true=>match Nat.testBit q.2.2 p.1 with
      | true=>true
      | false=>match fJ p.2.1,fJ q.2.1 with
        | some _,some _=>xK P p q R
        | _,_=>false
    | _,_,_=>true)
def aHa (P:Program) (ops:Array Oper) (R:List Row):Bool:=Region.noSelect ops&&R.all fun p=>sY p.1 p.2.1.after.toList&&R.all fun q=>wP P ops R p q
def j7 (P:Program) (p:Row):List Row→Nat→Bool
 | [],_=>true
 | q::R,k=>match quiet P q.2.1 with
   | true=>j7 P p R k
   | false=>match k with
     | 0=>!Nat.testBit p.2.2 q.1&&j7 P p R 0
     | k+1=>!Nat.testBit q.2.2 p.1&&j7 P p R k
def ne (P:Program) (L:List Oper) (i:Nat):Nat:=(L.take i).countP (fun o=>!quiet P o)
theorem mA (P:Program) (o:Oper) (L:List Oper) (i:Nat):ne P (o::L) (i+1)=ne P L i+(if quiet P o then 0 else 1):=by
 unfold ne
 rw [List.take_succ_cons,List.countP_cons]
 cases quiet P o <;> rfl
theorem aJf (P:Program) (L:List Oper):ne P L 0=0:=rfl
theorem y0 (P:Program) (L:List Oper) (i:Nat) (o:Oper) (h:L[i]?=some o):ne P L (i+1)=ne P L i+(if quiet P o then 0 else 1):=by
 unfold ne
 rw [List.take_add_one,List.countP_append,h]
 cases hq:quiet P o <;> simp [hq]
theorem aJr (P:Program) (L:List Oper) {i j:Nat} (h:i≤j):ne P L i≤ne P L j:=by
 unfold ne
 have:(L.take i).Sublist (L.take j):=by
  rw [← Nat.min_eq_left h,← List.take_take]
  exact List.take_sublist _ _
 exact this.countP_le
theorem yT (P:Program) (L:List Oper) {i j:Nat} {o:Oper} (hi:L[i]?=some o) (hq:quiet P o=false) (h:i<j):ne P L i<ne P L j:=by
 have h1:=y0 P L i o hi
 have h2:=aJr P L (show i+1≤j from h)
 rw [hq] at h1
 simp at h1
 omega
theorem aJs (P:Program) (L:List Oper) {i:Nat}:∀ {j:Nat},i≤j→(∀ x o,i≤x→x<j→L[x]?=some o→quiet P o=true)→ne P L j=ne P L i
 | 0,h,_=>by rw [show i=0 by omega]
 | j+1,h,hq=>by
   rcases aY j i with hlt | hge
   · rw [show i=j+1 by omega]
   · rw [← aJs P L hge (fun x o h1 h2=>hq x o h1 (by omega))]
     cases ho:L[j]? with
     | none=>
       unfold ne
       rw [List.take_add_one,ho]
       simp
     | some o=>
       rw [y0 P L j o ho,hq j o hge (by omega) ho]
       rfl
theorem aF6 (P:Program) (L:List Oper):∀ (i k:Nat),k<ne P L i→∃ j o,j<i∧L[j]?=some o∧quiet P o=false∧ne P L j=k:=by
 intro i
 induction i with
 | zero=>intro k h;simp [aJf] at h
 | succ i ih=>
   intro k h
   cases ho:L[i]? with
   | none=>
     have:ne P L (i+1)=ne P L i:=by
      unfold ne
      rw [List.take_add_one,ho]
      simp
     rw [this] at h
     obtain ⟨j,o,h1,h2⟩:=ih k h
     exact ⟨j,o,by omega,h2⟩
   | some o=>
     have hs:=y0 P L i o ho
     rcases aY k (ne P L i) with hlt | hge
     · obtain ⟨j,o',h1,h2⟩:=ih k hlt
       exact ⟨j,o',by omega,h2⟩
     · cases hq:quiet P o with
       | true=>rw [hq] at hs;simp at hs;omega
       | false=>
         rw [hq] at hs
         simp at hs
         exact ⟨i,o,by omega,ho,hq,by omega⟩
theorem oF {P:Program} {p:Row}:∀ {L:List Oper} {bs:List Nat} {i0 k:Nat},L.length=bs.length→(∀ (i:Nat) (o:Oper) (b:Nat),L[i]?=some o→bs[i]?=some b→quiet P o=false→
   (ne P L i<k→Nat.testBit b p.1=false)∧(k≤ne P L i→Nat.testBit p.2.2 (i0+i)=false))→j7 P p (lJ i0 L bs) k=true
 | [],[],i0,k,_,_=>by simp [lJ,j7]
 | o::L,b::bs,i0,k,hl,h=>by
   have hl':L.length=bs.length:=by simpa using hl
   simp only [lJ,j7]
   cases hq:quiet P o with
   | true=>
     simp only
     refine oF hl' (fun i o' b' h1 h2 h3=>?_)
     have:=h (i+1) o' b' (by simpa using h1) (by simpa using h2) h3
     rw [mA,hq] at this
     simp only [if_true,Nat.add_zero] at this
     exact ⟨this.1,fun hk=>by rw [show Nat.succ i0+i=i0+(i+1) by omega];exact this.2 hk⟩
   | false=>
     have h0:=h 0 o b rfl rfl hq
     rw [aJf] at h0
     cases k with
     | zero=>
       simp only [aI,Bool.not_eq_true']
       refine ⟨by simpa using h0.2 (aH _),oF hl' (fun i o' b' h1 h2 h3=>⟨fun hk=>by omega,fun hk=>?_⟩)⟩
       have:=h (i+1) o' b' (by simpa using h1) (by simpa using h2) h3
       rw [show Nat.succ i0+i=i0+(i+1) by omega]
       exact this.2 (by omega)
     | succ k=>
       simp only [aI,Bool.not_eq_true']
       refine ⟨h0.1 (by omega),oF hl' (fun i o' b' h1 h2 h3=>?_)⟩
       have:=h (i+1) o' b' (by simpa using h1) (by simpa using h2) h3
       rw [mA,hq] at this
       simp only [bN,if_false] at this
       exact ⟨fun hk=>this.1 (by omega),fun hk=>by rw [show Nat.succ i0+i=i0+(i+1) by omega];exact this.2 (by omega)⟩
 | [],_::_,_,_,hl,_=>by simp at hl
 | _::_,[],_,_,hl,_=>by simp at hl
structure Rec where
 T:Tr AV
 b:Bool
 ld:Bool
 av:AV
abbrev Hs:=List (Hp×Nat)
structure Pan where
 av:AV
 h:Hp
 c:Nat
abbrev aQx:=Tr AV→Hp→Nat→Option (List Rec×Hs×Tr AV×Option Pan)
def uC (P:Program) (I:Aux) (call:dH) (nt:Nat) (ops:Array Oper) (o:Oper) (ih:aQx) (T:Tr AV) (h:Hp) (c:Nat):Option (List Rec×Hs×Tr AV×Option Pan):=match eE ops T o with
    | none=>none
    | some false=>match dK nt T o.dst (.tup []) with
      | none=>none
      | some T'=>match ih T' h c with
        | none=>none
        | some (rs,hs,Te,pn)=>match quiet P o with
          | true=>some (⟨T,false,false,.tup []⟩::rs,hs,Te,pn)
          | false=>some (⟨T,false,false,.tup []⟩::rs,(h,c)::hs,Te,pn)
    | some true=>match quiet P o with
      | true=>match l7 P T o with
        | some av=>match dK nt T o.dst av with
          | none=>none
          | some T'=>match ih T' h c with
            | none=>none
            | some (rs,hs,Te,pn)=>some (⟨T,true,false,av⟩::rs,hs,Te,pn)
        | none=>match jT P T h o with
          | none=>none
          | some av=>match dK nt T o.dst av with
            | none=>none
            | some T'=>match ih T' h c with
              | none=>none
              | some (rs,hs,Te,pn)=>some (⟨T,true,true,av⟩::rs,hs,Te,pn)
      | false=>match kC P I call T h c o with
        | .val av h' c'=>match dK nt T o.dst av with
          | none=>none
          | some T'=>match ih T' h' c' with
            | none=>none
            | some (rs,hs,Te,pn)=>some (⟨T,true,false,av⟩::rs,(h,c)::hs,Te,pn)
        | .pan av h' c'=>some ([],[(h,c)],T,some ⟨av,h',c'⟩)
        | .fail=>none
def pZ (P:Program) (I:Aux) (call:dH) (nt:Nat) (ops:Array Oper) (l:List Oper):aQx:=
 List.rec (motive:=fun _=>aQx) (fun T h c=>some ([],[(h,c)],T,none)) (fun o _ ih=>uC P I call nt ops o ih) l
theorem zZ (P:Program) (I:Aux) (call:dH) (nt:Nat) (ops:Array Oper) (T:Tr AV) (h:Hp) (c:Nat):pZ P I call nt ops [] T h c=some ([],[(h,c)],T,none):=rfl
theorem xZ (P:Program) (I:Aux) (call:dH) (nt:Nat) (ops:Array Oper) (o:Oper) (l:List Oper) (T:Tr AV) (h:Hp) (c:Nat):
 pZ P I call nt ops (o::l) T h c=uC P I call nt ops o (pZ P I call nt ops l) T h c:=rfl
def RecOk (P:Program) (I:Aux) (call:dH) (ops:Array Oper) (o:Oper) (r:Rec) (hs:Hs) (k:Nat):Prop:=
 eE ops r.T o=some r.b∧∃ hc,hs[k]?=some hc∧
  ((r.b=false∧r.av = .tup []∧(quiet P o=false→hs[k+1]?=some hc))∨
   (r.b=true∧quiet P o=true∧(l7 P r.T o=some r.av∨(r.ld=true∧jT P r.T hc.1 o=some r.av)))∨
   (r.b=true∧quiet P o=false∧∃ hc',kC P I call r.T hc.1 hc.2 o = .val r.av hc'.1 hc'.2∧hs[k+1]?=some hc'))
def PanOk (P:Program) (I:Aux) (call:dH) (ops:Array Oper) (l:List Oper) (rs:List Rec) (hs:Hs) (Te:Tr AV):Option Pan→Prop
 | none=>rs.length=l.length
 | some x=>∃ o hc,l[rs.length]?=some o∧quiet P o=false∧eE ops Te o=some true∧hs.getLast?=some hc∧kC P I call Te hc.1 hc.2 o = .pan x.av x.h x.c
section
variable {P:Program} {I:Aux} {call:dH} {ops:Array Oper} {l:List Oper} {rs:List Rec} {hs:Hs} {Te:Tr AV}
theorem PanOk.cons {pn:Option Pan} (o:Oper) (r:Rec) (h:PanOk P I call ops l rs hs Te pn):PanOk P I call ops (o::l) (r::rs) hs Te pn:=by
 cases pn with
 | none=>exact congrArg Nat.succ h
 | some x=>
   obtain ⟨p,hc,h1,h2⟩:=h
   exact ⟨p,hc,by simpa using h1,h2⟩
theorem PanOk.up {pn:Option Pan} {y:Hp×Nat} (x:Hp×Nat) (h0:hs[0]?=some y) (h:PanOk P I call ops l rs hs Te pn):PanOk P I call ops l rs (x::hs) Te pn:=by
 cases pn with
 | none=>exact h
 | some z=>
   obtain ⟨p,hc,h1,h2,h3,h4,h5⟩:=h
   refine ⟨p,hc,h1,h2,h3,?_,h5⟩
   cases hs with
   | nil=>simp at h0
   | cons a b=>simpa using h4
end
theorem fH {P:Program} {I:Aux} {call:dH} {nt:Nat} {ops:Array Oper}:∀ {l:List Oper} {T Te:Tr AV} {h:Hp} {c:Nat} {rs:List Rec} {hs:Hs} {pn:Option Pan},pZ P I call nt ops l T h c=some (rs,hs,Te,pn)→
  hs[0]?=some (h,c)∧hs.length=ne P l rs.length+1∧PanOk P I call ops l rs hs Te pn
 | [],T,Te,h,c,rs,hs,pn,hd=>by
   simp [zZ] at hd
   obtain ⟨rfl,rfl,rfl,rfl⟩:=hd
   exact ⟨rfl,rfl,rfl⟩
 | o::l,T,Te,h,c,rs,hs,pn,hd=>by
   rw [xZ] at hd
   unfold uC at hd
   split at hd <;> first | (cases hd;done) | skip
   · split at hd <;> first | (cases hd;done) | skip
     split at hd <;> first | (cases hd;done) | skip
     rename_i rs' hs' Te' pn' he
     obtain ⟨h1,h2,h3⟩:=fH he
     split at hd
     · rename_i hq
       injection hd with hd
       injection hd with e1 hd
       injection hd with e2 hd
       injection hd with e3 e4
       subst e1 e2 e3 e4
       exact ⟨h1,by rw [aB,mA,hq,h2];simp,h3.cons _ _⟩
     · rename_i hq
       injection hd with hd
       injection hd with e1 hd
       injection hd with e2 hd
       injection hd with e3 e4
       subst e1 e2 e3 e4
       exact ⟨rfl,by rw [aB,aB,mA,hq,h2];simp,(h3.up _ h1).cons _ _⟩
   · rename_i hw
     split at hd
     · rename_i hq
       split at hd
       · split at hd <;> first | (cases hd;done) | skip
         split at hd <;> first | (cases hd;done) | skip
         rename_i rs' hs' Te' pn' he
         obtain ⟨h1,h2,h3⟩:=fH he
         injection hd with hd
         injection hd with e1 hd
         injection hd with e2 hd
         injection hd with e3 e4
         subst e1 e2 e3 e4
         exact ⟨h1,by rw [aB,mA,hq,h2];simp,h3.cons _ _⟩
       · split at hd <;> first | (cases hd;done) | skip
         split at hd <;> first | (cases hd;done) | skip
         split at hd <;> first | (cases hd;done) | skip
         rename_i rs' hs' Te' pn' he
         obtain ⟨h1,h2,h3⟩:=fH he
         injection hd with hd
         injection hd with e1 hd
         injection hd with e2 hd
         injection hd with e3 e4
         subst e1 e2 e3 e4
         exact ⟨h1,by rw [aB,mA,hq,h2];simp,h3.cons _ _⟩
     · rename_i hq
       split at hd <;> first | (cases hd;done) | skip
       · split at hd <;> first | (cases hd;done) | skip
         split at hd <;> first | (cases hd;done) | skip
         rename_i rs' hs' Te' pn' he
         obtain ⟨h1,h2,h3⟩:=fH he
         injection hd with hd
         injection hd with e1 hd
         injection hd with e2 hd
         injection hd with e3 e4
         subst e1 e2 e3 e4
         exact ⟨rfl,by rw [aB,aB,mA,hq,h2];simp,(h3.up _ h1).cons _ _⟩
       · rename_i av h' c' hev
         injection hd with hd
         injection hd with e1 hd
         injection hd with e2 hd
         injection hd with e3 e4
         subst e1 e2 e3 e4
         exact ⟨rfl,rfl,o,(h,c),rfl,hq,hw,rfl,hev⟩
end Go.Sy
end
end
section
noncomputable section
namespace Go.Sy
open Go Go.RowKit
def aA9 (l:List Oper):Prop:=∀ (i j:Nat) (p q:Oper) (t:Nat),l[i]?=some p→l[j]?=some q→p.dst=some t→q.dst=some t→i=j
structure Spec (P:Program) (I:Aux) (call:dH) (nt:Nat) (ops:Array Oper) (l:List Oper) (T:Tr AV) (rs:List Rec) (hs:Hs) (Te:Tr AV):Prop where
 recs:∀ (i:Nat) (o:Oper) (r:Rec),l[i]?=some o→rs[i]?=some r→RecOk P I call ops o r hs (ne P l i)
 hit:∀ (i:Nat) (Ti:Tr AV) (j:Nat) (o:Oper) (r:Rec) (t:Nat),(rs.map (·.T)++[Te])[i]?=some Ti→j<i→l[j]?=some o→rs[j]?=some r→o.dst=some t→Ti.get t=some r.av
 miss:∀ (i:Nat) (Ti:Tr AV) (t:Nat),(rs.map (·.T)++[Te])[i]?=some Ti→(∀ (j:Nat) (o:Oper),j<i→l[j]?=some o→o.dst≠some t)→Ti.get t=T.get t
 inb:∀ (j:Nat) (o:Oper) (r:Rec) (t:Nat),l[j]?=some o→rs[j]?=some r→o.dst=some t→t<nt
section
variable {P:Program} {call:dH} {I:Aux} {nt:Nat} {ops:Array Oper}
theorem RecOk.up {o:Oper} {r:Rec} {hs:Hs} {k:Nat} (x:Hp×Nat) (h:RecOk P I call ops o r hs k):RecOk P I call ops o r (x::hs) (k+1):=by
 obtain ⟨h1,hc,h2,h3⟩:=h
 exact ⟨h1,hc,by simpa using h2,by simpa using h3⟩
theorem aHr {T T':Tr AV} {dst:Option Tmp} {av:AV} {t:Nat} (h:dK nt T dst av=some T') (hd:dst=some t):T'.get t=some av∧t<nt:=by
 subst hd
 simp only [dK] at h
 split at h
 · rename_i hlt
   injection h with h
   subst h
   exact ⟨Tr.get_put_same _ _ _,cI hlt⟩
 · cases h
theorem aOi {T T':Tr AV} {dst:Option Tmp} {av:AV} {t:Nat} (h:dK nt T dst av=some T') (hd:dst≠some t):T'.get t=T.get t:=by
 cases dst with
 | none=>injection h with h;subst h;rfl
 | some d=>
   simp only [dK] at h
   split at h
   · injection h with h
     subst h
     exact Tr.get_put_ne _ _ (fun e=>hd (by rw [e]))
   · cases h
theorem Spec.cons {o:Oper} {l:List Oper} {T T' Te:Tr AV} {rs:List Rec} {hs hs':Hs} {r:Rec} (hu:aA9 (o::l)) (h:Spec P I call nt ops l T' rs hs Te) (hT:r.T=T) (hp:dK nt T o.dst r.av=some T')
  (hh:(quiet P o=true∧hs'=hs)∨(quiet P o=false∧∃ x,hs'=x::hs)) (h0:RecOk P I call ops o r hs' 0):Spec P I call nt ops (o::l) T (r::rs) hs' Te:=by
 refine ⟨fun i p q hi hq=>?_,fun i Ti j p q t hi hj hp' hq hd=>?_,fun i Ti t hi hm=>?_,fun j p q t hj hq hd=>?_⟩
 · cases i with
   | zero=>simp at hi hq;subst hi hq;exact h0
   | succ i=>
     have:=h.recs i p q (by simpa using hi) (by simpa using hq)
     rw [mA]
     rcases hh with ⟨hqt,rfl⟩ | ⟨hqt,x,rfl⟩
     · rw [hqt];exact this
     · rw [hqt];exact this.up x
 · cases i with
   | zero=>omega
   | succ i=>
     have hi':(rs.map (·.T)++[Te])[i]?=some Ti:=by simpa using hi
     cases j with
     | zero=>
       simp at hp' hq
       subst hp' hq
       have hne:∀ (j:Nat) (o':Oper),j<i→l[j]?=some o'→o'.dst≠some t:=fun j o' _ hj' hd'=>by
        have:=hu 0 (j+1) o o' t rfl (by simpa using hj') hd hd'
        omega
       rw [h.miss i Ti t hi' hne]
       exact (aHr hp hd).1
     | succ j=>exact h.hit i Ti j p q t hi' (by omega) (by simpa using hp') (by simpa using hq) hd
 · cases i with
   | zero=>simp at hi;subst hi;rw [hT]
   | succ i=>
     have hi':(rs.map (·.T)++[Te])[i]?=some Ti:=by simpa using hi
     rw [h.miss i Ti t hi' (fun j o' hj ho'=>hm (j+1) o' (by omega) (by simpa using ho'))]
     exact aOi hp (hm 0 o (by omega) rfl)
 · cases j with
   | zero=>simp at hj;subst hj;exact (aHr hp hd).2
   | succ j=>exact h.inb j p q t (by simpa using hj) (by simpa using hq) hd
theorem Spec.nil {l:List Oper} {T:Tr AV} {h:Hp} {c:Nat}:Spec P I call nt ops l T [] [(h,c)] T:=by
 refine ⟨fun i o r _ hi=>by simp at hi,fun i Ti j o r t _ _ _ hj=>by simp at hj,fun i Ti t hi _=>?_,fun j o r t _ hj=>by simp at hj⟩
 cases i with
 | zero=>simp at hi;subst hi;rfl
 | succ i=>simp at hi
theorem kS:∀ {l:List Oper} {T Te:Tr AV} {h:Hp} {c:Nat} {rs:List Rec} {hs:Hs} {pn:Option Pan},aA9 l→pZ P I call nt ops l T h c=some (rs,hs,Te,pn)→Spec P I call nt ops l T rs hs Te
 | [],T,Te,h,c,rs,hs,pn,_,hd=>by
   simp [zZ] at hd
   obtain ⟨rfl,rfl,rfl,rfl⟩:=hd
   exact Spec.nil
 | o::l,T,Te,h,c,rs,hs,pn,hu,hd=>by
   have hu':aA9 l:=fun i j p q t hi hj h1 h2=>by
    have:=hu (i+1) (j+1) p q t (by simpa using hi) (by simpa using hj) h1 h2
    omega
   rw [xZ] at hd
   unfold uC at hd
   split at hd <;> first | (cases hd;done) | skip
   · rename_i hw
     split at hd <;> first | (cases hd;done) | skip
     rename_i T' hT'
     split at hd <;> first | (cases hd;done) | skip
     rename_i rs' hs' Te' pn' he
     have hsp:=kS hu' he
     obtain ⟨h1,h2,h3⟩:=fH he
     split at hd
     · rename_i hq
       injection hd with hd
       injection hd with e1 hd
       injection hd with e2 hd
       injection hd with e3 e4
       subst e1 e2 e3 e4
       exact hsp.cons hu rfl hT' (.inl ⟨hq,rfl⟩) ⟨hw,(h,c),h1,.inl ⟨rfl,rfl,fun e=>by rw [hq] at e;cases e⟩⟩
     · rename_i hq
       injection hd with hd
       injection hd with e1 hd
       injection hd with e2 hd
       injection hd with e3 e4
       subst e1 e2 e3 e4
       exact hsp.cons hu rfl hT' (.inr ⟨hq,_,rfl⟩) ⟨hw,(h,c),rfl,.inl ⟨rfl,rfl,fun _=>by simpa using h1⟩⟩
   · rename_i hw
     split at hd
     · rename_i hq
       split at hd
       · rename_i av hav
         split at hd <;> first | (cases hd;done) | skip
         rename_i T' hT'
         split at hd <;> first | (cases hd;done) | skip
         rename_i rs' hs' Te' pn' he
         have hsp:=kS hu' he
         obtain ⟨h1,h2,h3⟩:=fH he
         injection hd with hd
         injection hd with e1 hd
         injection hd with e2 hd
         injection hd with e3 e4
         subst e1 e2 e3 e4
         exact hsp.cons hu rfl hT' (.inl ⟨hq,rfl⟩) ⟨hw,(h,c),h1,.inr (.inl ⟨rfl,hq,.inl hav⟩)⟩
       · split at hd <;> first | (cases hd;done) | skip
         rename_i av hav
         split at hd <;> first | (cases hd;done) | skip
         rename_i T' hT'
         split at hd <;> first | (cases hd;done) | skip
         rename_i rs' hs' Te' pn' he
         have hsp:=kS hu' he
         obtain ⟨h1,h2,h3⟩:=fH he
         injection hd with hd
         injection hd with e1 hd
         injection hd with e2 hd
         injection hd with e3 e4
         subst e1 e2 e3 e4
         exact hsp.cons hu rfl hT' (.inl ⟨hq,rfl⟩) ⟨hw,(h,c),h1,.inr (.inl ⟨rfl,hq,.inr ⟨rfl,hav⟩⟩)⟩
     · rename_i hq
       split at hd <;> first | (cases hd;done) | skip
       · rename_i av h' c' hev
         split at hd <;> first | (cases hd;done) | skip
         rename_i T' hT'
         split at hd <;> first | (cases hd;done) | skip
         rename_i rs' hs' Te' pn' he
         have hsp:=kS hu' he
         obtain ⟨h1,h2,h3⟩:=fH he
         injection hd with hd
         injection hd with e1 hd
         injection hd with e2 hd
         injection hd with e3 e4
         subst e1 e2 e3 e4
         exact hsp.cons hu rfl hT' (.inr ⟨hq,_,rfl⟩) ⟨hw,(h,c),rfl,.inr (.inr ⟨rfl,hq,(h',c'),hev,by simpa using h1⟩)⟩
       · injection hd with hd
         injection hd with e1 hd
         injection hd with e2 hd
         injection hd with e3 e4
         subst e1 e2 e3 e4
         exact Spec.nil
end
def u0 (P:Program) (R:List Row) (p:Row) (r:Rec) (ko:Nat):Hs→Nat→Bool
 | [],_=>true
 | hc::l,k=>match Nat.beq k ko with
   | true=>u0 P R p r ko l (Nat.succ k)
   | false=>match j7 P p R k with
     | true=>match jT P r.T hc.1 p.2.1 with
       | some av=>match same av r.av with
         | true=>u0 P R p r ko l (Nat.succ k)
         | false=>false
       | none=>false
     | false=>u0 P R p r ko l (Nat.succ k)
def rV (P:Program) (L:List Oper) (R:List Row) (hs:Hs):List Row→List Rec→Bool
 | p::l,r::rs=>match r.ld with
   | true=>match u0 P R p r (ne P L p.1) hs 0 with
     | true=>rV P L R hs l rs
     | false=>false
   | false=>rV P L R hs l rs
 | _,_=>true
theorem aJl {P:Program} {R:List Row} {p:Row} {r:Rec} {ko:Nat}:∀ {l:Hs} {k0:Nat},u0 P R p r ko l k0=true→∀ (k:Nat) (hc:Hp×Nat),l[k]?=some hc→k0+k≠ko→j7 P p R (k0+k)=true→jT P r.T hc.1 p.2.1=some r.av
 | [],k0,_,k,hc,h,_,_=>by simp at h
 | x::l,k0,h,0,hc,h1,hne,h2=>by
   simp at h1
   subst h1
   simp only [u0] at h
   rw [Nat.add_zero] at h2 hne
   split at h
   · rename_i hb;exact absurd (aV hb) hne
   rw [h2] at h
   simp only at h
   split at h
   · rename_i av hav
     split at h
     · rename_i hs
       rw [hav,aTg hs]
     · cases h
   · cases h
 | x::l,k0,h,k+1,hc,h1,hne,h2=>by
   have h':u0 P R p r ko l (Nat.succ k0)=true:=by
    simp only [u0] at h
    split at h
    · exact h
    split at h
    · split at h
      · split at h
        · exact h
        · cases h
      · cases h
    · exact h
   exact aJl h' k hc (by simpa using h1) (by omega) (by rw [show Nat.succ k0+k=k0+(k+1) by omega];exact h2)
theorem aF3 {P:Program} {L:List Oper} {R:List Row} {hs:Hs}:∀ {l:List Row} {rs:List Rec},rV P L R hs l rs=true→∀ (i:Nat) (p:Row) (r:Rec),l[i]?=some p→rs[i]?=some r→r.ld=true→u0 P R p r (ne P L p.1) hs 0=true
 | p::l,r::rs,h,0,p',r',h1,h2,h3=>by
   simp at h1 h2
   subst h1 h2
   simp only [rV,h3] at h
   split at h
   · assumption
   · cases h
 | p::l,r::rs,h,i+1,p',r',h1,h2,h3=>by
   have h':rV P L R hs l rs=true:=by
    simp only [rV] at h
    split at h
    · split at h
      · exact h
      · cases h
    · exact h
   exact aF3 h' i p' r' (by simpa using h1) (by simpa using h2) h3
 | [],_,_,_,_,_,h1,_,_=>by simp at h1
 | _::_,[],_,_,_,_,_,h2,_=>by simp at h2
def cX (p:Nat):List Row→Bool
 | []=>true
 | q::l=>match Nat.blt p q.1 with
   | true=>match Nat.testBit q.2.2 p with
     | true=>cX p l
     | false=>false
   | false=>cX p l
theorem aA4 {p:Nat}:∀ {l:List Row},cX p l=true→∀ q∈l,p<q.1→Nat.testBit q.2.2 p=true
 | [],_,q,hq,_=>by simp at hq
 | x::l,h,q,hq,hlt=>by
   simp only [cX] at h
   rcases bJ hq with rfl | hq
   · have:Nat.blt p q.1=true:=by simp [Nat.blt];omega
     rw [this] at h
     simp only at h
     split at h
     · assumption
     · cases h
   · split at h
     · split at h
       · exact aA4 h q hq hlt
       · cases h
     · exact aA4 h q hq hlt
def nW (P:Program) (I:Aux) (call:dH) (nt:Nat) (ops:Array Oper) (s:St):R2:=match aHa P ops (lJ 0 ops.toList (eH ops.toList [])) with
 | false => .fail
 | true=>match pZ P I call nt ops ops.toList s.T s.h s.c with
   | none => .fail
   | some (rs,hs,Te,pn)=>match rV P ops.toList (lJ 0 ops.toList (eH ops.toList [])) hs (lJ 0 ops.toList (eH ops.toList [])) rs with
     | false => .fail
     | true=>match pn with
       | none=>match hs.getLast? with
         | none => .fail
         | some hc => .ok .normal ⟨Te,hc.1,hc.2,s.ds⟩
       | some x=>match cX rs.length (lJ 0 ops.toList (eH ops.toList [])) with
         | false => .fail
         | true => .ok (.pan x.av) ⟨.leaf,x.h,x.c,s.ds⟩
abbrev inS (S:Array Bool) (i:Nat):Prop:=S.getD i false=true
def isA (ah:Option (Nat×Nat×Nat)) (x:Nat):Prop:=∃ i b,ah=some (i,x,b)
theorem kK (x:Nat):¬ isA none x:=fun ⟨_,_,h⟩=>by cases h
structure DInv (P:Program) (B:Nat→Prop) (γ0:Gm) (w0:World) (nt:Nat) (T0:Tr AV) (ds:List ADef) (L:List Oper) (rs:List Rec) (hs:Hs) (ah:Option (Nat×Nat×Nat)) (S:Array Bool) (a:Act) (w:World) (k:Nat) (γ:Gm) (hc:Hp×Nat):Prop where
 size:S.size=L.length
 closed:∀ (i:Nat) (o:Oper),inS S i→L[i]?=some o→∀ e∈o.after.toList,Region.binds .any e=true→inS S e.on
 heap:hs[k]?=some hc
 le:Gm.le γ0 γ
 hr:HR B P.globals.size γ hc.1 hc.2 w
 below:Keep B w0 w
 tsize:a.tmps.size=nt
 defs:DR γ ds a.defers
 eff:∀ (i:Nat) (o:Oper),L[i]?=some o→quiet P o=false→(inS S i↔(ne P L i<k∨isA ah i))
 done:∀ (i:Nat) (o:Oper) (r:Rec) (t:Nat),L[i]?=some o→rs[i]?=some r→o.dst=some t→inS S i→¬ isA ah i→∃ v,a.tmps[t]?=some v∧VR γ r.av v
 todo:∀ (t:Nat) (av:AV),T0.get t=some av→(∀ (i:Nat) (o:Oper),L[i]?=some o→o.dst=some t→¬ inS S i)→∃ v,a.tmps[t]?=some v∧VR γ av v
 ahd:∀ i j b,ah=some (i,j,b)→¬ inS S i∧inS S j∧ne P L i=k∧ne P L j=k+1∧(∃ oi ei,L[i]?=some oi∧quiet P oi=false∧fJ oi=some ei)∧∃ oj e z,L[j]?=some oj∧fJ oj=some e∧iO P e=some z∧w.heap[b]?=some (.cells z.cells e (0,0))∧¬ B b∧
  (∀ x blk p,hc.1.get x=some blk→γ x=some p→p.1≠b)∧(∀ t,oj.dst=some t→a.tmps[t]?=some (.pointer (some ⟨b,0,none⟩)))∧
  (∀ (x:Nat) (o:Oper) (m:Nat),L[x]?=some o→(eH L [])[x]?=some m→x≠j→m.testBit j=true→m.testBit i=true)
theorem dT {S:Array Bool} {i j:Nat} (hi:i<S.size):inS (S.setIfInBounds i true) j↔j=i∨inS S j:=by
 unfold inS
 rw [Array.getD_eq_getD_getElem?,Array.getD_eq_getD_getElem?,Array.getElem?_setIfInBounds]
 by_cases e:i=j
 · subst e;simp [hi]
 · have:j≠i:=fun h=>e h.symm
   simp [e,this]
section
variable {P:Program} {B:Nat→Prop} {γ0:Gm} {w0:World} {nt:Nat} {T0 Te:Tr AV} {ds:List ADef} {ops:Array Oper} {rs:List Rec} {hs:Hs} {call:dH} {I:Aux} {Q:Exit→Act→World→Prop}
theorem DInv.step {L:List Oper} {ah:Option (Nat×Nat×Nat)} {S:Array Bool} {a:Act} {w w':World} {k k':Nat} {γ γ':Gm} {hc hc':Hp×Nat} (hu:aA9 L) (hsp:Spec P I call nt ops L T0 rs hs Te) (d:DInv P B γ0 w0 nt T0 ds L rs hs ah S a w k γ hc)
  {i:Nat} {o:Oper} {r:Rec} (hi:L[i]?=some o) (hri:rs[i]?=some r) (hniS:¬ inS S i) (hpre:∀ e∈o.after.toList,Region.binds .any e=true→inS S e.on)
  (hah:∀ i0 j b,ah=some (i0,j,b)→i≠i0∧k'=k∧γ'=γ∧hc'=hc∧w'=w)
  (hle:Gm.le γ γ') (hheap:hs[k']?=some hc') (hr:HR B P.globals.size γ' hc'.1 hc'.2 w') (hb:Keep B w0 w') {v:Value} (hv:VR γ' r.av v)
  (heff:∀ (j:Nat) (p:Oper),L[j]?=some p→quiet P p=false→((j=i∨inS S j)↔(ne P L j<k'∨isA ah j))):
  DInv P B γ0 w0 nt T0 ds L rs hs ah (S.setIfInBounds i true) (a.put o.dst v) w' k' γ' hc':=by
 have hil:i<L.length:=(List.getElem?_eq_some_iff.1 hi).1
 have his:i<S.size:=by rw [d.size];exact hil
 refine ⟨by simp [d.size],fun j p hj hp e he hbn=>?_,hheap,d.le.trans hle,hr,hb,?_,?_,fun j p hp hq=>?_,fun j p q t hp hq hd hj hna=>?_,fun t av ht hnone=>?_,fun i0 j b hab=>?_⟩
 · rw [dT his] at hj ⊢
   rcases hj with rfl | hj
   · rw [hi] at hp;injection hp with hp;subst hp
     exact .inr (hpre e he hbn)
   · exact .inr (d.closed j p hj hp e he hbn)
 · cases o.dst <;> simp [Act.put,d.tsize]
 · have:(a.put o.dst v).defers=a.defers:=by cases o.dst <;> rfl
   rw [this]
   exact d.defs.mono hle
 · rw [dT his];exact heff j p hp hq
 · rw [dT his] at hj
   by_cases hji:j=i
   · subst hji
     rw [hi] at hp;injection hp with hp;subst hp
     rw [hri] at hq;injection hq with hq;subst hq
     have hlt:=hsp.inb j o r t hi hri hd
     exact ⟨v,by simp [Act.put,hd,d.tsize,hlt],hv⟩
   · have hj':inS S j:=hj.resolve_left hji
     obtain ⟨x,h1,h2⟩:=d.done j p q t hp hq hd hj' hna
     refine ⟨x,?_,h2.mono hle⟩
     cases hod:o.dst with
     | none=>simpa [Act.put] using h1
     | some t'=>
       have hne:t'≠t:=fun e=>hji (hu j i p o t hp hi hd (by rw [hod,e]))
       simp only [Act.put]
       rw [Array.getElem?_setIfInBounds_ne hne]
       exact h1
 · have hnone':∀ (j:Nat) (p:Oper),L[j]?=some p→p.dst=some t→¬ inS S j:=fun j p hp hd hj=>hnone j p hp hd ((dT his).2 (.inr hj))
   obtain ⟨x,h1,h2⟩:=d.todo t av ht hnone'
   refine ⟨x,?_,h2.mono hle⟩
   cases hod:o.dst with
   | none=>simpa [Act.put] using h1
   | some t'=>
     have hne:t'≠t:=fun e=>hnone i o hi (by rw [hod,e]) ((dT his).2 (.inl rfl))
     simp only [Act.put]
     rw [Array.getElem?_setIfInBounds_ne hne]
     exact h1
 · obtain ⟨hne0,rfl,rfl,rfl,rfl⟩:=hah i0 j b hab
   obtain ⟨g1,g2,g3,g4,g0,oj,e,z,g5,g6,g7,g8,g9,g10,g11,g12⟩:=d.ahd i0 j b hab
   have hij:i≠j:=fun e=>hniS (by rw [e];exact g2)
   refine ⟨fun h=>?_,(dT his).2 (.inr g2),g3,g4,g0,oj,e,z,g5,g6,g7,g8,g9,g10,fun t ht=>?_,g12⟩
   · rcases (dT his).1 h with e | h
     · exact hne0 e.symm
     · exact g1 h
   · cases hod:o.dst with
     | none=>simpa [Act.put] using g11 t ht
     | some t'=>
       have hne:t'≠t:=fun e=>hij (hu i j o oj t hi g5 (by rw [hod,e]) ht)
       simp only [Act.put]
       rw [Array.getElem?_setIfInBounds_ne hne]
       exact g11 t ht
theorem DInv.early {L:List Oper} {S:Array Bool} {a:Act} {w:World} {k:Nat} {γ:Gm} {hc:Hp×Nat} (hu:aA9 L) (hsp:Spec P I call nt ops L T0 rs hs Te) (d:DInv P B γ0 w0 nt T0 ds L rs hs none S a w k γ hc)
  {i j:Nat} {oj:Oper} {rj:Rec} {e:TypeId} {z:Value} (hj:L[j]?=some oj) (hrj:rs[j]?=some rj) (hniS:¬ inS S i) (hnjS:¬ inS S j) (hpre:∀ e∈oj.after.toList,Region.binds .any e=true→inS S e.on)
  (hal:fJ oj=some e) (hz:iO P e=some z) (hki:ne P L i=k) (hkj:ne P L j=k+1) (hij:i≠j) (hoi:∃ oi ei,L[i]?=some oi∧quiet P oi=false∧fJ oi=some ei)
  (hfree:∀ (x:Nat) (o:Oper) (m:Nat),L[x]?=some o→(eH L [])[x]?=some m→x≠j→m.testBit j=true→m.testBit i=true):
  DInv P B γ0 w0 nt T0 ds L rs hs (some (i,j,w.heap.size)) (S.setIfInBounds j true) (a.put oj.dst (.pointer (some ⟨w.heap.size,0,none⟩))) (w.alloc (.cells z.cells e)) k γ hc:=by
 have hil:j<L.length:=(List.getElem?_eq_some_iff.1 hj).1
 have his:j<S.size:=by rw [d.size];exact hil
 have hsz:w.heap.size≤(w.alloc (.cells z.cells e)).heap.size:=by show w.heap.size≤(w.heap.push _).size;rw [Array.size_push];omega
 have hA:∀ x,isA (some (i,j,w.heap.size)) x↔x=j:=fun x=>⟨fun ⟨_,_,h⟩=>by injection h with h;injection h with _ h;injection h with h _;exact h.symm,fun h=>⟨i,w.heap.size,by rw [h]⟩⟩
 have hput:∀ t,oj.dst=some t→(a.put oj.dst (.pointer (some ⟨w.heap.size,0,none⟩))).tmps[t]?=some (.pointer (some ⟨w.heap.size,0,none⟩)):=fun t ht=>by
  have hlt:=hsp.inb j oj rj t hj hrj ht
  simp [Act.put,ht,d.tsize,hlt]
 have hold:∀ (t:Nat) (v:Value),oj.dst≠some t→a.tmps[t]?=some v→(a.put oj.dst (.pointer (some ⟨w.heap.size,0,none⟩))).tmps[t]?=some v:=fun t v hd h1=>by
  cases hod:oj.dst with
  | none=>simpa [Act.put] using h1
  | some t'=>
    have hne:t'≠t:=fun e=>hd (by rw [hod,e])
    simp only [Act.put]
    rw [Array.getElem?_setIfInBounds_ne hne]
    exact h1
 refine ⟨by simp [d.size],fun x p hx hp e he hbn=>?_,d.heap,d.le,d.hr.kept hsz (fun x hx=>heap_alloc_old w _ x hx),d.below.alloc d.hr.base _,?_,?_,fun x p hp hq=>?_,fun x p q t hp hq hd hx hna=>?_,fun t av ht hnone=>?_,fun i0 j0 b0 hab=>?_⟩
 · rw [dT his] at hx ⊢
   rcases hx with rfl | hx
   · rw [hj] at hp;injection hp with hp;subst hp
     exact .inr (hpre e he hbn)
   · exact .inr (d.closed x p hx hp e he hbn)
 · cases oj.dst <;> simp [Act.put,d.tsize]
 · have:(a.put oj.dst (.pointer (some ⟨w.heap.size,0,none⟩))).defers=a.defers:=by cases oj.dst <;> rfl
   rw [this]
   exact d.defs
 · rw [dT his,hA,d.eff x p hp hq]
   constructor
   · rintro (h | h | h)
     · exact .inr h
     · exact .inl h
     · exact absurd h (kK x)
   · rintro (h | h)
     · exact .inr (.inl h)
     · exact .inl h
 · rw [dT his] at hx
   have hxj:x≠j:=fun e=>hna ((hA x).2 e)
   obtain ⟨y,h1,h2⟩:=d.done x p q t hp hq hd (hx.resolve_left hxj) (kK x)
   exact ⟨y,hold t y (fun e=>hxj (hu x j p oj t hp hj hd e)) h1,h2⟩
 · obtain ⟨y,h1,h2⟩:=d.todo t av ht (fun x p hp hd hx=>hnone x p hp hd ((dT his).2 (.inr hx)))
   exact ⟨y,hold t y (fun e=>hnone j oj hj e ((dT his).2 (.inl rfl))) h1,h2⟩
 · injection hab with hab
   injection hab with e1 hab
   injection hab with e2 e3
   subst e1 e2 e3
   refine ⟨fun h=>?_,(dT his).2 (.inl rfl),hki,hkj,hoi,oj,e,z,hj,hal,hz,heap_alloc_new w _,d.hr.new,fun x blk p h1 h2 h3=>?_,hput,hfree⟩
   · rcases (dT his).1 h with e | h
     · exact hij e
     · exact hniS h
   · obtain ⟨q,hq,hbr⟩:=d.hr.live x blk h1
     rw [h2] at hq
     injection hq with hq
     subst hq
     have:=hbr.lt
     omega
theorem DInv.join {L:List Oper} {S:Array Bool} {a:Act} {w:World} {k:Nat} {γ:Gm} {hc hc2:Hp×Nat} {i j b:Nat} (hu:aA9 L) (hsp:Spec P I call nt ops L T0 rs hs Te) (d:DInv P B γ0 w0 nt T0 ds L rs hs (some (i,j,b)) S a w k γ hc)
  {oi oj:Oper} {ri rj:Rec} {ei ej:TypeId} {zi zj:Value} (hi:L[i]?=some oi) (hri:rs[i]?=some ri) (hj:L[j]?=some oj) (hrj:rs[j]?=some rj) (hpre:∀ e∈oi.after.toList,Region.binds .any e=true→inS S e.on)
  (hqi:quiet P oi=false) (hqj:quiet P oj=false)
  (hali:fJ oi=some ei) (halj:fJ oj=some ej) (hzi:iO P ei=some zi) (hzj:iO P ej=some zj) (havi:ri.av = .ptr hc.2 0) (havj:rj.av = .ptr (hc.2+1) 0)
  (hheap:hs[k+2]?=some hc2) (hhp:hc2=(kO ej (zj.cells.toList.map .v) (kO ei (zi.cells.toList.map .v) hc.1 hc.2) (hc.2+1),hc.2+1+1)):
  ∃ γ2,DInv P B γ0 w0 nt T0 ds L rs hs none (S.setIfInBounds i true) (a.put oi.dst (.pointer (some ⟨w.heap.size,0,none⟩))) (w.alloc (.cells zi.cells ei)) (k+2) γ2 hc2:=by
 obtain ⟨g1,g2,g3,g4,g0,oj',e',z',g5,g6,g7,g8,g9,g10,g11,g12⟩:=d.ahd i j b rfl
 rw [hj] at g5;injection g5 with g5;subst g5
 rw [halj] at g6;injection g6 with g6;subst g6
 rw [hzj] at g7;injection g7 with g7;subst g7
 have hil:i<L.length:=(List.getElem?_eq_some_iff.1 hi).1
 have his:i<S.size:=by rw [d.size];exact hil
 have hij:i≠j:=fun e=>g1 (by rw [e];exact g2)
 obtain ⟨n1,n2,n3,n4⟩:=oU d.hr d.below (LR.vs (γ:=γ) zi.cells.toList) ei
 rw [Array.toArray_toList] at n3 n4
 have hblt:b<w.heap.size:=(Array.getElem?_eq_some_iff.1 g8).1
 obtain ⟨γ1,hγ1⟩:∃ γ1,γ1=γ.upd hc.2 (w.heap.size,zi.cells.toList.length):=⟨_,rfl⟩
 rw [← hγ1] at n1 n2 n3
 have hfr:γ1 (hc.2+1)=none:=n3.fresh _ (aH _)
 have hle2:=Gm.upd_le hfr (b,zj.cells.toList.length)
 have hold1:(w.alloc (.cells zi.cells ei)).heap[b]?=some (.cells zj.cells ej (0,0)):=by rw [heap_alloc_old w _ b hblt];exact g8
 have hr2:=n3.add (w':=w.alloc (.cells zi.cells ei)) (b,zj.cells.toList.length) (.cells ej true true true (zj.cells.toList.map AV.v).length (d6 .leaf 0 (zj.cells.toList.map .v))) (aH _)
  (fun x blk p h1 h2=>⟨rfl,by
   unfold kO at h1
   rw [Tr.get_put] at h1
   split at h1
   · rename_i e;subst e
     rw [n2] at h2;injection h2 with h2;subst h2
     simp only;omega
   · obtain ⟨q,hq,_⟩:=d.hr.live x blk h1
     have:=n1 _ _ hq
     rw [this] at h2;injection h2 with h2;subst h2
     exact g10 x blk q h1 hq⟩)
  ⟨fun _=>g9,zj.cells,ej,(0,0),hold1,by simp,⟨fun _=>⟨rfl,rfl⟩,fun _=>⟨by simp,rfl⟩⟩,fun x av hlt hx=>by
   rw [f0,if_pos ⟨by omega,by omega⟩] at hx
   obtain ⟨y,h1,h2⟩:=(LR.vs (γ:=γ1.upd (hc.2+1) (b,zj.cells.toList.length)) zj.cells.toList).get (by simpa using hx)
   exact ⟨y,by simpa using h1,h2⟩⟩
 obtain ⟨γ2,hγ2⟩:∃ γ2,γ2=γ1.upd (hc.2+1) (b,zj.cells.toList.length):=⟨_,rfl⟩
 rw [← hγ2] at hr2 hle2
 have hle:Gm.le γ γ2:=n1.trans hle2
 have hold:∀ (t:Nat) (v:Value),oi.dst≠some t→a.tmps[t]?=some v→(a.put oi.dst (.pointer (some ⟨w.heap.size,0,none⟩))).tmps[t]?=some v:=fun t v hd h1=>by
  cases hod:oi.dst with
  | none=>simpa [Act.put] using h1
  | some t'=>
    have hne:t'≠t:=fun e=>hd (by rw [hod,e])
    simp only [Act.put]
    rw [Array.getElem?_setIfInBounds_ne hne]
    exact h1
 have hAj:∀ x,isA (some (i,j,b)) x↔x=j:=fun x=>⟨fun ⟨_,_,h⟩=>by injection h with h;injection h with _ h;injection h with h _;exact h.symm,fun h=>⟨i,b,by rw [h]⟩⟩
 refine ⟨γ2,by simp [d.size],fun x p hx hp e he hbn=>?_,hheap,d.le.trans hle,by rw [hhp];exact hr2,n4,?_,?_,fun x p hp hq=>?_,fun x p q t hp hq hd hx hna=>?_,fun t av ht hnone=>?_,fun i0 j0 b0 hab=>by cases hab⟩
 · rw [dT his] at hx ⊢
   rcases hx with rfl | hx
   · rw [hi] at hp;injection hp with hp;subst hp
     exact .inr (hpre e he hbn)
   · exact .inr (d.closed x p hx hp e he hbn)
 · cases oi.dst <;> simp [Act.put,d.tsize]
 · have:(a.put oi.dst (.pointer (some ⟨w.heap.size,0,none⟩))).defers=a.defers:=by cases oi.dst <;> rfl
   rw [this]
   exact d.defs.mono hle
 · rw [dT his,d.eff x p hp hq,hAj]
   constructor
   · rintro (h | h | h)
     · subst h;left;omega
     · left;omega
     · subst h;left;omega
   · rintro (h | h)
     · by_cases hxi:x=i
       · exact .inl hxi
       · by_cases hxj:x=j
         · exact .inr (.inr hxj)
         · right;left
           have h1:ne P L x≠ne P L i:=by
            rcases Nat.lt_or_gt_of_ne hxi with hlt | hgt
            · have:=yT P L hp hq hlt;omega
            · have:=yT P L hi hqi hgt;omega
           have h2:ne P L x≠ne P L j:=by
            rcases Nat.lt_or_gt_of_ne hxj with hlt | hgt
            · have:=yT P L hp hq hlt;omega
            · have:=yT P L hj hqj hgt;omega
           omega
     · exact absurd h (kK x)
 · rw [dT his] at hx
   by_cases hxi:x=i
   · subst hxi
     rw [hi] at hp;injection hp with hp;subst hp
     rw [hri] at hq;injection hq with hq;subst hq
     have hlt:=hsp.inb x oi ri t hi hri hd
     refine ⟨.pointer (some ⟨w.heap.size,0,none⟩),by simp [Act.put,hd,d.tsize,hlt],?_⟩
     rw [havi]
     exact .ptr (hle2 _ _ n2)
   · by_cases hxj:x=j
     · subst hxj
       rw [hj] at hp;injection hp with hp;subst hp
       rw [hrj] at hq;injection hq with hq;subst hq
       refine ⟨.pointer (some ⟨b,0,none⟩),hold t _ (fun e=>hxi (hu x i oj oi t hj hi hd e)) (g11 t hd),?_⟩
       rw [havj]
       exact .ptr (by rw [hγ2];exact Gm.upd_same _ _ _)
     · obtain ⟨y,h1,h2⟩:=d.done x p q t hp hq hd (hx.resolve_left hxi) (fun e=>hxj ((hAj x).1 e))
       exact ⟨y,hold t y (fun e=>hxi (hu x i p oi t hp hi hd e)) h1,h2.mono hle⟩
 · obtain ⟨y,h1,h2⟩:=d.todo t av ht (fun x p hp hd hx=>hnone x p hp hd ((dT his).2 (.inr hx)))
   exact ⟨y,hold t y (fun e=>hnone i oi hi e ((dT his).2 (.inl rfl))) h1,h2.mono hle⟩
theorem aB9 {t:Nat}:∀ {l:List Operand},Operand.tmp t∈l→t∈mR l
 | [],h=>by simp at h
 | x::l,h=>by
   rcases bJ h with rfl | h
   · simp [mR]
   · have:=aB9 h
     cases x <;> simp [mR,this]
end
end Go.Sy
end
end
section
noncomputable section
namespace Go.Sy
open Go Go.RowKit
section
variable {P:Program} {B:Nat→Prop} {γ0:Gm} {w0:World} {nt:Nat} {T0 Te:Tr AV} {ds:List ADef} {ops:Array Oper} {rs:List Rec} {hs:Hs} {call:dH} {I:Aux} {Q:Exit→Act→World→Prop}
abbrev m9 (ops:Array Oper):List Row:=lJ 0 ops.toList (eH ops.toList [])
theorem kI {i:Nat} {o:Oper} (hi:ops.toList[i]?=some o):∃ b,(eH ops.toList [])[i]?=some b∧(m9 ops)[i]?=some (i,o,b):=by
 have h1:=aA7 ops.toList [] i o hi
 simp only [aD,bH] at h1
 exact ⟨_,h1,by simpa using mS (i0:=0) hi h1⟩
structure DOk (P:Program) (ops:Array Oper):Prop where
 sel:Region.noSelect ops=true
 edges:∀ (i:Nat) (o:Oper),ops.toList[i]?=some o→∀ e∈o.after.toList,Region.binds .any e=true→e.on<i
 pairs:∀ (i j:Nat) (p q:Oper) (b c:Nat),ops.toList[i]?=some p→ops.toList[j]?=some q→(eH ops.toList [])[i]?=some b→(eH ops.toList [])[j]?=some c→wP P ops (m9 ops) (i,p,b) (j,q,c)=true
theorem dok (h:aHa P ops (m9 ops)=true):DOk P ops:=by
 unfold aHa at h
 rw [aI,List.all_eq_true] at h
 refine ⟨h.1,fun i o hi=>?_,fun i j p q b c hi hj hb hc=>?_⟩
 · obtain ⟨b,_,h2⟩:=kI hi
   have:=h.2 _ (List.mem_of_getElem? h2)
   rw [aI] at this
   exact sP this.1
 · have h2:=mS (i0:=0) hi hb
   have h3:=mS (i0:=0) hj hc
   rw [bH] at h2 h3
   have:=h.2 _ (List.mem_of_getElem? h2)
   rw [aI,List.all_eq_true] at this
   exact this.2 _ (List.mem_of_getElem? h3)
theorem DOk.uniq (d:DOk P ops):aA9 ops.toList:=by
 intro i j p q t hi hj hp hq
 obtain ⟨b,hb,_⟩:=kI hi
 obtain ⟨c,hc,_⟩:=kI hj
 have:=d.pairs i j p q b c hi hj hb hc
 unfold wP at this
 split at this
 · rename_i h;exact aV h
 · rw [aI,aI] at this
   have h1:=this.1.1
   simp [hp,hq] at h1
theorem DOk.bits (d:DOk P ops) {i j:Nat} {o:Oper} {b:Nat} (hi:ops.toList[i]?=some o) (hb:(eH ops.toList [])[i]?=some b) (h:b.testBit j=true):j<i:=
 sL (S:=fun x=>x<i) (fun x p hx hp e he hbn=>Nat.lt_trans (d.edges x p hp e he hbn) hx) i o b hi hb (fun e he hbn=>d.edges i o hi e he hbn) j h
theorem DOk.names (d:DOk P ops) {i j:Nat} {p q:Oper} {b c:Nat} {t:Nat} (hi:ops.toList[i]?=some p) (hj:ops.toList[j]?=some q) (hb:(eH ops.toList [])[i]?=some b) (hc:(eH ops.toList [])[j]?=some c)
  (hne:i≠j) (hq:q.dst=some t) (ht:t∈mB ops p):b.testBit j=true∨c.testBit i=true:=by
 have:=d.pairs i j p q b c hi hj hb hc
 unfold wP at this
 split at this
 · rename_i h;exact absurd (aV h) hne
 · rw [aI,aI] at this
   have h2:=this.1.2
   simp only [hq,hasNat_iff.2 ht] at h2
   simpa using h2
def aV2 (P:Program) (L:List Oper) (i j:Nat):Prop:=(∃ oi ei,L[i]?=some oi∧quiet P oi=false∧fJ oi=some ei)∧(∃ oj ej,L[j]?=some oj∧quiet P oj=false∧fJ oj=some ej)∧ne P L j=ne P L i+1∧
 (∀ (x:Nat) (o:Oper) (m:Nat),L[x]?=some o→(eH L [])[x]?=some m→x≠j→m.testBit j=true→m.testBit i=true)
theorem DOk.effs (d:DOk P ops) {i j:Nat} {p q:Oper} {c:Nat} (hi:ops.toList[i]?=some p) (hj:ops.toList[j]?=some q) (hc:(eH ops.toList [])[j]?=some c)
  (hlt:i<j) (hp:quiet P p=false) (hq:quiet P q=false):c.testBit i=true∨aV2 P ops.toList i j:=by
 obtain ⟨b,hb,_⟩:=kI hi
 have:=d.pairs i j p q b c hi hj hb hc
 unfold wP at this
 split at this
 · rename_i h;have:=aV h;simp at this;omega
 · rw [aI,aI] at this
   have h3:=this.2
   have hbl:Nat.blt i j=true:=by simp [Nat.blt];omega
   simp only [hp,hq,hbl] at h3
   split at h3
   · rename_i hbit;exact .inl hbit
   · split at h3 <;> first | (cases h3;done) | skip
     rename_i ei ej hei hej
     right
     refine ⟨⟨p,ei,hi,hp,hei⟩,⟨q,ej,hj,hq,hej⟩,?_,fun x o m hx hm hxj hbit=>?_⟩
     · have h4:=y0 P ops.toList i p hi
       rw [hp] at h4
       simp only [bN,if_false] at h4
       rw [← h4]
       refine aJs P ops.toList (by omega) (fun x o h5 h6 hx=>?_)
       obtain ⟨m,hm,hrow⟩:=kI hx
       have:=(pI h3 (x,o,m) (List.mem_of_getElem? hrow) (by simp only;omega)).2
       cases hqx:quiet P o with
       | true=>rfl
       | false=>have:=this hqx;simp only at this;omega
     · have hrow:=mS (i0:=0) hx hm
       rw [bH] at hrow
       exact (pI h3 (x,o,m) (List.mem_of_getElem? hrow) hxj).1 hbit
theorem aGe {L:List Oper} {i j:Nat} {p q:Oper} (hi:L[i]?=some p) (hj:L[j]?=some q) (hp:quiet P p=false) (hq:quiet P q=false) (h:ne P L i=ne P L j):i=j:=by
 rcases Nat.lt_trichotomy i j with hlt | he | hgt
 · have:=yT P L hi hp hlt;omega
 · exact he
 · have:=yT P L hj hq hgt;omega
theorem aBl (dk:DOk P ops) (hsp:Spec P I call nt ops ops.toList T0 rs hs Te) {S:Array Bool} {a:Act} {w:World} {k:Nat} {γ:Gm} {hc:Hp×Nat} {ah:Option (Nat×Nat×Nat)} (d:DInv P B γ0 w0 nt T0 ds ops.toList rs hs ah S a w k γ hc)
  {i:Nat} {o:Oper} {b:Nat} {Ti:Tr AV} (hlt:i≤rs.length) (ho:ops.toList[i]?=some o) (hb:(eH ops.toList [])[i]?=some b) (hniS:¬ inS S i) (hbS:∀ j,b.testBit j=true→inS S j)
  (hcS:∀ {j:Nat} {q:Oper} {c:Nat},ops.toList[j]?=some q→(eH ops.toList [])[j]?=some c→c.testBit i=true→¬ inS S j) (hTi:(rs.map (·.T)++[Te])[i]?=some Ti):
  (∀ t av,t∈mB ops o→Ti.get t=some av→∃ v,a.tmps[t]?=some v∧VR γ av v)∧Ok P γ Ti a o.op.operands.toList:=by
 have hname:∀ t av,t∈mB ops o→Ti.get t=some av→∃ v,a.tmps[t]?=some v∧VR γ av v:=by
  intro t av ht hav
  by_cases hex:∃ j q,j<i∧ops.toList[j]?=some q∧q.dst=some t
  · obtain ⟨j,q,hji,hj,hq⟩:=hex
    obtain ⟨c,hcj,_⟩:=kI hj
    have hrj:rs[j]?=some (rs[j]'(by omega)):=aO (by omega)
    have:=hsp.hit i Ti j q _ t hTi hji hj hrj hq
    rw [this] at hav
    injection hav with hav
    have hSj:inS S j:=by
     rcases dk.names ho hj hb hcj (by omega) hq ht with h | h
     · exact hbS j h
     · have:=dk.bits hj hcj h
       omega
    rw [← hav]
    refine d.done j q _ t hj hrj hq hSj (fun hA=>?_)
    obtain ⟨i0,bb,hab⟩:=hA
    obtain ⟨g1,g2,_,_,_,_,_,_,_,_,_,_,_,_,_,g12⟩:=d.ahd i0 j bb hab
    rcases dk.names ho hj hb hcj (by omega) hq ht with h | h
    · exact g1 (hbS i0 (g12 i o b ho hb (by omega) h))
    · have:=dk.bits hj hcj h
      omega
  · have hm:=hsp.miss i Ti t hTi (fun j q hji hj hq=>hex ⟨j,q,hji,hj,hq⟩)
    rw [hm] at hav
    refine d.todo t av hav (fun j q hj hq hS=>?_)
    by_cases hji:j=i
    · rw [hji] at hS;exact hniS hS
    · obtain ⟨c,hcj,_⟩:=kI hj
      rcases dk.names ho hj hb hcj (fun e=>hji e.symm) hq ht with h | h
      · have:=dk.bits ho hb h
        exact hex ⟨j,q,this,hj,hq⟩
      · exact hcS hj hcj h hS
 refine ⟨hname,?_⟩
 intro x hx av hav
 cases x with
 | tmp t=>
   have hmem:t∈mB ops o:=by
    have:=aB9 hx
    unfold mB
    split
    · exact this
    · split
      · exact this
      · split
        · exact this
        · exact bA _ this
   obtain ⟨v,h1,h2⟩:=hname t av hmem hav
   show VR γ av (a.tmps.getD t undef)
   rw [yS h1]
   exact h2
 | const v=>injection hav with hav;subst hav;exact eP v
 | global g=>
   simp only [aev] at hav
   split at hav
   · rename_i hlt
     injection hav with hav
     subst hav
     obtain ⟨N,hN⟩:=d.hr.glob g (cI hlt)
     exact .ptr hN
   · cases hav
 | func f=>
   injection hav with hav
   subst hav
   exact .fn rfl (fun i a x h=>by simp at h) rfl (fun i a x h=>by simp at h)
theorem pE (dk:DOk P ops) {S:Array Bool} {a:Act} {w:World} {k:Nat} {γ:Gm} {hc:Hp×Nat} {ah:Option (Nat×Nat×Nat)} (d:DInv P B γ0 w0 nt T0 ds ops.toList rs hs ah S a w k γ hc) {i:Nat} (hi:i∈Region.ready .any ops S):
  ∃ o b,ops[i]?=some o∧ops.toList[i]?=some o∧(eH ops.toList [])[i]?=some b∧(m9 ops)[i]?=some (i,o,b)∧¬ inS S i∧(∀ e∈o.after.toList,Region.binds .any e=true→inS S e.on)∧(∀ j,b.testBit j=true→inS S j)∧
    (∀ {j:Nat} {q:Oper} {c:Nat},ops.toList[j]?=some q→(eH ops.toList [])[j]?=some c→c.testBit i=true→¬ inS S j):=by
 unfold Region.ready at hi
 rw [List.mem_filter,List.mem_range,aI] at hi
 obtain ⟨hin,hnl,hrd⟩:=hi
 have hiL:i<ops.toList.length:=by simpa using hin
 have hop:ops[i]?=some ops[i]:=Array.getElem?_eq_getElem hin
 generalize ops[i]=o at hop
 rw [hop] at hrd
 have ho:ops.toList[i]?=some o:=by simpa using hop
 have hpre:∀ e∈o.after.toList,Region.binds .any e=true→inS S e.on:=by
  intro e he hbn
  have h1:(o.after.all fun e=>!Region.binds .any e || S.getD e.on false)=true:=by simpa using hrd
  rw [Array.all_eq_true_iff_forall_mem] at h1
  have:=h1 e (by simpa using he)
  rw [hbn,Bool.not_true,Bool.false_or] at this
  exact this
 have hniS:¬ inS S i:=by
  intro h
  have h2:S.getD i true=false:=by simpa using hnl
  unfold inS at h
  have hlt:i<S.size:=by rw [d.size];exact hiL
  rw [Array.getD_eq_getD_getElem?,Array.getElem?_eq_getElem hlt] at h h2
  simp at h h2
  rw [h] at h2
  cases h2
 obtain ⟨b,hb,hrow⟩:=kI ho
 have hbS:∀ j,b.testBit j=true→inS S j:=sL d.closed i o b ho hb hpre
 have hcS:∀ {j:Nat} {q:Oper} {c:Nat},ops.toList[j]?=some q→(eH ops.toList [])[j]?=some c→c.testBit i=true→¬ inS S j:=by
  intro j q c hj hcj hbit hS
  exact hniS (sL d.closed j q c hj hcj (d.closed j q hS hj) i hbit)
 exact ⟨o,b,hop,ho,hb,hrow,hniS,hpre,hbS,hcS⟩
theorem aBp (dk:DOk P ops) {S:Array Bool} {a:Act} {w:World} {k:Nat} {γ:Gm} {hc:Hp×Nat} {i0 j b0:Nat} (d:DInv P B γ0 w0 nt T0 ds ops.toList rs hs (some (i0,j,b0)) S a w k γ hc) {i:Nat} {o:Oper} {b:Nat}
  (ho:ops.toList[i]?=some o) (hb:(eH ops.toList [])[i]?=some b) (hq:quiet P o=false) (hniS:¬ inS S i) (hbS:∀ j,b.testBit j=true→inS S j):i=i0:=by
 obtain ⟨g1,g2,g3,g4,⟨oi,ei,g5,g6,g7⟩,oj,e,z,g8,g9,_⟩:=d.ahd i0 j b0 rfl
 have h1:¬ ne P ops.toList i<k:=fun h=>hniS ((d.eff i o ho hq).2 (.inl h))
 have hqj:quiet P oj=false:=by
  unfold fJ at g9
  split at g9
  · split at g9
    · rename_i hop;unfold quiet;rw [hop]
    · cases g9
  · cases g9
 by_cases hk:ne P ops.toList i=k
 · exact aGe ho g5 hq g6 (hk.trans g3.symm)
 · exfalso
   have hlt:i0<i:=by
    rcases aY i0 i with h | h
    · exact h
    · have:=aJr P ops.toList h;omega
   rcases dk.effs g5 ho hb hlt g6 hq with h | h
   · exact g1 (hbS i0 h)
   · obtain ⟨_,_,h2,_⟩:=h
     have:=aGe ho g8 hq hqj (by omega)
     subst this
     exact hniS g2
theorem l5 {o:Oper} {e:TypeId} (h:fJ o=some e):o.op = .alloc e∧o.guard=none:=by
 unfold fJ at h
 split at h
 · rename_i hg
   split at h
   · rename_i hop;injection h with h;subst h;exact ⟨hop,hg⟩
   · cases h
 · cases h
theorem wJ {o:Oper} {e:TypeId} {T:Tr AV} {h h':Hp} {c c':Nat} {av:AV} (he:fJ o=some e) (hv:kC P I call T h c o = .val av h' c'):
  ∃ z,iO P e=some z∧av = .ptr c 0∧h'=kO e (z.cells.toList.map .v) h c∧c'=c+1:=by
 have h1:kC P I call T h c o=oR P e h c:=by rw [vO];unfold uM;rw [(l5 he).1]
 rw [h1] at hv
 unfold oR at hv
 split at hv
 · cases hv
 · rename_i z hz
   injection hv with e1 e2 e3
   exact ⟨z,hz,e1.symm,e2.symm,e3.symm⟩
theorem aEq {o:Oper} {e:TypeId} {T:Tr AV} {h h':Hp} {c c':Nat} {av:AV} (he:fJ o=some e) (hv:kC P I call T h c o = .pan av h' c'):False:=by
 have h1:kC P I call T h c o=oR P e h c:=by rw [vO];unfold uM;rw [(l5 he).1]
 rw [h1] at hv
 unfold oR at hv
 split at hv <;> cases hv
theorem aGm {o:Oper} {e:TypeId} {z:Value} {a:Act} {w:World} {K:Act→World→Prop} (he:fJ o=some e) (hz:iO P e=some z)
  (hK:K (a.put o.dst (.pointer (some ⟨w.heap.size,0,none⟩))) (w.alloc (.cells z.cells e))):o.wp P a w K Q:=by
 refine dM (v := .pointer (some ⟨w.heap.size,0,none⟩)) (w':=w.alloc (.cells z.cells e)) ?_ hK
 unfold execOp
 rw [(l5 he).1]
 simp only [Sem.run_bind,Sem.run_pure,Instr.alloc,qK hz,Result.andThen_ok,newVar,newRow,run_newObj]
 rfl
theorem aEl (hn:Fine P I) (hcall:iJ P B P.globals.size w0 call) (dk:DOk P ops) (hsp:Spec P I call nt ops ops.toList T0 rs hs Te) (hld:rV P ops.toList (m9 ops) hs (m9 ops) rs=true)
  {S:Array Bool} {a:Act} {w:World} {k:Nat} {γ:Gm} {hc:Hp×Nat} {ah:Option (Nat×Nat×Nat)} (d:DInv P B γ0 w0 nt T0 ds ops.toList rs hs ah S a w k γ hc) (hall:rs.length=ops.toList.length∨∀ x,inS S x→x<rs.length) {i:Nat} (hi:i∈Region.ready .any ops S) (hlt:i<rs.length):
  wpOp P ops Q i (fun a' w'=>∃ ah' k' γ' hc',DInv P B γ0 w0 nt T0 ds ops.toList rs hs ah' (S.setIfInBounds i true) a' w' k' γ' hc') a w:=by
 obtain ⟨o,b,hop,ho,hb,hrow,hniS,hpre,hbS,hcS⟩:=pE dk d hi
 have hri:rs[i]?=some (rs[i]'hlt):=aO hlt
 generalize rs[i]'hlt=r at hri
 have hTi:(rs.map (·.T)++[Te])[i]?=some r.T:=by
  rw [bG (by simp;omega)]
  simp [hri]
 obtain ⟨hname,hok⟩:=aBl dk hsp d (by omega) ho hb hniS hbS hcS hTi
 obtain ⟨hw,hc0,hhc0,hcase⟩:=hsp.recs i o r ho hri
 have hwant:=dX (a:=a) (γ:=γ) (fun j want p t av hg hp hd ht=>hname t av (by unfold mB;rw [hg];simp only [hp,hd];simp) ht) hw
 have hu:=dk.uniq
 unfold wpOp
 rw [hop]
 simp only [hwant]
 cases hq:quiet P o with
 | true=>
   have heq:∀ (j:Nat) (p:Oper),ops.toList[j]?=some p→quiet P p=false→((j=i∨inS S j)↔(ne P ops.toList j<k∨isA ah j)):=by
    intro j p hj hpq
    have hji:j≠i:=by rintro rfl;rw [ho] at hj;injection hj with hj;subst hj;rw [hq] at hpq;cases hpq
    rw [← d.eff j p hj hpq]
    exact ⟨fun h=>h.resolve_left hji,.inr⟩
   have hah:∀ i0 j b0,ah=some (i0,j,b0)→i≠i0∧k=k∧γ=γ∧hc=hc∧w=w:=by
    intro i0 j b0 hab
    obtain ⟨_,_,_,_,⟨oi,ei,g5,g6,g7⟩,_⟩:=d.ahd i0 j b0 hab
    refine ⟨fun e=>?_,rfl,rfl,rfl,rfl⟩
    subst e
    rw [ho] at g5;injection g5 with g5;subst g5
    rw [hq] at g6;cases g6
   rcases hcase with ⟨hbf,hav,hheap⟩ | ⟨hbt,_,hval⟩ | ⟨hbt,hq',_⟩
   · rw [hbf]
     simp only [bN,if_false]
     exact ⟨ah,k,γ,hc,d.step hu hsp ho hri hniS hpre hah (Gm.le.refl _) d.heap d.hr d.below (by rw [hav];exact kP γ) heq⟩
   · rw [hbt]
     simp only [if_true]
     left
     rcases hval with hval | ⟨hldr,hval⟩
     · obtain ⟨v,h1,h2⟩:=oC hok hval
       exact dM (h2 w) ⟨ah,k,γ,hc,d.step hu hsp ho hri hniS hpre hah (Gm.le.refl _) d.heap d.hr d.below h1 heq⟩
     · have hall:=aF3 hld i (i,o,b) r hrow hri hldr
       have hallow:j7 P (i,o,b) (m9 ops) k=true:=by
        refine oF (by
         obtain ⟨r',h1,h2⟩:=uW ops.toList []
         rw [h1];simp [h2]) (fun j q c hj hcj hqq=>⟨fun hlt=>?_,fun hge=>?_⟩)
        · have hS:=(d.eff j q hj hqq).2 (.inl hlt)
          cases hbit:c.testBit i with
          | false=>rfl
          | true=>exact absurd hS (hcS hj hcj hbit)
        · rw [bH]
          cases hbit:b.testBit j with
          | false=>rfl
          | true=>
            have hS:=hbS j hbit
            rcases (d.eff j q hj hqq).1 hS with h | ⟨i0,b0,hab⟩
            · omega
            · obtain ⟨g1,g2,_,_,_,_,_,_,_,_,_,_,_,_,_,g12⟩:=d.ahd i0 j b0 hab
              exact absurd (hbS i0 (g12 i o b ho hb (fun e=>hniS (by rw [e];exact g2)) hbit)) g1
       have hload:jT P r.T hc.1 o=some r.av:=by
        by_cases hko:k=ne P ops.toList i
        · have hhc:hs[k]?=some hc0:=by rw [hko];exact hhc0
          rw [d.heap] at hhc
          injection hhc with hhc
          rw [hhc]
          exact hval
        · exact aJl hall k hc d.heap (by rw [bH];exact hko) (by rw [bH];exact hallow)
       obtain ⟨v,h1,h2⟩:=oK d.hr hok hload
       exact dM h2 ⟨ah,k,γ,hc,d.step hu hsp ho hri hniS hpre hah (Gm.le.refl _) d.heap d.hr d.below h1 heq⟩
   · rw [hq] at hq';cases hq'
 | false=>
   match hmah:ah,d with
   | some (i0,j,b0),d=>
     have hii:=aBp dk d ho hb hq hniS hbS
     subst hii
     obtain ⟨g1,g2,g3,g4,⟨oi,ei,g5,g6,g7⟩,oj,ej,zj,g8,g9,g10,_⟩:=d.ahd i j b0 rfl
     rw [ho] at g5;injection g5 with g5;subst g5
     have hqj:quiet P oj=false:=by unfold quiet;rw [(l5 g9).1]
     have hwt:eE ops r.T o=some true:=by unfold eE;rw [(l5 g7).2]
     have hbt:r.b=true:=by rw [hw] at hwt;injection hwt
     rcases hcase with ⟨hbf,_⟩ | ⟨_,hq',_⟩ | ⟨_,_,hc',hev,hheap⟩
     · rw [hbf] at hbt;cases hbt
     · rw [hq] at hq';cases hq'
     rw [hbt]
     simp only [if_true]
     left
     have ehc:hc0=hc:=by
      have:=d.heap
      rw [← g3,hhc0] at this
      injection this
     subst ehc
     obtain ⟨zi,z1,z2,z3,z4⟩:=wJ g7 hev
     have hjl:j<rs.length:=by
      rcases hall with h | h
      · rw [h];exact (List.getElem?_eq_some_iff.1 g8).1
      · exact h j g2
     have hrj:rs[j]?=some (rs[j]'hjl):=aO hjl
     generalize rs[j]'hjl=rj at hrj
     obtain ⟨hwj,hc0j,hhc0j,hcasej⟩:=hsp.recs j oj rj g8 hrj
     have hwtj:eE ops rj.T oj=some true:=by unfold eE;rw [(l5 g9).2]
     have hbtj:rj.b=true:=by rw [hwj] at hwtj;injection hwtj
     rcases hcasej with ⟨hbf,_⟩ | ⟨_,hq',_⟩ | ⟨_,_,hcj',hevj,hheapj⟩
     · rw [hbf] at hbtj;cases hbtj
     · rw [hqj] at hq';cases hq'
     have e1:hc0j=hc':=by
      rw [g4,← g3,hheap] at hhc0j
      injection hhc0j with h;exact h.symm
     subst e1
     obtain ⟨zj',y1,y2,y3,y4⟩:=wJ g9 hevj
     rw [g10] at y1;injection y1 with y1;subst y1
     have hpair:hcj'=(kO ej (zj.cells.toList.map .v) (kO ei (zi.cells.toList.map .v) hc0.1 hc0.2) (hc0.2+1),hc0.2+1+1):=by
      apply Prod.ext
      · show hcj'.1=_;rw [y3,z3,z4]
      · show hcj'.2=_;rw [y4,z4]
     obtain ⟨γ2,d2⟩:=d.join hu hsp ho hri g8 hrj hpre hq hqj g7 g9 z1 g10 z2 (by rw [y2,z4]) (by rw [g4] at hheapj;exact hheapj) hpair
     exact aGm g7 z1 ⟨none,k+2,γ2,hcj',d2⟩
   | none,d=>
     have hAn:=kK
     by_cases hk:k=ne P ops.toList i
     · have hee:∀ (j:Nat) (p:Oper),ops.toList[j]?=some p→quiet P p=false→((j=i∨inS S j)↔(ne P ops.toList j<k+1∨isA none j)):=by
        intro j p hj hpq
        rw [d.eff j p hj hpq]
        constructor
        · rintro (rfl | h | h)
          · left;omega
          · left;omega
          · exact absurd h (hAn j)
        · rintro (h | h)
          · by_cases hji:j=i
            · exact .inl hji
            · right;left
              have hne:ne P ops.toList j≠ne P ops.toList i:=fun e=>hji (aGe hj ho hpq hq e)
              omega
          · exact absurd h (hAn j)
       have e:hc0=hc:=by
        have:=d.heap
        rw [hk,hhc0] at this
        injection this
       rcases hcase with ⟨hbf,hav,hheap⟩ | ⟨_,hq',_⟩ | ⟨hbt,_,hc',hev,hheap⟩
       · rw [hbf]
         simp only [bN,if_false]
         refine ⟨none,k+1,γ,hc,d.step hu hsp ho hri hniS hpre (fun _ _ _ h=>by cases h) (Gm.le.refl _) ?_ d.hr d.below (by rw [hav];exact kP γ) hee⟩
         rw [hk,← e]
         exact hheap hq
       · rw [hq] at hq';cases hq'
       · rw [hbt]
         simp only [if_true]
         left
         rw [e] at hev
         refine vH hn hcall d.hr d.below hok ?_
         rw [hev]
         intro γ' v w' h1 h2 h3 h4
         exact ⟨none,k+1,γ',hc',d.step hu hsp ho hri hniS hpre (fun _ _ _ h=>by cases h) h1 (by rw [hk];exact hheap) h3 h4 h2 hee⟩
     ·
      have h1:¬ ne P ops.toList i<k:=fun h=>hniS ((d.eff i o ho hq).2 (.inl h))
      obtain ⟨j,q,hji,hj,hqq,hjk⟩:=aF6 P ops.toList i k (by omega)
      have hnj:¬ inS S j:=fun h=>by
       rcases (d.eff j q hj hqq).1 h with h | h
       · omega
       · exact hAn j h
      rcases dk.effs hj ho hb hji hqq hq with h | h
      · exact absurd (hbS j h) hnj
      obtain ⟨f1,⟨oi,ei,f2,f3,f4⟩,f5,f6⟩:=h
      rw [ho] at f2;injection f2 with f2;subst f2
      have hwt:eE ops r.T o=some true:=by unfold eE;rw [(l5 f4).2]
      have hbt:r.b=true:=by rw [hw] at hwt;injection hwt
      rcases hcase with ⟨hbf,_⟩ | ⟨_,hq',_⟩ | ⟨_,_,hc',hev,hheap⟩
      · rw [hbf] at hbt;cases hbt
      · rw [hq] at hq';cases hq'
      rw [hbt]
      simp only [if_true]
      left
      obtain ⟨zi,z1,z2,z3,z4⟩:=wJ f4 hev
      exact aGm f4 z1 ⟨some (j,i,w.heap.size),k,γ,hc,d.early hu hsp ho hri hnj hniS hpre f4 z1 hjk (by omega) (by omega) f1 f6⟩
theorem aQn (hn:Fine P I) (hcall:iJ P B P.globals.size w0 call) (dk:DOk P ops) (hsp:Spec P I call nt ops ops.toList T0 rs hs Te) (hhs:hs.length=ne P ops.toList rs.length+1) {x:Pan} (hx:PanOk P I call ops ops.toList rs hs Te (some x))
  (hQ:∀ γ' a w v,Gm.le γ0 γ'→VR γ' x.av v→a.tmps.size=nt→DR γ' ds a.defers→HR B P.globals.size γ' x.h x.c w→Keep B w0 w→Q (.panic [{ v,recovered:=false }]) a w)
  {S:Array Bool} {a:Act} {w:World} {k:Nat} {γ:Gm} {hc:Hp×Nat} {ah:Option (Nat×Nat×Nat)} (d:DInv P B γ0 w0 nt T0 ds ops.toList rs hs ah S a w k γ hc) (hi:rs.length∈Region.ready .any ops S) {X:Act→World→Prop}:
  wpOp P ops Q rs.length X a w:=by
 obtain ⟨o,b,hop,ho,hb,hrow,hniS,hpre,hbS,hcS⟩:=pE dk d hi
 have hTi:(rs.map (·.T)++[Te])[rs.length]?=some Te:=by
  rw [aP (by rw [List.length_map];exact aH _)]
  simp
 obtain ⟨hname,hok⟩:=aBl dk hsp d (aH _) ho hb hniS hbS hcS hTi
 obtain ⟨o',hc0,ho',hq,hw,hlast,hev⟩:=hx
 rw [ho] at ho'
 injection ho' with ho'
 subst ho'
 have hwant:=dX (a:=a) (γ:=γ) (fun j want p t av hg hp hd ht=>hname t av (by unfold mB;rw [hg];simp only [hp,hd];simp) ht) hw
 match hmah:ah,d with
 | some (i0,j,b0),d=>
   have hii:=aBp dk d ho hb hq hniS hbS
   obtain ⟨_,_,_,_,⟨oi,ei,g5,g6,g7⟩,_⟩:=d.ahd i0 j b0 rfl
   rw [← hii,ho] at g5;injection g5 with g5;subst g5
   exact (aEq g7 hev).elim
 | none,d=>
 have hk:k=ne P ops.toList rs.length:=by
  have h1:k<hs.length:=(List.getElem?_eq_some_iff.1 d.heap).1
  rcases aY k (ne P ops.toList rs.length) with h2 | h2
  · obtain ⟨j,q,hji,hj,hqq,hjk⟩:=aF6 P ops.toList rs.length k h2
    rcases dk.effs hj ho hb hji hqq hq with h | h
    · have hS:=hbS j h
      rcases (d.eff j q hj hqq).1 hS with h | h
      · omega
      · exact absurd h (kK j)
    · obtain ⟨_,⟨oi,ei,f2,f3,f4⟩,_⟩:=h
      rw [ho] at f2;injection f2 with f2;subst f2
      exact (aEq f4 hev).elim
  · omega
 have e:hc0=hc:=by
  rw [List.getLast?_eq_getElem?] at hlast
  have:=d.heap
  rw [show hs.length - 1=k by omega,this] at hlast
  injection hlast with hlast
  exact hlast.symm
 rw [e] at hev
 unfold wpOp
 rw [hop]
 simp only [hwant,if_true]
 left
 refine vH hn hcall d.hr d.below hok ?_
 rw [hev]
 intro γ' v w' h1 h2 h3 h4
 exact hQ γ' a w' v (d.le.trans h1) h2 d.tsize (d.defs.mono h1) h3 h4
theorem aEe (dk:DOk P ops) {S:Array Bool} (hsz:S.size=ops.size) (hr:Region.ready .any ops S=[]):∀ i,i<ops.size→inS S i:=by
 intro i hi
 induction i using Nat.strongRecOn with
 | _ i ih=>
   rcases hS:S.getD i false with _ | _
   · exfalso
     have hop:ops[i]?=some ops[i]:=Array.getElem?_eq_getElem hi
     have ho:ops.toList[i]?=some ops[i]:=by rw [← hop];simp
     have:i∈Region.ready .any ops S:=by
      unfold Region.ready
      rw [List.mem_filter,List.mem_range,aI]
      refine ⟨hi,?_,?_⟩
      · have hlt:i<S.size:=by rw [hsz];exact hi
        rw [Array.getD_eq_getD_getElem?,Array.getElem?_eq_getElem hlt] at hS ⊢
        simp at hS ⊢
        exact hS
      · rw [hop]
        simp only [aL,bT,Array.all_eq_true_iff_forall_mem]
        intro e he
        cases hbn:Region.binds .any e with
        | false=>rfl
        | true=>
          have hlt:=dk.edges i _ ho e (by simpa using he) hbn
          have:=ih e.on hlt (by omega)
          rw [Bool.not_true,Bool.false_or]
          exact this
     rw [hr] at this
     simp at this
   · exact hS
theorem aOt {n i:Nat} {S:Array Bool} (hi:i<n) (his:i<S.size) (hf:S.getD i false=false):
  (List.range n).countP (fun j=>!(S.setIfInBounds i true).getD j false)<(List.range n).countP (fun j=>!S.getD j false):=by
 have hle:∀ (l:List Nat),l.countP (fun j=>!(S.setIfInBounds i true).getD j false)≤l.countP (fun j=>!S.getD j false):=by
  intro l
  refine List.countP_mono_left (fun j _ hj=>?_)
  have:¬ inS (S.setIfInBounds i true) j:=by unfold inS;simpa using hj
  rw [dT his] at this
  have h2:¬ inS S j:=fun h=>this (.inr h)
  unfold inS at h2
  simpa using h2
 have hsplit:∀ (l:List Nat),i∈l→l.countP (fun j=>!(S.setIfInBounds i true).getD j false)<l.countP (fun j=>!S.getD j false):=by
  intro l hl
  induction l with
  | nil=>simp at hl
  | cons x l ihl=>
    rw [List.countP_cons,List.countP_cons]
    rcases bJ hl with rfl | hl
    · have h1:(S.setIfInBounds i true).getD i false=true:=(dT his).2 (.inl rfl)
      rw [h1,hf]
      have:=hle l
      simp only [Bool.not_true,Bool.not_false,bN,if_false,if_true,Nat.add_zero]
      omega
    · have h1:=ihl hl
      have h2:(if (!(S.setIfInBounds i true).getD x false)=true then 1 else 0)≤(if (!S.getD x false)=true then 1 else 0):=by
       have:=hle [x]
       simpa [List.countP_cons] using this
      omega
 exact hsplit _ (by simpa using hi)
theorem aCg {J:Array Bool→Act→World→Prop} (dk:DOk P ops) (hsz:∀ S a w,J S a w→S.size=ops.size) (hdone:∀ S a w,J S a w→(∀ i,i<ops.size→inS S i)→Q .normal a w)
  (hstep:∀ S a w i,J S a w→i∈Region.ready .any ops S→wpOp P ops Q i (fun a' w'=>J (S.setIfInBounds i true) a' w') a w):
  ∀ (fuel:Nat) (S:Array Bool) (a:Act) (w:World),J S a w→(List.range ops.size).countP (fun i=>!S.getD i false)≤fuel→wpAny P .any ops Q fuel S a w:=by
 intro fuel
 induction fuel with
 | zero=>
   intro S a w hd hcnt
   have hs:=hsz S a w hd
   have hr:Region.ready .any ops S=[]:=by
    rw [List.eq_nil_iff_forall_not_mem]
    intro i hi
    unfold Region.ready at hi
    rw [List.mem_filter,List.mem_range,aI] at hi
    have h0:(List.range ops.size).countP (fun i=>!S.getD i false)=0:=by omega
    rw [List.countP_eq_zero] at h0
    have h1:=h0 i (by simpa using hi.1)
    have hlt:i<S.size:=by rw [hs];exact hi.1
    have h2:S.getD i true=false:=by simpa using hi.2.1
    rw [Array.getD_eq_getD_getElem?,Array.getElem?_eq_getElem hlt] at h1 h2
    simp at h1 h2
    rw [h1] at h2
    cases h2
   exact ⟨hr,hdone S a w hd (aEe dk hs hr)⟩
 | succ fuel ih=>
   intro S a w hd hcnt
   have hs:=hsz S a w hd
   refine ⟨fun hr=>hdone S a w hd (aEe dk hs hr),fun i hi=>?_⟩
   have hin:i<ops.size∧S.getD i false=false:=by
    unfold Region.ready at hi
    rw [List.mem_filter,List.mem_range,aI] at hi
    refine ⟨hi.1,?_⟩
    have hlt:i<S.size:=by rw [hs];exact hi.1
    have h2:S.getD i true=false:=by simpa using hi.2.1
    rw [Array.getD_eq_getD_getElem?,Array.getElem?_eq_getElem hlt] at h2 ⊢
    simp at h2 ⊢
    exact h2
   refine wpOp_mono (fun a' w' hd'=>ih _ a' w' hd' ?_) (hstep S a w i hd hi)
   have:=aOt (n:=ops.size) hin.1 (by rw [hs];exact hin.1) hin.2
   omega
theorem zX (hm:P.follows .mixedOrders=true) (hn:Fine P I) (hcall:iJ P B P.globals.size w0 call) {s:St} {γ:Gm} {a:Act} {w:World} {id:Nat} (hf:FR γ nt s.T s.ds a) (hr:HR B P.globals.size γ s.h s.c w) (hb:Keep B w0 w)
  (hk:KOk2 B P.globals.size γ w0 nt Q (nW P I call nt ops s)):(Code.region id ops true).wp P Q a w:=by
 unfold nW at hk
 split at hk
 · exact hk.elim
 rename_i hdk
 have dk:=dok hdk
 split at hk
 · exact hk.elim
 rename_i rs hs Te pn hds
 split at hk
 · exact hk.elim
 rename_i hld
 have hsp:=kS dk.uniq hds
 obtain ⟨h0,hhs,hpn⟩:=fH hds
 refine wp_region_any hm ?_
 have hall:∀ i,¬ inS (Array.replicate ops.size false) i:=by
  intro i h
  unfold inS at h
  rw [Array.getD_eq_getD_getElem?] at h
  by_cases hi:i<ops.size
  · rw [Array.getElem?_eq_getElem (by simpa using hi)] at h
    simp at h
  · rw [Array.getElem?_eq_none (by simp;omega)] at h
    simp at h
 have d0:DInv P B γ w0 nt s.T s.ds ops.toList rs hs none (Array.replicate ops.size false) a { w with drawn:=w.drawn+1 } 0 γ (s.h,s.c):=by
  refine ⟨by simp,fun i o h=>absurd h (hall i),h0,Gm.le.refl _,?_,⟨hb.os,hb.tape,hb.output,hb.size,hb.block⟩,hf.size,hf.defs,fun i o hi hq=>⟨fun h=>absurd h (hall i),fun h=>by
   rcases h with h | h
   · omega
   · exact absurd h (kK i)⟩,
   fun i o r t _ _ _ h=>absurd h (hall i),fun t av ht _=>hf.tmps t av ht,fun _ _ _ h=>by cases h⟩
  exact hr.kept (aH _) (fun _ _=>rfl)
 split at hk
 ·
  have hlen:rs.length=ops.toList.length:=hpn
  split at hk
  · exact hk.elim
  rename_i hc hlast
  refine aCg (J:=fun S a w=>∃ ah k γ' hc',DInv P B γ w0 nt s.T s.ds ops.toList rs hs ah S a w k γ' hc') dk ?_ ?_ ?_ ops.size _ a _ ⟨none,0,γ,(s.h,s.c),d0⟩ ?_
  · rintro S a w ⟨_,_,_,_,d⟩
    simpa using d.size
  · rintro S a' w' ⟨ah,k,γ',hc',d⟩ hS
    have hahn:ah=none:=by
     cases ah with
     | none=>rfl
     | some z=>
       obtain ⟨i0,j,b0⟩:=z
       obtain ⟨g1,_,_,_,⟨oi,ei,g5,_⟩,_⟩:=d.ahd i0 j b0 rfl
       have:i0<ops.size:=by have:=(List.getElem?_eq_some_iff.1 g5).1;simpa using this
       exact absurd (hS i0 this) g1
    subst hahn
    have hkn:k=ne P ops.toList ops.toList.length:=by
     rw [hlen] at hhs
     have hle:k≤ne P ops.toList ops.toList.length:=by
      have:=(List.getElem?_eq_some_iff.1 d.heap).1
      omega
     rcases aY k (ne P ops.toList ops.toList.length) with hlt | hge
     · obtain ⟨j,q,h1,h2,h3,h4⟩:=aF6 P ops.toList _ _ hlt
       have hj:j<ops.size:=by have:=(List.getElem?_eq_some_iff.1 h2).1;simpa using this
       rcases (d.eff j q h2 h3).1 (hS j hj) with h | h
       · omega
       · exact absurd h (kK j)
     · omega
    have hce:hc'=hc:=by
     rw [hlen] at hhs
     rw [List.getLast?_eq_getElem?] at hlast
     have:=d.heap
     rw [show hs.length - 1=k by omega,this] at hlast
     injection hlast
    subst hce
    refine hk γ' .normal a' w' d.le trivial ⟨d.tsize,fun t av ht=>?_,d.defs⟩ d.hr d.below
    have hTe:(rs.map (·.T)++[Te])[ops.toList.length]?=some Te:=by
     rw [aP (by rw [List.length_map,hlen];exact aH _)]
     simp [hlen]
    by_cases hex:∃ (j:Nat) (q:Oper),ops.toList[j]?=some q∧q.dst=some t
    · obtain ⟨j,q,hj,hq⟩:=hex
      have hjl:j<ops.toList.length:=(List.getElem?_eq_some_iff.1 hj).1
      have hrj:rs[j]?=some (rs[j]'(by rw [hlen];exact hjl)):=aO (by rw [hlen];exact hjl)
      have:=hsp.hit _ Te j q _ t hTe hjl hj hrj hq
      have ht':Te.get t=some av:=ht
      rw [this] at ht'
      injection ht' with ht'
      rw [← ht']
      exact d.done j q _ t hj hrj hq (hS j (by simpa using hjl)) (kK j)
    · have hmm:=hsp.miss _ Te t hTe (fun j q _ hj hq=>hex ⟨j,q,hj,hq⟩)
      have ht':Te.get t=some av:=ht
      rw [hmm] at ht'
      exact d.todo t av ht' (fun j q hj hq=>absurd ⟨j,q,hj,hq⟩ hex)
  · rintro S a w i ⟨ah,k,γ',hc',d⟩ hi
    have hlt:i<rs.length:=by
     obtain ⟨o,_,_,ho,_⟩:=pE dk d hi
     rw [hlen]
     exact (List.getElem?_eq_some_iff.1 ho).1
    exact aEl hn hcall dk hsp hld d (.inl hlen) hi hlt
  · refine bC (List.countP_le_length) (by simp)
 ·
  rename_i x
  split at hk
  · exact hk.elim
  rename_i hst
  have hpl:rs.length<ops.toList.length:=by
   obtain ⟨o,_,ho,_⟩:=hpn
   exact (List.getElem?_eq_some_iff.1 ho).1
  refine aCg (J:=fun S a w=>(∃ ah k γ' hc',DInv P B γ w0 nt s.T s.ds ops.toList rs hs ah S a w k γ' hc')∧∀ j,inS S j→j<rs.length) dk ?_ ?_ ?_ ops.size _ a _ ⟨⟨none,0,γ,(s.h,s.c),d0⟩,fun j h=>absurd h (hall j)⟩ ?_
  · rintro S a w ⟨⟨_,_,_,_,d⟩,_⟩
    simpa using d.size
  · rintro S a' w' ⟨_,hS⟩ hal
    have:=hS _ (hal rs.length (by simpa using hpl))
    omega
  · rintro S a w i ⟨⟨ah,k,γ',hc',d⟩,hS⟩ hi
    rcases Nat.lt_trichotomy i rs.length with hlt | heq | hgt
    · refine wpOp_mono (fun a' w' hd'=>⟨hd',fun j hj=>?_⟩) (aEl hn hcall dk hsp hld d (.inr hS) hi hlt)
      have his:i<S.size:=by rw [d.size];omega
      rcases (dT his).1 hj with rfl | h
      · exact hlt
      · exact hS j h
    · subst heq
      exact aQn hn hcall dk hsp hhs hpn (fun γ'' a w v h1 h2 h3 h4 h5 h6=>hk γ'' _ a w h1 ⟨v,h2,rfl⟩ ⟨h3,fun t av ht=>(by rw [Tr.get_leaf] at ht;cases ht),h4⟩ h5 h6) d hi
    · obtain ⟨o,b,_,ho,hb,hrow,_,_,hbS,_⟩:=pE dk d hi
      have hbit:=aA4 hst (i,o,b) (List.mem_of_getElem? hrow) hgt
      have:=hS _ (hbS _ hbit)
      omega
  · refine bC (List.countP_le_length) (by simp)
end
end Go.Sy
end
end
