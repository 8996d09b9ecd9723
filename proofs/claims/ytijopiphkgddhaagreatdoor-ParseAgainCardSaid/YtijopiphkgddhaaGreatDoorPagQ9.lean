/- Texts of this proof, one behind the other. Conditions: those in each theorem. -/
import Derived.Test.YtijopiphkgddhaaGreatDoorPagQ1
import Derived.Test.YtijopiphkgddhaaGreatDoorPagQ8
import Derived.Test.YtijopiphkgddhaaGreatDoorPagQ2
import Derived.Test.YtijopiphkgddhaaGreatDoorRows
import Derived.Laws.Externs
set_option linter.unusedVariables false
set_option linter.unusedSimpArgs false
section
noncomputable section
namespace Go.Sy
open Go Go.RowKit
def gB (a:Option Addr):Nat:=match a with
 | some x=>x.block
 | none=>0
def oB (a:Option Addr):Nat:=match a with
 | some x=>x.off
 | none=>0
structure SlAt (F:Nat→Prop) (w:World) (a:Option Addr) (n sz:Nat) (xs:List Value):Prop where
 len:xs.length=n*sz
 place:n=0∨(a=some ⟨gB a,oB a,none⟩∧F (gB a)∧w.rangeAt (gB a) (oB a) xs)
theorem aGx {F:Nat→Prop} {w w':World} (hk:Keep F w w') {b o:Nat} {xs:List Value} (hF:F b) (h:w.rangeAt b o xs):w'.rangeAt b o xs:=fun j v hv=>by
 rw [World.cell?_of_block (w:=w) (hk.block b hF)]
 exact h j v hv
theorem SlAt.keep {F:Nat→Prop} {w w':World} {a:Option Addr} {n sz:Nat} {xs:List Value} (h:SlAt F w a n sz xs) (hk:Keep F w w'):SlAt F w' a n sz xs:=
 ⟨h.len,h.place.imp id fun ⟨h1,h2,h3⟩=>⟨h1,h2,aGx hk h2 h3⟩⟩
theorem SlAt.mono {F F':Nat→Prop} {w:World} {a:Option Addr} {n sz:Nat} {xs:List Value} (h:SlAt F w a n sz xs) (hF:∀ k,F k→F' k):SlAt F' w a n sz xs:=
 ⟨h.len,h.place.imp id fun ⟨h1,h2,h3⟩=>⟨h1,hF _ h2,h3⟩⟩
theorem SlAt.of_own {F:Nat→Prop} {w:World} {base e sz n:Nat} {x:Value} {xs:List Value} (h:w.ownsRow base e sz x n xs) (hF:∀ k,base≤k→k<w.heap.size→F k):∃ a cap,x = .slice a n cap∧n≤cap∧SlAt F w a n sz xs:=by
 obtain ⟨hl,⟨rfl,rfl⟩ | ⟨g,cap,cur,rfl,hb,hh,hnc,hcm,hcs,ht⟩⟩:=h
 · exact ⟨none,0,rfl,aH _,⟨hl,.inl rfl⟩⟩
 · refine ⟨some ⟨g,0,none⟩,cap,rfl,hnc,⟨hl,.inr ⟨rfl,hF g hb (Array.getElem?_eq_some_iff.1 hh).1,fun j v hv=>?_⟩⟩⟩
   rw [← ht] at hv
   have hj:=(List.getElem?_eq_some_iff.1 hv).1
   rw [aT] at hj
   rw [List.getElem?_take,if_pos (by omega)] at hv
   simp only [gB,oB,bH]
   simp [World.cell?,hh]
   simpa using hv
section
variable {P:Program} {F:Nat→Prop} {w:World} {a:Option Addr} {n sz cap:Nat} {xs:List Value}
theorem aBu {t e:TypeId} (h:SlAt F w a n sz xs) (hu:elemOf P t=some e) (hi:szB P e=some sz) {i:Nat} (hin:i<n) (W:World):
  (Instr.indexAt t (.slice a n cap) (.int .i64 (i:Int))).run P W = .ok (.pointer (some ⟨gB a,oB a+i*sz,none⟩)) W:=by
 rcases h.place with h0 | ⟨ha,_,_⟩
 · omega
 unfold elemOf at hu
 split at hu <;> first | (cases hu;done) | skip
 rename_i e' hu'
 injection hu with hu
 subst hu
 rw [ha]
 simp [Instr.indexAt,asIntOf,run_underlying hu',szB_ok hi,Addr.add_mid,hin,gB,oB]
theorem yD {ty:TypeId} {b o j:Nat} {v:Value} (hb:aggB P ty=some false) (h:w.cell? ⟨b,o+j,none⟩=some v):(Instr.loadAt ty (.pointer (some ⟨b,o+j,none⟩))).run P w = .ok v w:=by
 simp [Instr.loadAt,Instr.sureAddr,loadVar,tP hb,h]
theorem aJg (h:SlAt F w a n sz xs) {j:Nat} {v:Value} (hv:xs[j]?=some v):w.cell? ⟨gB a,oB a+j,none⟩=some v:=by
 rcases h.place with h0 | ⟨_,_,h3⟩
 · have:=h.len
   rw [h0,Nat.zero_mul] at this
   rw [aF this] at hv
   simp at hv
 · exact h3 j v hv
theorem load_sl {ty:TypeId} (h:SlAt F w a n sz xs) (hb:aggB P ty=some false) (i o:Nat) {v:Value} (hv:xs[i*sz+o]?=some v) {W:World} (hk:Keep F w W):
  (Instr.loadAt ty (.pointer (some ⟨gB a,oB a+i*sz+o,none⟩))).run P W = .ok v W:=by
 rw [Nat.add_assoc]
 exact yD hb (aJg (h.keep hk) hv)
theorem d9 {ty:TypeId} {m:Nat} (h:SlAt F w a n sz xs) (hb:aggB P ty=some true) (hs:szB P ty=some m) (i o:Nat) {cs:List Value} (hm:cs.length=m) (hc:∀ j v,cs[j]?=some v→xs[i*sz+o+j]?=some v) {W:World} (hk:Keep F w W):
  (Instr.loadAt ty (.pointer (some ⟨gB a,oB a+i*sz+o,none⟩))).run P W = .ok (.agg cs.toArray) W:=by
 have hl:(loadCells ⟨gB a,oB a+i*sz+o,none⟩ cs.length).run P W = .ok cs.toArray W:=
  run_loadCells_list (P:=P) W _ cs (fun j v hv=>by
   rw [Addr.add_mid,Nat.add_assoc,Nat.add_assoc,← Nat.add_assoc (i*sz)]
   exact aJg (h.keep hk) (hc j v hv))
 simp [Instr.loadAt,Instr.sureAddr,loadVar,tP hb,szB_ok hs,← hm,hl]
end
end Go.Sy
end
end
section
noncomputable section
namespace Go.Sy
open Go Go.RowKit Go.As
section
variable {P:Program} {ops:Array Oper} {Q:Exit→Act→World→Prop} {md:Region.Mode}
def nV (P:Program) (ops:Array Oper) (Q:Exit→Act→World→Prop) (z:Nat):Exit→Act→World→Prop
 | .normal,a,w=>wpOp P ops Q z (fun a w=>Q .normal a w) a w
 | .exit i,a,w=>Q (.exit i) a w
 | .goto i,a,w=>Q (.goto i) a w
 | .ret,a,w=>Q .ret a w
 | .panic c,a,w=>Q (.panic c) a w
 | .outgrown,a,w=>Q .outgrown a w
structure LastAt (md:Region.Mode) (ops:Array Oper) (z:Nat):Prop where
 lt:z<ops.size
 waits:∀ oz,ops[z]?=some oz→∀ j,j≠z→j<ops.size→∃ e∈oz.after,Region.binds md e=true∧e.on=j
 free:∀ (j:Nat) (oj:Oper),ops[j]?=some oj→∀ e∈oj.after,Region.binds md e=true→e.on<j∧e.on≠z
theorem aCb {z:Nat} (hz:LastAt md ops z) {l:Array Bool} (hl:l.size=ops.size):∀ (j:Nat),j<ops.size→l.getD j true=false→Region.ready md ops l≠[]:=by
 intro j
 induction j using Nat.strongRecOn with
 | _ j ih=>
   intro hj hun hr
   obtain ⟨oj,hoj⟩:∃ oj,ops[j]?=some oj:=⟨ops[j],Array.getElem?_eq_getElem hj⟩
   by_cases hall:∀ e∈oj.after,Region.binds md e=true→l.getD e.on false=true
   · have:j∈Region.ready md ops l:=mem_ready.2 ⟨hun,oj,hoj,hall⟩
     rw [hr] at this
     cases this
   · simp only [Classical.not_forall] at hall
     obtain ⟨e,he,hb,hne⟩:=hall
     have hlt:=(hz.free j oj hoj e he hb).1
     refine ih e.on hlt (by omega) ?_ hr
     have hlt2:e.on<l.size:=by omega
     have h1:l.getD e.on false=l[e.on]:=by simp [hlt2]
     have h2:l.getD e.on true=l[e.on]:=by simp [hlt2]
     rw [h2]
     rw [h1] at hne
     simpa using hne
theorem aMj {z:Nat} (hz:LastAt md ops z):∀ (fuel:Nat) (l:Array Bool) (a:Act) (w:World),l.size=ops.size→l.getD z true=false→
  wpAny P md ops (nV P ops Q z) fuel (l.setIfInBounds z true) a w→wpAny P md ops Q (fuel+1) l a w:=by
 have hset:∀ (l:Array Bool) (i j:Nat),(l.setIfInBounds i true).setIfInBounds j true=(l.setIfInBounds j true).setIfInBounds i true:=by
  intro l i j
  by_cases e:i=j
  · subst e;rfl
  · exact Array.setIfInBounds_comm true true e
 have hzr:∀ {l:Array Bool},z∈Region.ready md ops l→Region.ready md ops (l.setIfInBounds z true)=[]:=by
  intro l h
  obtain ⟨h0,oz,hoz,hall⟩:=mem_ready.1 h
  apply List.eq_nil_iff_forall_not_mem.2
  intro j hj
  obtain ⟨h1,oj,hoj,_⟩:=mem_ready.1 hj
  have hjlt:j<ops.size:=(Array.getElem?_eq_some_iff.1 hoj).1
  by_cases hjz:j=z
  · subst hjz
    rcases aY j l.size with h2 | h2
    · simp [h2] at h1
    · simp [Array.getElem?_eq_none h2] at h0
  · obtain ⟨e,he,hb,heq⟩:=hz.waits oz hoz j hjz hjlt
    have h3:=hall e he hb
    rw [heq] at h3
    rw [getD_set_ne true (fun e=>hjz e.symm)] at h1
    rcases aY j l.size with h2 | h2
    · simp [h2] at h1 h3
      rw [h3] at h1
      cases h1
    · simp [Array.getElem?_eq_none h2] at h3
 intro fuel
 induction fuel with
 | zero=>
   intro l a w hl hun H
   refine ⟨fun hr=>absurd hr (aCb hz hl z hz.lt hun),fun i hi=>?_⟩
   by_cases hiz:i=z
   · subst hiz
     exact wpOp_mono (fun a' w' h=>⟨hzr hi,h⟩) H.2
   · have:=ready_mono (i:=z) hi hiz
     rw [H.1] at this
     cases this
 | succ fuel ih=>
   intro l a w hl hun H
   refine ⟨fun hr=>absurd hr (aCb hz hl z hz.lt hun),fun i hi=>?_⟩
   by_cases hiz:i=z
   · subst hiz
     have hr:=hzr hi
     have:=H.1 hr
     exact wpOp_mono (fun a' w' h=>⟨fun _=>h,fun j hj=>by rw [hr] at hj;cases hj⟩) this
   · have h1:=H.2 i (ready_mono (i:=z) hi hiz)
     have h2:wpOp P ops Q i (wpAny P md ops (nV P ops Q z) fuel ((l.setIfInBounds z true).setIfInBounds i true)) a w:=h1
     refine wpOp_mono (fun a' w' h=>?_) h2
     rw [hset] at h
     exact ih _ a' w' (by simpa using hl) (by rw [getD_set_ne true (fun e=>hiz e)];exact hun) h
end
def aDi (ops:Array Oper) (z:Nat):Bool:=match ops[z]? with
 | none=>false
 | some oz=>((List.range ops.size).all fun j=>Nat.beq j z || oz.after.toList.any fun e=>Region.binds .any e&&Nat.beq e.on j) &&
  (ops.toList.zipIdx.all fun x=>x.1.after.toList.all fun e=>!Region.binds .any e || (Nat.blt e.on x.2&&!Nat.beq e.on z))
theorem aLx {ops:Array Oper} {z:Nat} (h:aDi ops z=true):LastAt .any ops z:=by
 unfold aDi at h
 split at h
 · cases h
 rename_i oz hoz
 rw [aI] at h
 obtain ⟨h1,h2⟩:=h
 refine ⟨(Array.getElem?_eq_some_iff.1 hoz).1,fun oz' hoz' j hjz hj=>?_,fun j oj hoj e he hb=>?_⟩
 · rw [hoz] at hoz'
   injection hoz' with hoz'
   subst hoz'
   have:=bE h1 j (List.mem_range.2 hj)
   rw [Bool.or_eq_true] at this
   rcases this with h3 | h3
   · exact absurd (aV h3) hjz
   · obtain ⟨e,he,h4⟩:=List.any_eq_true.1 h3
     rw [aI] at h4
     exact ⟨e,by simpa using he,h4.1,aV h4.2⟩
 · have hm:(oj,j)∈ops.toList.zipIdx:=by
    rw [List.mem_zipIdx_iff_getElem?]
    simpa using hoj
   have:=bE (bE h2 _ hm) e (by simpa using he)
   simp only [hb,Bool.not_true,Bool.false_or,aI] at this
   exact ⟨cI this.1,s6 this.2⟩
def aG0 (p:Go.As.Plan) (z:Nat) (S:World→Prop) (g:Cfg):Cfg:=match g.k with
 | .code (.region _ ops true)::k=>match ops[z]? with
   | some oz=>⟨.pl ops p S :: .ops ops [oz] :: .np::k,g.s⟩
   | none=>g
 | _=>g
def aGy (p:Go.As.Plan) (z:Nat) (g:Cfg):Bool:=match g.k with
 | .code (.region _ ops true)::_=>Region.noSelect ops&&aDi ops z&&p.fits .any ops true ((Array.replicate ops.size false).setIfInBounds z true)&&Nat.blt p.depth ops.size
 | _=>false
def plS (g:Cfg):World→Prop:=match g.k with
 | .pl _ _ S::_=>S
 | _=>fun _=>True
def aK2 (g:Cfg):Bool:=match g.k with
 | .pl arr (.run i _) _::_=>match arr[i]? with
   | some _=>true
   | none=>false
 | _=>false
def aPg (g:Cfg):Cfg:=match g.k with
 | .pl arr (.run i p) S::k=>match arr[i]? with
   | some o=>⟨.ops arr [o] :: .pl arr p S::k,g.s⟩
   | none=>g
 | _=>g
def aMk (g:Cfg):Bool:=match g.k with
 | .pl _ .done _::_=>true
 | _=>false
def aVt (g:Cfg):Cfg:=match g.k with
 | .pl _ .done _::k=>⟨k,g.s⟩
 | _=>g
def aSj (g:Cfg):Bool:=match g.k with
 | .pl _ (.alt _ _) _::_=>true
 | _=>false
def aUm (b:Bool) (g:Cfg):Cfg:=match g.k with
 | .pl arr (.alt p q) S::k=>⟨.pl arr (match b with | true=>p | false=>q) S::k,g.s⟩
 | _=>g
def zL (P:Program) (nt:Nat) (L:List Nat) (g:Cfg):Option Cfg:=match g.k with
 | .pl arr (.take i p) S::k=>match arr[i]? with
   | none=>none
   | some o=>match eE arr g.s.T o with
     | none=>none
     | some false=>match dK nt g.s.T o.dst (.tup []) with
       | none=>none
       | some T'=>some ⟨.pl arr p S::k,⟨T',g.s.h,g.s.c,g.s.ds⟩⟩
     | some true=>match l7 P g.s.T o with
       | some av=>match dK nt g.s.T o.dst av with
         | none=>none
         | some T'=>some ⟨.pl arr p S::k,⟨T',g.s.h,g.s.c,g.s.ds⟩⟩
       | none=>match o.op with
         | .load t x=>match aev P g.s.T x with
           | some (.ptr b off)=>match b6 b L with
             | true=>match lA P t (.ptr b off) g.s.h with
               | some av=>match rW av with
                 | true=>match dK nt g.s.T o.dst av with
                   | none=>none
                   | some T'=>some ⟨.pl arr p S::k,⟨T',g.s.h,g.s.c,g.s.ds⟩⟩
                 | false=>none
               | none=>none
             | false=>none
           | _=>none
         | _=>none
 | _=>none
noncomputable def aC0 (P:Program) (nt:Nat) (L:List Nat) (n:Nat):Cfg→Cfg:=
 Nat.rec (motive:=fun _=>Cfg→Cfg) (fun g=>g) (fun _ ih g=>match zL P nt L g with
  | some g'=>ih g'
  | none=>g) n
def aMh (P:Program) (nt:Nat) (g:Cfg):Option Oper:=match g.k with
 | .pl arr (.take i _) _::_=>match arr[i]? with
   | none=>none
   | some o=>match eE arr g.s.T o with
     | some true=>match o.dst with
       | none=>some o
       | some d=>match Nat.blt d nt with
         | true=>some o
         | false=>none
     | _=>none
 | _=>none
def aR6 (P:Program) (nt:Nat) (g:Cfg):Option (Sem Value):=match aMh P nt g with
 | none=>none
 | some o=>match nB P g.s.T o.op.operands.toList with
   | true=>aHt (sN P g.s.T) o.op
   | false=>none
def aLf (g:Cfg) (av:AV):Cfg:=match g.k with
 | .pl arr (.take i p) S::k=>match arr[i]? with
   | some o=>⟨.pl arr p S::k,⟨dP o.dst g.s.T av,g.s.h,g.s.c,g.s.ds⟩⟩
   | none=>g
 | _=>g
def aVd (P:Program) (nt:Nat) (L:List Nat) (g:Cfg):Option AV:=match aMh P nt g with
 | none=>none
 | some o=>match o.op with
   | .load t x=>match aev P g.s.T x with
     | some (.ptr b off)=>match b6 b L with
       | true=>lA P t (.ptr b off) g.s.h
       | false=>none
     | _=>none
   | _=>none
section
variable {P:Program} {I:Aux} {B Bs:Nat→Prop} {w0 ws:World} {γ0:Gm} {nt:Nat} {Q:Exit→Act→World→Prop} {g g':Cfg}
theorem iT (S:World→Prop) (hm:P.follows .mixedOrders=true) (p:Go.As.Plan) (z:Nat) (h:aGy p z g=true) (hg:Good P B w0 γ0 nt Q (aG0 p z S g)):Good P B w0 γ0 nt Q g:=by
 obtain ⟨k,s⟩:=g
 unfold aGy at h
 simp only at h
 split at h <;> first | (cases h;done) | skip
 rename_i id ops k'
 simp only [aI] at h
 obtain ⟨⟨⟨h1,h2⟩,h3⟩,h4⟩:=h
 have hz:=aLx h2
 have h4:=cI h4
 obtain ⟨oz,hoz⟩:∃ oz,ops[z]?=some oz:=⟨ops[z]'hz.lt,Array.getElem?_eq_getElem hz.lt⟩
 unfold aG0 at hg
 simp only [hoz] at hg
 refine ⟨fun γ a w hle hf hr hb=>?_⟩
 simp only [after,Exit.then]
 refine Code.wp_mono NoPan.imp (wp_region_any hm ?_)
 obtain ⟨n,hn⟩:∃ n,ops.size=n+1:=⟨ops.size - 1,by have:=hz.lt;omega⟩
 rw [hn]
 refine aMj hz n _ a _ (by simp [hn]) (by have:=hz.lt;simp [← hn,this]) ?_
 refine wpAny_of_held _ _ _ _ ((wD (Q:=nV P ops (NoPan (after P Q k')) z) (S:=S) h1 (fun c a w d v h=>NoPan.put (Q:=after P Q k') c a w d v h) p n _ a _ (by omega)).1 (by rw [hn] at h3;exact h3) ?_)
 have hh:=hg.out γ a w.drew hle hf (hr.kept (aH _) (fun _ _=>rfl)) hb.drew
 simp only [after,aJi] at hh
 have e:NoPan (Exit.then (wpL P ops (NoPan (after P Q k')) [oz]) (NoPan (after P Q k')))=nV P ops (NoPan (after P Q k')) z:=by
  funext e a w
  cases e <;> first | rfl | skip
  rotate_left
  · exact propext ⟨fun h=>⟨h.1,(h.2 a h.1).2⟩,fun h=>⟨h.1,fun a' h'=>⟨h',h.2⟩⟩⟩
  show wpL P ops (NoPan (after P Q k')) [oz] a w=wpOp P ops (NoPan (after P Q k')) z (fun a w=>NoPan (after P Q k') .normal a w) a w
  unfold wpOp wpL
  simp only [hoz]
  rfl
 rw [e] at hh
 exact hh.2
theorem aNe (hm:P.follows .mixedOrders=true) (p:Go.As.Plan) (z:Nat) (h:aGy p z g=true) (hg:Good P B w0 γ0 nt Q (aG0 p z (Keep B w0) g)):Good P B w0 γ0 nt Q g:=iT (Keep B w0) hm p z h hg
theorem aVv (S:World→Prop) (hSe:plS g=S) (hS:∀ w,Keep B w0 w→S w) (h:aK2 g=true) (hg:Good P B w0 γ0 nt Q (aPg g)):Good P B w0 γ0 nt Q g:=by
 obtain ⟨k,s⟩:=g
 unfold aK2 at h
 simp only at h
 split at h <;> first | (cases h;done) | skip
 rename_i arr i p S' k'
 split at h <;> first | (cases h;done) | skip
 rename_i o ho
 simp only [plS] at hSe
 subst hSe
 unfold aPg at hg
 simp only [ho] at hg
 refine ⟨fun γ a w hle hf hr hb=>⟨hS w hb,?_⟩⟩
 have hh:=hg.out γ a w hle hf hr hb
 show wpOp P arr (NoPan (after P Q k')) i (fun a' w'=>S' w'∧wpPlanH P arr (NoPan (after P Q k')) S' p a' w') a w
 unfold wpOp
 simp only [ho]
 exact hh
theorem lO (h:aMk g=true) (hg:Good P B w0 γ0 nt Q (aVt g)) (S:World→Prop) (hSe:plS g=S) (hS:∀ w,Keep B w0 w→S w):Good P B w0 γ0 nt Q g:=by
 obtain ⟨k,s⟩:=g
 unfold aMk at h
 simp only at h
 split at h <;> first | (cases h;done) | skip
 rename_i arr S' k'
 simp only [plS] at hSe
 subst hSe
 exact ⟨fun γ a w hle hf hr hb=>⟨hS w hb,hg.out γ a w hle hf hr hb⟩⟩
theorem aFm (h:aSj g=true) (h1:Good P B w0 γ0 nt Q (aUm true g)) (h2:Good P B w0 γ0 nt Q (aUm false g)):Good P B w0 γ0 nt Q g:=by
 obtain ⟨k,s⟩:=g
 unfold aSj at h
 simp only at h
 split at h <;> first | (cases h;done) | skip
 rename_i arr p q S' k'
 exact ⟨fun γ a w hle hf hr hb=>
  have a1:=h1.out γ a w hle hf hr hb
  have a2:=h2.out γ a w hle hf hr hb
  ⟨a1.1,a1.2,a2.2⟩⟩
theorem aT9 {L:List Nat} (hS:∀ w,Keep B w0 w→Keep Bs ws w) (hSe:plS g=Keep Bs ws) (hL:∀ b,b6 b L=true→∃ p,γ0 b=some p∧Bs p.1) (h:zL P nt L g=some g') (hg:Good P B w0 γ0 nt Q g'):Good P B w0 γ0 nt Q g:=by
 obtain ⟨k,s⟩:=g
 unfold zL at h
 simp only at h
 split at h <;> first | (cases h;done) | skip
 rename_i arr i p S k'
 simp only [plS] at hSe
 subst hSe
 split at h
 · cases h
 rename_i o ho
 refine ⟨fun γ a w hle hf hr hb=>⟨hS w hb,?_⟩⟩
 have hok:=hf.ok (P:=P) (B:=B) (G:=0) hr.glob o.op.operands.toList
 show _∧∃ o v,arr[i]?=some o∧YieldsIf P arr (Keep Bs ws) o v a∧wpPlanH P arr (NoPan (after P Q k')) (Keep Bs ws) p (a.put o.dst v) w
 refine ⟨hS w hb,o,?_⟩
 split at h
 · cases h
 · rename_i hw
   have hw':=dX (a:=a) (fun j want p t av _ _ _ ht=>hf.tmps t av ht) hw
   split at h
   · cases h
   rename_i T' hT'
   injection h with h
   subst h
   exact ⟨undef,ho,.inr ⟨hw',rfl⟩,(hg.out γ _ w hle (hf.put (Gm.le.refl _) (kP γ) hT') hr hb).2⟩
 · rename_i hw
   have hw':=dX (a:=a) (fun j want p t av _ _ _ ht=>hf.tmps t av ht) hw
   split at h
   · rename_i av hav
     split at h
     · cases h
     rename_i T' hT'
     injection h with h
     subst h
     obtain ⟨v,h1,h2⟩:=oC hok hav
     exact ⟨v,ho,.inl ⟨hw',fun w' _=>h2 w'⟩,(hg.out γ _ w hle (hf.put (Gm.le.refl _) h1 hT') hr hb).2⟩
   · split at h <;> first | (cases h;done) | skip
     rename_i t x hop
     split at h <;> first | (cases h;done) | skip
     rename_i b off hx
     split at h <;> first | (cases h;done) | skip
     rename_i hbL
     split at h <;> first | (cases h;done) | skip
     rename_i av hav
     split at h <;> first | (cases h;done) | skip
     rename_i hfun
     split at h
     · cases h
     rename_i T' hT'
     injection h with h
     subst h
     have hxv:=hok x (by simp [hop,Op.operands]) _ hx
     obtain ⟨v,h1,h2⟩:=nQ hr hxv hav
     have hrun:∀ w' v',(Instr.loadAt t (a.eval x)).run P w' = .ok v' w'→(execOp a.eval o).run P w' = .ok (.value v') w':=fun w' v' hh=>by
      unfold execOp
      rw [hop]
      exact f9 hh
     refine ⟨v,ho,.inl ⟨hw',fun w' hk'=>?_⟩,(hg.out γ _ w hle (hf.put (Gm.le.refl _) h1 hT') hr hb).2⟩
     obtain ⟨pb,hpb,hBs⟩:=hL b hbL
     have hγb:=hle b pb hpb
     obtain ⟨blk,hblk⟩:∃ blk,s.h.get b=some blk:=by
      cases hh:s.h.get b with
      | none=>unfold lA at hav;simp [hh] at hav
      | some blk=>exact ⟨blk,rfl⟩
     have hkw:=hS w hb
     have hsame:w'.heap[pb.1]?=w.heap[pb.1]?:=(hk'.block _ hBs).trans (hkw.block _ hBs).symm
     have hr1:HR (fun _=>False) P.globals.size γ ((Tr.leaf:Hp).put b (some blk)) s.c w':=by
      refine ⟨fun b1 blk1 hb1=>?_,fun b1 b2 blk1 blk2 p1 p2 g1 g2 _ _ _=>?_,hr.fresh,hr.glob,fun k hk=>hk.elim⟩
      · rw [Tr.get_put] at hb1
        split at hb1
        · rename_i e
          subst e
          injection hb1 with hb1
          subst hb1
          obtain ⟨p1,hp1,hbr⟩:=hr.live _ _ hblk
          rw [hγb] at hp1
          injection hp1 with hp1
          subst hp1
          refine ⟨pb,hγb,?_⟩
          have hbr2:=hbr.kept hsame
          cases blk with
          | cells ty own clean ex lim cs=>exact ⟨fun _ hF=>hF,hbr2.2⟩
          | map es clock=>exact ⟨fun hF=>hF,hbr2.2⟩
          | row e xs=>exact ⟨fun hF=>hF,hbr2.2⟩
        · rw [Tr.get_leaf] at hb1;cases hb1
      · rw [Tr.get_put] at g1 g2
        split at g1 <;> split at g2
        · rename_i e1 e2;exact e1.trans e2.symm
        · rw [Tr.get_leaf] at g2;cases g2
        · rw [Tr.get_leaf] at g1;cases g1
        · rw [Tr.get_leaf] at g1;cases g1
     have hav1:lA P t (.ptr b off) ((Tr.leaf:Hp).put b (some blk))=some av:=by
      rw [← hav]
      unfold lA
      simp only [Tr.get_put_same,hblk]
     obtain ⟨v',h3,h4⟩:=nQ hr1 hxv hav1
     rw [aHv h1 hfun h3]
     exact hrun w' v' h4
theorem aCc (L:List Nat) (av:AV) (h:aVd P nt L g=some av) (hfun:rW av=true) (hSe:plS g=Keep Bs ws) (hS:∀ w,Keep B w0 w→Keep Bs ws w) (hL:∀ b,b6 b L=true→∃ p,γ0 b=some p∧Bs p.1) (hg:Good P B w0 γ0 nt Q (aLf g av)):Good P B w0 γ0 nt Q g:=by
 obtain ⟨k,s⟩:=g
 unfold aVd at h
 split at h
 · cases h
 rename_i o ho
 unfold aMh at ho
 simp only at ho
 split at ho <;> first | (cases ho;done) | skip
 rename_i arr i p S' k'
 simp only [plS] at hSe
 subst hSe
 split at ho
 · cases ho
 rename_i o' ho'
 split at ho <;> first | (cases ho;done) | skip
 rename_i hw
 have hoo:o'=o∧∀ av,dK nt s.T o'.dst av=some (dP o'.dst s.T av):=by
  split at ho
  · rename_i hd
    injection ho with ho
    exact ⟨ho,fun av=>by unfold dK dP;rw [hd]⟩
  · rename_i d hd
    split at ho <;> first | (cases ho;done) | skip
    rename_i hlt
    injection ho with ho
    exact ⟨ho,fun av=>by unfold dK dP;rw [hd];simp only [hlt]⟩
 obtain ⟨rfl,hput⟩:=hoo
 unfold aLf at hg
 simp only [ho'] at hg
 split at h <;> first | (cases h;done) | skip
 rename_i t x hop
 split at h <;> first | (cases h;done) | skip
 rename_i b off hx
 split at h <;> first | (cases h;done) | skip
 rename_i hbL
 have hav:=h
 refine ⟨fun γ a w hle hf hr hb=>⟨hS w hb,?_⟩⟩
 have hok:=hf.ok (P:=P) (B:=B) (G:=0) hr.glob o'.op.operands.toList
 have hw':=dX (a:=a) (fun j want p t av _ _ _ ht=>hf.tmps t av ht) hw
 show _∧∃ o v,arr[i]?=some o∧YieldsIf P arr (Keep Bs ws) o v a∧wpPlanH P arr (NoPan (after P Q k')) (Keep Bs ws) p (a.put o.dst v) w
 refine ⟨hS w hb,o',?_⟩
 have hxv:=hok x (by simp [hop,Op.operands]) _ hx
 obtain ⟨v,h1,h2⟩:=nQ hr hxv hav
 have hrun:∀ w' v',(Instr.loadAt t (a.eval x)).run P w' = .ok v' w'→(execOp a.eval o').run P w' = .ok (.value v') w':=fun w' v' hh=>by
  unfold execOp
  rw [hop]
  exact f9 hh
 refine ⟨v,ho',.inl ⟨hw',fun w' hk'=>?_⟩,(hg.out γ _ w hle (hf.put (Gm.le.refl _) h1 (hput _)) hr hb).2⟩
 obtain ⟨pb,hpb,hBs⟩:=hL b hbL
 have hγb:=hle b pb hpb
 obtain ⟨blk,hblk⟩:∃ blk,s.h.get b=some blk:=by
  cases hh:s.h.get b with
  | none=>unfold lA at hav;simp [hh] at hav
  | some blk=>exact ⟨blk,rfl⟩
 have hkw:=hS w hb
 have hsame:w'.heap[pb.1]?=w.heap[pb.1]?:=(hk'.block _ hBs).trans (hkw.block _ hBs).symm
 have hr1:HR (fun _=>False) P.globals.size γ ((Tr.leaf:Hp).put b (some blk)) s.c w':=by
  refine ⟨fun b1 blk1 hb1=>?_,fun b1 b2 blk1 blk2 p1 p2 g1 g2 _ _ _=>?_,hr.fresh,hr.glob,fun k hk=>hk.elim⟩
  · rw [Tr.get_put] at hb1
    split at hb1
    · rename_i e
      subst e
      injection hb1 with hb1
      subst hb1
      obtain ⟨p1,hp1,hbr⟩:=hr.live _ _ hblk
      rw [hγb] at hp1
      injection hp1 with hp1
      subst hp1
      refine ⟨pb,hγb,?_⟩
      have hbr2:=hbr.kept hsame
      cases blk with
      | cells ty own clean ex lim cs=>exact ⟨fun _ hF=>hF,hbr2.2⟩
      | map es clock=>exact ⟨fun hF=>hF,hbr2.2⟩
      | row e xs=>exact ⟨fun hF=>hF,hbr2.2⟩
    · rw [Tr.get_leaf] at hb1;cases hb1
  · rw [Tr.get_put] at g1 g2
    split at g1 <;> split at g2
    · rename_i e1 e2;exact e1.trans e2.symm
    · rw [Tr.get_leaf] at g2;cases g2
    · rw [Tr.get_leaf] at g1;cases g1
    · rw [Tr.get_leaf] at g1;cases g1
 have hav1:lA P t (.ptr b off) ((Tr.leaf:Hp).put b (some blk))=some av:=by
  rw [← hav]
  unfold lA
  simp only [Tr.get_put_same,hblk]
 obtain ⟨v',h3,h4⟩:=nQ hr1 hxv hav1
 rw [aHv h1 hfun h3]
 exact hrun w' v' h4
theorem aJb (L:List Nat) (n:Nat) (g:Cfg):aC0 P nt L (n+1) g=(match zL P nt L g with
 | some g'=>aC0 P nt L n g'
 | none=>g):=rfl
theorem aTc {L:List Nat} (h:zL P nt L g=some g'):plS g'=plS g:=by
 obtain ⟨k,s⟩:=g
 unfold zL at h
 simp only at h
 repeat' (split at h)
 all_goals first | (cases h;done) | (injection h with h;subst h;rfl)
theorem aG6 {L:List Nat} (hS:∀ w,Keep B w0 w→Keep Bs ws w) (hL:∀ b,b6 b L=true→∃ p,γ0 b=some p∧Bs p.1):∀ (n:Nat) (g:Cfg),plS g=Keep Bs ws→Good P B w0 γ0 nt Q (aC0 P nt L n g)→Good P B w0 γ0 nt Q g
 | 0,g,_,h=>h
 | n+1,g,hSe,h=>by
   rw [aJb] at h
   split at h
   · rename_i g' hg'
     exact aT9 hS hSe hL hg' (aG6 hS hL n g' ((aTc hg').trans hSe) h)
   · exact h
theorem fI (L:List Nat) (n:Nat) (hSe:plS g=Keep Bs ws) (hS:∀ w,Keep B w0 w→Keep Bs ws w) (hL:∀ b,b6 b L=true→∃ p,γ0 b=some p∧Bs p.1) (h:Good P B w0 γ0 nt Q (aC0 P nt L n g)):Good P B w0 γ0 nt Q g:=
 aG6 hS hL n g hSe h
theorem aFr {S:Sem Value} (x:Value) (h:aR6 P nt g=some S) (hSe:plS g=Keep Bs ws) (hS:∀ w,Keep B w0 w→Keep Bs ws w) (hrun:∀ w,Keep Bs ws w→S.run P w = .ok x w) (hg:Good P B w0 γ0 nt Q (aLf g (bW x))):Good P B w0 γ0 nt Q g:=by
 obtain ⟨k,s⟩:=g
 unfold aR6 at h
 split at h
 · cases h
 rename_i o ho
 split at h <;> first | (cases h;done) | skip
 rename_i hcl
 unfold aMh at ho
 simp only at ho
 split at ho <;> first | (cases ho;done) | skip
 rename_i arr i p S' k'
 simp only [plS] at hSe
 subst hSe
 split at ho
 · cases ho
 rename_i o' ho'
 split at ho <;> first | (cases ho;done) | skip
 rename_i hw
 have hoo:o'=o∧∀ av,dK nt s.T o'.dst av=some (dP o'.dst s.T av):=by
  split at ho
  · rename_i hd
    injection ho with ho
    exact ⟨ho,fun av=>by unfold dK dP;rw [hd]⟩
  · rename_i d hd
    split at ho <;> first | (cases ho;done) | skip
    rename_i hlt
    injection ho with ho
    exact ⟨ho,fun av=>by unfold dK dP;rw [hd];simp only [hlt]⟩
 obtain ⟨rfl,hput⟩:=hoo
 unfold aLf at hg
 simp only [ho'] at hg
 refine ⟨fun γ a w hle hf hr hb=>⟨hS w hb,?_⟩⟩
 have hok:=hf.ok (P:=P) (B:=B) (G:=0) hr.glob o'.op.operands.toList
 have hns:∀ cs b,o'.op = .select cs b→False:=fun cs b e=>by rw [e] at h;cases h
 have hcong:=execOp_congr (ρ:=sN P s.T) (ρ':=a.eval) o' (fun cs b e=>(hns cs b e).elim) (fun x hx=>tF hok hcl x (by simpa using hx))
 have hw':=dX (a:=a) (fun j want p t av _ _ _ ht=>hf.tmps t av ht) hw
 show _∧∃ o v,arr[i]?=some o∧YieldsIf P arr (Keep Bs ws) o v a∧wpPlanH P arr (NoPan (after P Q k')) (Keep Bs ws) p (a.put o.dst v) w
 exact ⟨hS w hb,o',x,ho',.inl ⟨hw',fun w' hk'=>by rw [← hcong];exact aBk h (hrun w' hk')⟩,(hg.out γ _ w hle (hf.put (Gm.le.refl _) (eP x) (hput _)) hr hb).2⟩
end
end Go.Sy
end
end
section
noncomputable section
namespace Go.Sy
open Go Go.RowKit
def aN7 (o:Bool):Blk→Blk
 | .cells ty _ cl ex lim cs => .cells ty o cl ex lim cs
 | b=>b
def rA (b off:Nat) (x:Value) (h:Hp):Hp:=match h.get b with
 | some (.cells ty o cl ex lim cs)=>h.put b (some (.cells ty o cl ex lim (cs.put off (some (.v x)))))
 | _=>h
def aNb (b off:Nat) (h:Hp):Bool:=match h.get b with
 | some (.cells _ _ _ _ lim cs)=>match cs.get off with
   | some _=>Nat.blt off lim
   | none=>false
 | _=>false
def mG:Option Blk→Bool
 | some (.cells _ true _ _ _ _)=>true
 | _=>false
def aJo:Option Blk→Bool
 | some (.cells _ _ _ _ _ _)=>true
 | _=>false
def aBv (o:Bool):List Nat→Hp→Hp
 | [],h=>h
 | b::l,h=>(aBv o l h).put b ((h.get b).map (aN7 o))
theorem kJ (o:Bool):∀ (l:List Nat) (h:Hp) (b:Nat),(aBv o l h).get b=if b6 b l=true then (h.get b).map (aN7 o) else h.get b
 | [],h,b=>by simp [aBv,b6]
 | x::l,h,b=>by
   simp only [aBv]
   rw [Tr.get_put]
   by_cases e:b=x
   · subst e
     rw [if_pos rfl,if_pos (hasNat_iff.2 (bQ))]
   · rw [if_neg e,kJ o l h b]
     by_cases hm:b6 b l=true
     · rw [if_pos hm,if_pos (hasNat_iff.2 (bA _ (hasNat_iff.1 hm)))]
     · rw [if_neg hm,if_neg (fun h=>hm (hasNat_iff.2 ((bJ (hasNat_iff.1 h)).resolve_left e)))]
def lU (o:Bool) (L:List Nat) (g:Cfg):Cfg:=⟨g.k,⟨g.s.T,aBv o L g.s.h,g.s.c,g.s.ds⟩⟩
def aPd (L:List Nat) (h:Hp) (n:Nat):Bool:=L.all fun b=>mG (h.get b)&&Nat.blt b n
def aQ2 (L:List Nat) (h:Hp):Bool:=L.all fun b=>aJo (h.get b)
section
variable {P:Program} {B:Nat→Prop} {w0:World} {γ0:Gm} {nt:Nat} {Q:Exit→Act→World→Prop} {g:Cfg}
theorem Good.up {γ1:Gm} (h:Good P B w0 γ0 nt Q g) (hle:Gm.le γ0 γ1):Good P B w0 γ1 nt Q g:=⟨fun γ a w h1=>h.out γ a w (hle.trans h1)⟩
theorem oS (L:List Nat) (c2:Nat) (hL:aPd L g.s.h c2=true) (hγ:∀ b,c2≤b→γ0 b=none)
  (hg:∀ γ1 B1 w1,Gm.le γ0 γ1→(∀ b,c2≤b→γ1 b=none)→(∀ k,B k→B1 k)→(∀ k,B1 k→k<w1.heap.size)→Keep B w0 w1→(∀ b,b6 b L=true→∃ p,γ1 b=some p∧B1 p.1∧¬ B p.1)→
   Good P B1 w1 γ1 nt Q (lU false L g)):Good P B w0 γ0 nt Q g:=by
 have hL':∀ b,b6 b L=true→mG (g.s.h.get b)=true∧b<c2:=fun b hb=>by
  have:=bE hL b (hasNat_iff.1 hb)
  rw [aI] at this
  exact ⟨this.1,cI this.2⟩
 refine ⟨fun γ a w hle hf hr hb=>?_⟩
 have hown:∀ b,b6 b L=true→∃ p,γ b=some p∧¬ B p.1∧p.1<w.heap.size:=fun b hbL=>by
  obtain ⟨h1,_⟩:=hL' b hbL
  unfold mG at h1
  split at h1 <;> first | (cases h1;done) | skip
  rename_i ty cl ex lim cs hb1
  obtain ⟨p,hp,hbr⟩:=hr.live b _ hb1
  exact ⟨p,hp,hbr.1 rfl,hbr.lt⟩
 have hh:=hg (γ.res c2) (fun k=>B k∨∃ b N,b6 b L=true∧γ b=some (k,N)) w (fun b p hp=>by
  rcases aY b c2 with hlt | hge
  · exact Gm.res_some (hle b p hp) hlt
  · rw [hγ b hge] at hp;cases hp) (fun b hb1=>by unfold Gm.res;rw [if_neg (by omega)]) (fun k => .inl)
  (fun k hk=>by
   rcases hk with hk | ⟨b,N,hbL,hγb⟩
   · exact hr.base k hk
   · obtain ⟨p,hp,_,hlt⟩:=hown b hbL
     rw [hγb] at hp
     injection hp with hp
     subst hp
     exact hlt) hb
  (fun b hbL=>by
   obtain ⟨p,hp,hnB,_⟩:=hown b hbL
   exact ⟨p,Gm.res_some hp (hL' b hbL).2,.inr ⟨b,p.2,hbL,hp⟩,hnB⟩)
 refine hh.out γ a w (fun b p hp=>?_) hf ⟨fun b blk hb1=>?_,fun b b' blk blk' p p' h1 h2 g1 g2 e=>?_,hr.fresh,hr.glob,fun k hk=>?_⟩ (Keep.refl _ _)
 · unfold Gm.res at hp
   split at hp
   · exact hp
   · cases hp
 · simp only [lU] at hb1
   rw [kJ] at hb1
   split at hb1
   · rename_i hbL
     cases hb2:g.s.h.get b with
     | none=>rw [hb2] at hb1;cases hb1
     | some blk0=>
       rw [hb2] at hb1
       simp only [aL,Option.some.injEq] at hb1
       subst hb1
       obtain ⟨p,hp,hbr⟩:=hr.live b _ hb2
       have h3:=(hL' b hbL).1
       rw [hb2] at h3
       cases blk0 with
       | cells ty own cl ex lim cs=>exact ⟨p,hp,fun e=>(by cases e),hbr.2⟩
       | map es clock=>cases h3
       | row e xs=>cases h3
   · rename_i hbL
     obtain ⟨p,hp,hbr⟩:=hr.live b _ hb1
     refine ⟨p,hp,?_⟩
     have key:¬ B p.1→¬ (B p.1∨∃ b N,b6 b L=true∧γ b=some (p.1,N)):=by
      intro hnB hor
      rcases hor with h3 | ⟨b2,N,hb2L,hγ2⟩
      · exact hnB h3
      · obtain ⟨h4,_⟩:=hL' b2 hb2L
        have:∃ blk2,g.s.h.get b2=some blk2:=by
         cases hh2:g.s.h.get b2 with
         | none=>rw [hh2] at h4;cases h4
         | some blk2=>exact ⟨_,rfl⟩
        obtain ⟨blk2,hblk2⟩:=this
        have:=hr.inj b b2 _ _ p (p.1,N) hb1 hblk2 hp hγ2 rfl
        subst this
        exact hbL hb2L
     cases blk with
     | cells ty own cl ex lim cs=>exact ⟨fun e=>key (hbr.1 e),hbr.2⟩
     | map es clock=>exact ⟨key hbr.1,hbr.2⟩
     | row e xs=>exact ⟨key hbr.1,hbr.2⟩
 · have get0:∀ {x y},(lU false L g).s.h.get x=some y→∃ z,g.s.h.get x=some z:=by
    intro x y hx
    simp only [lU] at hx
    rw [kJ] at hx
    split at hx
    · cases hz:g.s.h.get x with
      | none=>rw [hz] at hx;cases hx
      | some z=>exact ⟨z,rfl⟩
    · exact ⟨_,hx⟩
   obtain ⟨z1,k1⟩:=get0 h1
   obtain ⟨z2,k2⟩:=get0 h2
   exact hr.inj _ _ _ _ _ _ k1 k2 g1 g2 e
 · rcases hk with hk | ⟨b,N,hbL,hγb⟩
   · exact hr.base k hk
   · obtain ⟨p,hp,_,hlt⟩:=hown b hbL
     rw [hγb] at hp
     injection hp with hp
     subst hp
     exact hlt
theorem lL (L:List Nat) (hL:aQ2 L g.s.h=true) (hk:∀ b,b6 b L=true→∃ p,γ0 b=some p)
  (hg:∀ B2,(∀ k,B2 k→B k)→(∀ k,B k→(∀ b p,b6 b L=true→γ0 b=some p→p.1≠k)→B2 k)→Good P B2 w0 γ0 nt Q (lU true L g)):Good P B w0 γ0 nt Q g:=by
 have hL':∀ b,b6 b L=true→aJo (g.s.h.get b)=true:=fun b hb=>bE hL b (hasNat_iff.1 hb)
 have hh:=hg (fun k=>B k∧∀ b p,b6 b L=true→γ0 b=some p→p.1≠k) (fun k h=>h.1) (fun k h1 h2=>⟨h1,h2⟩)
 refine ⟨fun γ a w hle hf hr hb=>hh.out γ a w hle hf ⟨fun b blk hb1=>?_,fun b b' blk blk' p p' h1 h2 g1 g2 e=>?_,hr.fresh,hr.glob,fun k hk=>hr.base k hk.1⟩ (hb.mono fun k h=>h.1)⟩
 · simp only [lU] at hb1
   rw [kJ] at hb1
   split at hb1
   · rename_i hbL
     cases hb2:g.s.h.get b with
     | none=>rw [hb2] at hb1;cases hb1
     | some blk0=>
       rw [hb2] at hb1
       simp only [aL,Option.some.injEq] at hb1
       subst hb1
       obtain ⟨p,hp,hbr⟩:=hr.live b _ hb2
       have h3:=hL' b hbL
       rw [hb2] at h3
       cases blk0 with
       | cells ty own cl ex lim cs=>
         refine ⟨p,hp,fun _ hB2=>?_,hbr.2⟩
         obtain ⟨p0,hp0⟩:=hk b hbL
         have:=hle b p0 hp0
         rw [hp] at this
         injection this with this
         subst this
         exact hB2.2 b p hbL hp0 rfl
       | map es clock=>cases h3
       | row e xs=>cases h3
   · obtain ⟨p,hp,hbr⟩:=hr.live b _ hb1
     refine ⟨p,hp,?_⟩
     cases blk with
     | cells ty own cl ex lim cs=>exact ⟨fun e h=>hbr.1 e h.1,hbr.2⟩
     | map es clock=>exact ⟨fun h=>hbr.1 h.1,hbr.2⟩
     | row e xs=>exact ⟨fun h=>hbr.1 h.1,hbr.2⟩
 · have get0:∀ {x y},(lU true L g).s.h.get x=some y→∃ z,g.s.h.get x=some z:=by
    intro x y hx
    simp only [lU] at hx
    rw [kJ] at hx
    split at hx
    · cases hz:g.s.h.get x with
      | none=>rw [hz] at hx;cases hx
      | some z=>exact ⟨z,rfl⟩
    · exact ⟨_,hx⟩
   obtain ⟨z1,k1⟩:=get0 h1
   obtain ⟨z2,k2⟩:=get0 h2
   exact hr.inj _ _ _ _ _ _ k1 k2 g1 g2 e
theorem pL (b off:Nat) (hc:aNb b off g.s.h=true) (hg:∀ x:Value,Good P B w0 γ0 nt Q ⟨g.k,⟨g.s.T,rA b off x g.s.h,g.s.c,g.s.ds⟩⟩):Good P B w0 γ0 nt Q g:=by
 unfold aNb at hc
 split at hc <;> first | (cases hc;done) | skip
 rename_i ty o cl ex lim cs hb1
 split at hc <;> first | (cases hc;done) | skip
 rename_i av hav
 have hlt:=cI hc
 refine ⟨fun γ a w hle hf hr hb=>?_⟩
 obtain ⟨p,hp,hbr⟩:=hr.live b _ hb1
 obtain ⟨h0,c,ty',fz,h1,h2,h3,h4⟩:=hbr
 obtain ⟨x,hx1,hx2⟩:=h4 off av hlt hav
 have hh:=(hg x).out γ a w hle hf ?_ hb
 · exact hh
 · unfold rA
   rw [hb1]
   refine hr.turn hb1 hp (aH _) (fun _ _ _=>rfl) ⟨h0,c,ty',fz,h1,h2,h3,fun i a' hi hi'=>?_⟩
   rw [Tr.get_put] at hi'
   split at hi'
   · rename_i e
     subst e
     injection hi' with hi'
     subst hi'
     exact ⟨x,hx1,.v x⟩
   · exact h4 i a' hi hi'
end
end Go.Sy
end
end
section
namespace Go.Proofs.YtijopiphkgddhaaGreatDoor
open Go.RowKit Go.As Go.Sy
def aQj (f:Nat):Bool:=Nat.beq f 85
theorem aQp (x:Value) (w:World):(callFunc 85 #[x]).run Tryz.prog w = .ok (.value x) w:=by
 rw [run_callFunc_extern (P:=Tryz.prog) Tryz.func85 (by kernel_rfl) (by kernel_rfl) (e:=Extern.AbiNoEscape.same) (by kernel_rfl) (by kernel_rfl)]
 rfl
theorem aKh (f:Nat) (hf:aQj f=true) (x:Value) (w:World):(callFunc f #[x]).run Tryz.prog w = .ok (.value x) w:=by
 have:=aV hf
 subst this
 exact aQp x w
def syI:Sy.Aux:=⟨aQj,fun _ _=>none,fun _=>True⟩
theorem p4:Sy.Fine Tryz.prog syI:=Sy.fine_of aKh (fun f args av h=>by cases h) (fun w w' h hb=>trivial) (by kernel_rfl)
theorem cP:Tryz.prog.follows .mixedOrders=true:=by kernel_rfl
theorem bV (B:Nat→Prop) (w0:World):Sy.Cx Tryz.prog syI B w0:=⟨cP,p4,fun _ _=>trivial⟩
theorem cR {n:Int} (h1 : -9223372036854775808≤n) (h2:n<9223372036854775808):cA .i64 n=n:=by rw [aG2,IntKind.wrap_i64];omega
theorem qC {a b:Int} (h:a<b):intLt a b=true:=by rw [intLt_eq];exact decide_eq_true h
theorem rE {a b:Int} (h:¬ a<b):intLt a b=false:=by rw [intLt_eq];exact decide_eq_false h
theorem nX {a b:Int} (h:a=b):intEq a b=true:=by rw [intEq_eq];simp [h]
theorem lC {a b:Int} (h:a≠b):intEq a b=false:=by rw [intEq_eq];simp [h]
theorem aEm (s:List UInt8) (a b:Nat) (hab:a≤b) (hb:b≤s.length) (t:List UInt8) (ht:(s.drop a).take (b - a)=t) {P:Program} (ty:TypeId) (hu:P.underlying ty=some .string) (w:World):
  (Instr.sliceAt ty (.string (str s)) (some (.int .i64 (a:Int))) (some (.int .i64 (b:Int))) none).run P w = .ok (.string (str t)) w:=by
 rw [run_sliceAt_string _ _ _ _ _ _ hu]
 have h2:(b:Int)≤((str s).size:Nat):=by rw [str_size];omega
 simp [Instr.slice,run_underlying hu,Instr.sliceBounds,run_sliceBound,h2,(by omega:(a:Int)≤b),str_extract,ht]
end Go.Proofs.YtijopiphkgddhaaGreatDoor
end
section
namespace Go.Sy
open Go Go.RowKit Go.As
section
variable {P:Program} {I:Aux}
theorem enterT (hn:Fine P I) {g:Nat} {zs:List Nat} (hg:g<P.globals.size) {f:FuncId} {fn:Func} (hf:P.funcs[f]?=some fn) (hb':fn.body.isSome=true) {args:List AV} {vs:List Value} (hl:∀ γ,LR γ args vs) (hle:Nat.ble args.length fn.ntmps=true) {w:World} (ht:TabAt g zs w) {R:Ending→World→Prop}
  (hgd:∀ γ0,(∀ b,P.globals.size≤b→γ0 b=none)→Good P (·<w.heap.size) w γ0 fn.ntmps (bodyPostD P fn R) ⟨[.code (fn.body.getD .skip)],⟨d6 .leaf 0 args,pK g zs,P.globals.size,[]⟩⟩):Calls P f vs.toArray w R:=by
 obtain ⟨code,hb⟩:=aQ hb'
 have hle:args.length≤fn.ntmps:=aN hle
 obtain ⟨ty,fz,hheap⟩:=ht
 have hget:∀ b blk,(pK g zs).get b=some blk→b=g∧blk = .cells 0 false false false zs.length (d6 .leaf 0 (yF zs)):=by
  intro b blk hb'
  unfold pK at hb'
  rw [Tr.get_put] at hb'
  split at hb'
  · rename_i e
    injection hb' with hb'
    exact ⟨e,hb'.symm⟩
  · rw [Tr.get_leaf] at hb';cases hb'
 have hr:HR (·<w.heap.size) P.globals.size (fun x=>if x<P.globals.size then some (x,if x=g then zs.length else 0) else none) (pK g zs) P.globals.size w:=by
  refine ⟨fun b blk hb'=>?_,fun b b' blk blk' p p' h1 h2 _ _ _=>(hget _ _ h1).1.trans (hget _ _ h2).1.symm,fun b hb=>by show (if b<P.globals.size then _ else _)=_;rw [if_neg (by omega)],
   fun x hx=>⟨_,by show (if x<P.globals.size then _ else _)=_;rw [if_pos hx]⟩,fun k hk=>hk⟩
  obtain ⟨rfl,rfl⟩:=hget b blk hb'
  refine ⟨(b,zs.length),by show (if b<P.globals.size then _ else _)=_;rw [if_pos hg,if_pos rfl],fun e=>(by cases e),_,ty,fz,hheap,by simp,⟨fun e=>(by cases e),fun e=>(by cases e)⟩,fun i av hlt hi=>?_⟩
  have hl:=wV (γ:=fun x=>if x<P.globals.size then some (x,if x=b then zs.length else 0) else none) zs
  have hll:=hl.1
  simp only [List.length_map] at hll
  rw [f0,if_pos ⟨by omega,by omega⟩] at hi
  obtain ⟨v,h1,h2⟩:=hl.get (by simpa using hi)
  exact ⟨v,by simpa using h1,h2⟩
 refine calls_of_wp_defers hf hb ?_
 have hγ0:∀ b,P.globals.size≤b→(fun x=>if x<P.globals.size then some (x,if x=g then zs.length else 0) else none:Gm) b=none:=fun b hb=>by
  show (if b<P.globals.size then _ else _)=_;rw [if_neg (by omega)]
 have hfr:FR (fun x=>if x<P.globals.size then some (x,if x=g then zs.length else 0) else none) fn.ntmps (d6 .leaf 0 args) [] { tmps:=vs.toArray++Array.replicate (fn.ntmps - vs.toArray.size) undef,defers:=[] }:=by
  refine ⟨?_,yN (by simpa using hl _) _,trivial⟩
  have:=(hl (fun _=>none)).1
  simp
  omega
 have:=(hgd _ hγ0).out _ _ w (Gm.le.refl _) hfr hr (Keep.refl _ _)
 simp only [after,hb,bT] at this
 exact wp_mono this fun e a w h=>by cases e <;> exact h
end
end Go.Sy
end
section
noncomputable section
namespace Go.Sy
open Go Go.RowKit
section
variable {P:Program} {B:Nat→Prop} {w0:World} {γ0:Gm} {nt:Nat} {Q:Exit→Act→World→Prop} {g:Cfg}
theorem aK6 (L:List Nat) (c2:Nat) (hL:aPd L g.s.h c2=true)
  (hg:∀ γ1 B1 w1,Gm.le γ0 γ1→(∀ b,b6 b L=false→γ1 b=γ0 b)→(∀ k,B k→B1 k)→(∀ k,B1 k→k<w1.heap.size)→Keep B w0 w1→(∀ b,b6 b L=true→∃ p,γ1 b=some p∧B1 p.1∧¬ B p.1)→
   Good P B1 w1 γ1 nt Q (lU false L g)):Good P B w0 γ0 nt Q g:=by
 have hL':∀ b,b6 b L=true→mG (g.s.h.get b)=true∧b<c2:=fun b hb=>by
  have:=bE hL b (hasNat_iff.1 hb)
  rw [aI] at this
  exact ⟨this.1,cI this.2⟩
 refine ⟨fun γ a w hle hf hr hb=>?_⟩
 have hown:∀ b,b6 b L=true→∃ p,γ b=some p∧¬ B p.1∧p.1<w.heap.size:=fun b hbL=>by
  obtain ⟨h1,_⟩:=hL' b hbL
  unfold mG at h1
  split at h1 <;> first | (cases h1;done) | skip
  rename_i ty cl ex lim cs hb1
  obtain ⟨p,hp,hbr⟩:=hr.live b _ hb1
  exact ⟨p,hp,hbr.1 rfl,hbr.lt⟩
 have hh:=hg (fun b=>if b6 b L=true then γ b else γ0 b) (fun k=>B k∨∃ b N,b6 b L=true∧γ b=some (k,N)) w (fun b p hp=>by
  show (if b6 b L=true then γ b else γ0 b)=some p
  split
  · exact hle b p hp
  · exact hp) (fun b hb1=>by show (if b6 b L=true then γ b else γ0 b)=γ0 b;rw [hb1];rfl) (fun k => .inl)
  (fun k hk=>by
   rcases hk with hk | ⟨b,N,hbL,hγb⟩
   · exact hr.base k hk
   · obtain ⟨p,hp,_,hlt⟩:=hown b hbL
     rw [hγb] at hp
     injection hp with hp
     subst hp
     exact hlt) hb
  (fun b hbL=>by
   obtain ⟨p,hp,hnB,_⟩:=hown b hbL
   exact ⟨p,(by show (if b6 b L=true then γ b else γ0 b)=some p;rw [if_pos hbL];exact hp),.inr ⟨b,p.2,hbL,hp⟩,hnB⟩)
 refine hh.out γ a w (fun b p hp=>?_) hf ⟨fun b blk hb1=>?_,fun b b' blk blk' p p' h1 h2 g1 g2 e=>?_,hr.fresh,hr.glob,fun k hk=>?_⟩ (Keep.refl _ _)
 · have hp:(if b6 b L=true then γ b else γ0 b)=some p:=hp
   split at hp
   · exact hp
   · exact hle b p hp
 · simp only [lU] at hb1
   rw [kJ] at hb1
   split at hb1
   · rename_i hbL
     cases hb2:g.s.h.get b with
     | none=>rw [hb2] at hb1;cases hb1
     | some blk0=>
       rw [hb2] at hb1
       simp only [aL,Option.some.injEq] at hb1
       subst hb1
       obtain ⟨p,hp,hbr⟩:=hr.live b _ hb2
       have h3:=(hL' b hbL).1
       rw [hb2] at h3
       cases blk0 with
       | cells ty own cl ex lim cs=>exact ⟨p,hp,fun e=>(by cases e),hbr.2⟩
       | map es clock=>cases h3
       | row e xs=>cases h3
   · rename_i hbL
     obtain ⟨p,hp,hbr⟩:=hr.live b _ hb1
     refine ⟨p,hp,?_⟩
     have key:¬ B p.1→¬ (B p.1∨∃ b N,b6 b L=true∧γ b=some (p.1,N)):=by
      intro hnB hor
      rcases hor with h3 | ⟨b2,N,hb2L,hγ2⟩
      · exact hnB h3
      · obtain ⟨h4,_⟩:=hL' b2 hb2L
        have:∃ blk2,g.s.h.get b2=some blk2:=by
         cases hh2:g.s.h.get b2 with
         | none=>rw [hh2] at h4;cases h4
         | some blk2=>exact ⟨_,rfl⟩
        obtain ⟨blk2,hblk2⟩:=this
        have:=hr.inj b b2 _ _ p (p.1,N) hb1 hblk2 hp hγ2 rfl
        subst this
        exact hbL hb2L
     cases blk with
     | cells ty own cl ex lim cs=>exact ⟨fun e=>key (hbr.1 e),hbr.2⟩
     | map es clock=>exact ⟨key hbr.1,hbr.2⟩
     | row e xs=>exact ⟨key hbr.1,hbr.2⟩
 · have get0:∀ {x y},(lU false L g).s.h.get x=some y→∃ z,g.s.h.get x=some z:=by
    intro x y hx
    simp only [lU] at hx
    rw [kJ] at hx
    split at hx
    · cases hz:g.s.h.get x with
      | none=>rw [hz] at hx;cases hx
      | some z=>exact ⟨z,rfl⟩
    · exact ⟨_,hx⟩
   obtain ⟨z1,k1⟩:=get0 h1
   obtain ⟨z2,k2⟩:=get0 h2
   exact hr.inj _ _ _ _ _ _ k1 k2 g1 g2 e
 · rcases hk with hk | ⟨b,N,hbL,hγb⟩
   · exact hr.base k hk
   · obtain ⟨p,hp,_,hlt⟩:=hown b hbL
     rw [hγb] at hp
     injection hp with hp
     subst hp
     exact hlt
end
end Go.Sy
end
end
section
noncomputable section
namespace Go.Sy
open Go Go.RowKit
def eA:Blk→Bool
 | .cells _ own _ _ _ _=>own
 | _=>true
section
variable {P:Program} {I:Aux} {B:Nat→Prop} {w0:World} {γ0:Gm} {nt:Nat} {Q:Exit→Act→World→Prop} {g:Cfg}
theorem kA {γ:Gm} {blk:Blk} {p:Nat×Nat} {w:World} (h:eA blk=true) (hbr:BR B γ blk p w):¬ B p.1:=by
 cases blk with
 | cells ty own cl ex lim cs=>exact hbr.1 h
 | map es clock=>exact hbr.1
 | row e xs=>exact hbr.1
theorem aAb (cx:Cx P I B w0) {f:FuncId} (xs:List Value) (F:Nat→Prop) {Pr:World→Value→World→Prop} (h:dR P nt g=some (f,xs.map bW)) (hbod:dJ P f=some true) (hx:∀ γ vs,LR γ (xs.map bW) vs→vs=xs)
  (hown:eL eA g.s.h=true) (hFB:∀ k,F k→B k)
  (hc:∀ w,Keep B w0 w→Calls P f xs.toArray w fun e w'=>∃ r,e = .returned r∧Pr w r w'∧Keep (fun k=>k<w.heap.size∧¬ F k) w w')
  (hg:∀ w r w' B',Keep B w0 w→Pr w r w'→Keep (fun k=>k<w.heap.size∧¬ F k) w w'→Keep (fun k=>B k∧¬ F k) w0 w'→(∀ k,B k→B' k)→(∀ k,w.heap.size≤k→k<w'.heap.size→B' k)→(∀ k,B' k→k<w'.heap.size)→Good P B' w' γ0 nt Q (nx0 g (bW r))):Good P B w0 γ0 nt Q g:=by
 unfold dR at h
 split at h
 · cases h
 rename_i o ho
 refine m7 ho (fun γ a w K QQ hle hf hr hb hdst hdlt hK=>?_)
 have hok:=hf.ok (P:=P) (B:=B) (G:=0) hr.glob o.op.operands.toList
 obtain ⟨fn,code,hfn,hbd⟩:=iX hbod
 obtain ⟨vs,hl,hrun⟩:=rK hok h
 obtain rfl:=hx γ vs hl
 unfold Oper.wp
 rw [hrun,nA cx.hn hfn hbd]
 refine (hc w hb).mono fun e w' hR=>?_
 obtain ⟨r,rfl,h1,h2⟩:=hR
 have hk:Keep (fun k=>B k∧¬ F k) w0 w':=(hb.mono fun k h=>h.1).trans (h2.mono fun k h=>⟨hr.base k h.1,h.2⟩)
 have hnF:∀ b blk p,g.s.h.get b=some blk→γ b=some p→¬ F p.1:=fun b blk p hb1 hp hFp=>by
  obtain ⟨q,hq,hbr⟩:=hr.live b blk hb1
  rw [hp] at hq
  injection hq with hq
  subst hq
  exact kA (iD hown _ _ hb1) hbr (hFB _ hFp)
 have hr':HR B P.globals.size γ g.s.h g.s.c w':=⟨fun b blk hb1=>by
  obtain ⟨p,hp,hbr⟩:=hr.live b blk hb1
  exact ⟨p,hp,hbr.kept (h2.block _ ⟨hbr.lt,hnF b blk p hb1 hp⟩)⟩,hr.inj,hr.fresh,hr.glob,fun k h=>aE (hr.base k h) h2.size⟩
 refine hK _ _ ?_
 have hlt:∀ {b blk k N},g.s.h.get b=some blk→γ b=some (k,N)→k<w.heap.size:=by
  intro b blk k N hb1 hγ
  obtain ⟨p,hp,hbr⟩:=hr.live b blk hb1
  rw [hγ] at hp
  injection hp with hp
  subst hp
  exact hbr.lt
 have hg':=hg w r w' (fun k=>B k∨(k<w'.heap.size∧∀ b blk N,g.s.h.get b=some blk→γ b≠some (k,N))) hb h1 h2 hk (fun k => .inl)
  (fun k h3 h4 => .inr ⟨h4,fun b blk N hb1 hγ=>by have:=hlt hb1 hγ;omega⟩)
  (fun k hkk=>hkk.elim (fun h3=>hr'.base k h3) (fun h3=>h3.1))
 have hB:∀ b blk p,g.s.h.get b=some blk→γ b=some p→¬ B p.1→¬ (B p.1∨(p.1<w'.heap.size∧∀ b blk N,g.s.h.get b=some blk→γ b≠some (p.1,N))):=by
  intro b blk p hb1 hγ hnB hor
  rcases hor with h3 | h3
  · exact hnB h3
  · exact h3.2 b blk p.2 hb1 hγ
 have key1:FR γ nt (nx0 g (bW r)).s.T (nx0 g (bW r)).s.ds (a.put o.dst r):=by
  have hf':=hf.put (dst:=o.dst) (av:=bW r) (v:=r) (T':=dP o.dst g.s.T (bW r)) (Gm.le.refl γ) (eP r) (by
   unfold dK dP
   cases hd:o.dst with
   | none=>rfl
   | some d=>
     have:Nat.blt d nt=true:=Nat.ble_eq_true_of_le (hdlt d hd)
     simp only [this])
  have e:(nx0 g (bW r)).s.T=dP o.dst g.s.T (bW r)∧(nx0 g (bW r)).s.ds=g.s.ds:=by
   rw [← hdst]
   obtain ⟨k,s⟩:=g
   unfold nx0 nx kV dP
   unfold eC at ho
   simp only at ho
   split at ho <;> first | (cases ho;done) | skip
   exact ⟨rfl,rfl⟩
  rw [e.1,e.2]
  exact hf'
 have key2:HR (fun k=>B k∨(k<w'.heap.size∧∀ b blk N,g.s.h.get b=some blk→γ b≠some (k,N))) P.globals.size γ (nx0 g (bW r)).s.h (nx0 g (bW r)).s.c w':=by
  have e:(nx0 g (bW r)).s.h=g.s.h∧(nx0 g (bW r)).s.c=g.s.c:=by
   obtain ⟨k,s⟩:=g
   unfold nx0 nx
   unfold eC at ho
   simp only at ho
   split at ho <;> first | (cases ho;done) | skip
   exact ⟨rfl,rfl⟩
  rw [e.1,e.2]
  refine ⟨fun b blk hb1=>?_,hr'.inj,hr'.fresh,hr'.glob,fun k hkk=>hkk.elim (fun h3=>hr'.base k h3) (fun h3=>h3.1)⟩
  obtain ⟨p,hp,hbr⟩:=hr'.live b blk hb1
  refine ⟨p,hp,?_⟩
  have hBp:=hB b blk p hb1 hp
  cases blk with
  | cells ty own clean ex lim cs=>
    obtain ⟨h0,h5⟩:=hbr
    exact ⟨fun ho=>hBp (h0 ho),h5⟩
  | map es clock=>
    obtain ⟨h0,h5⟩:=hbr
    exact ⟨hBp h0,h5⟩
  | row e xs=>
    obtain ⟨h0,h5⟩:=hbr
    exact ⟨hBp h0,h5⟩
 have hfin:=hg'.out γ (a.put o.dst r) w' hle key1 key2 (Keep.refl _ _)
 have e:(nx0 g (bW r)).k=iM g:=by
  obtain ⟨k,s⟩:=g
  unfold nx0 nx iM
  unfold eC at ho
  simp only at ho
  split at ho <;> first | (cases ho;done) | skip
  rfl
 rw [e] at hfin
 exact hfin
theorem pF (cx:Cx P I B w0) {f:FuncId} (xs:List Value) (F:Nat→Prop) {Pr:World→Value→World→Prop} (h:dR P nt g=some (f,xs.map bW)) (hbod:dJ P f=some true) (hx:d8 (xs.map bW)=some xs)
  (hown:eL eA g.s.h=true) (hFB:∀ k,F k→B k)
  (hc:∀ w,Keep B w0 w→Calls P f xs.toArray w fun e w'=>∃ r,e = .returned r∧Pr w r w'∧Keep (fun k=>k<w.heap.size∧¬ F k) w w')
  (hg:∀ w r w' B',Keep B w0 w→Pr w r w'→Keep (fun k=>k<w.heap.size∧¬ F k) w w'→Keep (fun k=>B k∧¬ F k) w0 w'→(∀ k,B k→B' k)→(∀ k,w.heap.size≤k→k<w'.heap.size→B' k)→(∀ k,B' k→k<w'.heap.size)→Good P B' w' γ0 nt Q (nx0 g (bW r))):Good P B w0 γ0 nt Q g:=
 aAb cx xs F h hbod (fun γ vs hl=>eY hx hl) hown hFB hc hg
def s7 (P:Program) (nt:Nat) (g:Cfg):Option (TypeId×AV×AV):=match eC P nt g with
 | none=>none
 | some o=>match o.op with
   | .store t x y=>match aev P g.s.T x,aev P g.s.T y with
     | some a,some b=>some (t,a,b)
     | _,_=>none
   | _=>none
theorem eU (t:TypeId) (x y:Value) (F:Nat→Prop) {Pr:World→World→Prop} (h:s7 P nt g=some (t,.v x,.v y)) (hown:eL eA g.s.h=true) (hFB:∀ k,F k→B k)
  (hc:∀ w,Keep B w0 w→∃ w',(Instr.storeAt t x y).run P w = .ok () w'∧Pr w w'∧Keep (fun k=>k<w.heap.size∧¬ F k) w w')
  (hg:∀ w w' B',Keep B w0 w→Pr w w'→Keep (fun k=>k<w.heap.size∧¬ F k) w w'→Keep (fun k=>B k∧¬ F k) w0 w'→(∀ k,B k→B' k)→(∀ k,B' k→k<w'.heap.size)→Good P B' w' γ0 nt Q (nx0 g (bW undef))):Good P B w0 γ0 nt Q g:=by
 have hg:∀ w r w' B',Keep B w0 w→r=undef∧Pr w w'→Keep (fun k=>k<w.heap.size∧¬ F k) w w'→Keep (fun k=>B k∧¬ F k) w0 w'→(∀ k,B k→B' k)→(∀ k,w.heap.size≤k→k<w'.heap.size→B' k)→(∀ k,B' k→k<w'.heap.size)→Good P B' w' γ0 nt Q (nx0 g (bW r)):=
  fun w r w' B' h1 h2 h3 h4 h5 _ h7=>by rw [h2.1];exact hg w w' B' h1 h2.2 h3 h4 h5 h7
 unfold s7 at h
 split at h
 · cases h
 rename_i o ho
 split at h <;> first | (cases h;done) | skip
 rename_i t' x1 y1 hop
 split at h <;> first | (cases h;done) | skip
 rename_i aS aX hs hx
 injection h with h
 injection h with e1 h
 injection h with e2 e3
 subst e1 e2 e3
 refine m7 ho (fun γ a w K QQ hle hf hr hb hdst hdlt hK=>?_)
 have hok:=hf.ok (P:=P) (B:=B) (G:=0) hr.glob o.op.operands.toList
 have hmem:o.op.operands.toList=[x1,y1]:=by rw [hop];simp [Op.operands]
 have hs':=hok x1 (by simp [hmem]) _ hs
 have hx':=hok y1 (by simp [hmem]) _ hx
 have es:a.eval x1=x:=by generalize a.eval x1=q at hs';cases hs';rfl
 have ex:a.eval y1=y:=by generalize a.eval y1=q at hx';cases hx';rfl
 obtain ⟨w',hrun,h1',h2⟩:=hc w hb
 obtain ⟨r,hr0⟩:∃ r,r=undef:=⟨_,rfl⟩
 have h1:r=undef∧Pr w w':=⟨hr0,h1'⟩
 have hopr:(execOp a.eval o).run P w = .ok .skip w':=by
  unfold execOp
  simp only [hop,es,ex,Sem.run_bind,Sem.run_pure,Result.andThen_ok,hrun]
 refine qZ hopr ?_
 rw [← hr0]
 have hk:Keep (fun k=>B k∧¬ F k) w0 w':=(hb.mono fun k h=>h.1).trans (h2.mono fun k h=>⟨hr.base k h.1,h.2⟩)
 have hnF:∀ b blk p,g.s.h.get b=some blk→γ b=some p→¬ F p.1:=fun b blk p hb1 hp hFp=>by
  obtain ⟨q,hq,hbr⟩:=hr.live b blk hb1
  rw [hp] at hq
  injection hq with hq
  subst hq
  exact kA (iD hown _ _ hb1) hbr (hFB _ hFp)
 have hr':HR B P.globals.size γ g.s.h g.s.c w':=⟨fun b blk hb1=>by
  obtain ⟨p,hp,hbr⟩:=hr.live b blk hb1
  exact ⟨p,hp,hbr.kept (h2.block _ ⟨hbr.lt,hnF b blk p hb1 hp⟩)⟩,hr.inj,hr.fresh,hr.glob,fun k h=>aE (hr.base k h) h2.size⟩
 refine hK _ _ ?_
 have hlt:∀ {b blk k N},g.s.h.get b=some blk→γ b=some (k,N)→k<w.heap.size:=by
  intro b blk k N hb1 hγ
  obtain ⟨p,hp,hbr⟩:=hr.live b blk hb1
  rw [hγ] at hp
  injection hp with hp
  subst hp
  exact hbr.lt
 have hg':=hg w r w' (fun k=>B k∨(k<w'.heap.size∧∀ b blk N,g.s.h.get b=some blk→γ b≠some (k,N))) hb h1 h2 hk (fun k => .inl)
  (fun k h3 h4 => .inr ⟨h4,fun b blk N hb1 hγ=>by have:=hlt hb1 hγ;omega⟩)
  (fun k hkk=>hkk.elim (fun h3=>hr'.base k h3) (fun h3=>h3.1))
 have hB:∀ b blk p,g.s.h.get b=some blk→γ b=some p→¬ B p.1→¬ (B p.1∨(p.1<w'.heap.size∧∀ b blk N,g.s.h.get b=some blk→γ b≠some (p.1,N))):=by
  intro b blk p hb1 hγ hnB hor
  rcases hor with h3 | h3
  · exact hnB h3
  · exact h3.2 b blk p.2 hb1 hγ
 have key1:FR γ nt (nx0 g (bW r)).s.T (nx0 g (bW r)).s.ds (a.put o.dst r):=by
  have hf':=hf.put (dst:=o.dst) (av:=bW r) (v:=r) (T':=dP o.dst g.s.T (bW r)) (Gm.le.refl γ) (eP r) (by
   unfold dK dP
   cases hd:o.dst with
   | none=>rfl
   | some d=>
     have:Nat.blt d nt=true:=Nat.ble_eq_true_of_le (hdlt d hd)
     simp only [this])
  have e:(nx0 g (bW r)).s.T=dP o.dst g.s.T (bW r)∧(nx0 g (bW r)).s.ds=g.s.ds:=by
   rw [← hdst]
   obtain ⟨k,s⟩:=g
   unfold nx0 nx kV dP
   unfold eC at ho
   simp only at ho
   split at ho <;> first | (cases ho;done) | skip
   exact ⟨rfl,rfl⟩
  rw [e.1,e.2]
  exact hf'
 have key2:HR (fun k=>B k∨(k<w'.heap.size∧∀ b blk N,g.s.h.get b=some blk→γ b≠some (k,N))) P.globals.size γ (nx0 g (bW r)).s.h (nx0 g (bW r)).s.c w':=by
  have e:(nx0 g (bW r)).s.h=g.s.h∧(nx0 g (bW r)).s.c=g.s.c:=by
   obtain ⟨k,s⟩:=g
   unfold nx0 nx
   unfold eC at ho
   simp only at ho
   split at ho <;> first | (cases ho;done) | skip
   exact ⟨rfl,rfl⟩
  rw [e.1,e.2]
  refine ⟨fun b blk hb1=>?_,hr'.inj,hr'.fresh,hr'.glob,fun k hkk=>hkk.elim (fun h3=>hr'.base k h3) (fun h3=>h3.1)⟩
  obtain ⟨p,hp,hbr⟩:=hr'.live b blk hb1
  refine ⟨p,hp,?_⟩
  have hBp:=hB b blk p hb1 hp
  cases blk with
  | cells ty own clean ex lim cs=>
    obtain ⟨h0,h5⟩:=hbr
    exact ⟨fun ho=>hBp (h0 ho),h5⟩
  | map es clock=>
    obtain ⟨h0,h5⟩:=hbr
    exact ⟨hBp h0,h5⟩
  | row e xs=>
    obtain ⟨h0,h5⟩:=hbr
    exact ⟨hBp h0,h5⟩
 have hfin:=hg'.out γ (a.put o.dst r) w' hle key1 key2 (Keep.refl _ _)
 have e:(nx0 g (bW r)).k=iM g:=by
  obtain ⟨k,s⟩:=g
  unfold nx0 nx iM
  unfold eC at ho
  simp only at ho
  split at ho <;> first | (cases ho;done) | skip
  rfl
 rw [e] at hfin
 exact hfin
end
end Go.Sy
end
end
section
noncomputable section
namespace Go.Sy
open Go Go.RowKit
section
variable {P:Program} {I:Aux} {B:Nat→Prop} {w0:World} {γ0:Gm} {nt:Nat} {Q:Exit→Act→World→Prop} {g:Cfg}
theorem aVk {o:Oper} (ho:eC P nt g=some o) (F:Nat→Prop) (hown:eL eA g.s.h=true) (hFB:∀ k,F k→B k) {γ:Gm} {a:Act} {w w':World} {r:Value}
  (hle:Gm.le γ0 γ) (hf:FR γ nt g.s.T g.s.ds a) (hr:HR B P.globals.size γ g.s.h g.s.c w) (hb:Keep B w0 w) (hdst:kV g=o.dst) (hdlt:∀ d,o.dst=some d→d<nt) (h2:Keep (fun k=>k<w.heap.size∧¬ F k) w w')
  (hg:∀ B',Keep (fun k=>B k∧¬ F k) w0 w'→(∀ k,B k→B' k)→(∀ k,w.heap.size≤k→k<w'.heap.size→B' k)→(∀ k,B' k→k<w'.heap.size)→Good P B' w' γ0 nt Q (nx0 g (bW r))):
  after P Q (iM g) .normal (a.put o.dst r) w':=by
 have hk:Keep (fun k=>B k∧¬ F k) w0 w':=(hb.mono fun k h=>h.1).trans (h2.mono fun k h=>⟨hr.base k h.1,h.2⟩)
 have hnF:∀ b blk p,g.s.h.get b=some blk→γ b=some p→¬ F p.1:=fun b blk p hb1 hp hFp=>by
  obtain ⟨q,hq,hbr⟩:=hr.live b blk hb1
  rw [hp] at hq
  injection hq with hq
  subst hq
  exact kA (iD hown _ _ hb1) hbr (hFB _ hFp)
 have hr':HR B P.globals.size γ g.s.h g.s.c w':=⟨fun b blk hb1=>by
  obtain ⟨p,hp,hbr⟩:=hr.live b blk hb1
  exact ⟨p,hp,hbr.kept (h2.block _ ⟨hbr.lt,hnF b blk p hb1 hp⟩)⟩,hr.inj,hr.fresh,hr.glob,fun k h=>aE (hr.base k h) h2.size⟩
 have hlt:∀ {b blk k N},g.s.h.get b=some blk→γ b=some (k,N)→k<w.heap.size:=by
  intro b blk k N hb1 hγ
  obtain ⟨p,hp,hbr⟩:=hr.live b blk hb1
  rw [hγ] at hp
  injection hp with hp
  subst hp
  exact hbr.lt
 have hg':=hg (fun k=>B k∨(k<w'.heap.size∧∀ b blk N,g.s.h.get b=some blk→γ b≠some (k,N))) hk (fun k => .inl)
  (fun k h3 h4 => .inr ⟨h4,fun b blk N hb1 hγ=>by have:=hlt hb1 hγ;omega⟩)
  (fun k hkk=>hkk.elim (fun h3=>hr'.base k h3) (fun h3=>h3.1))
 have hB:∀ b blk p,g.s.h.get b=some blk→γ b=some p→¬ B p.1→¬ (B p.1∨(p.1<w'.heap.size∧∀ b blk N,g.s.h.get b=some blk→γ b≠some (p.1,N))):=by
  intro b blk p hb1 hγ hnB hor
  rcases hor with h3 | h3
  · exact hnB h3
  · exact h3.2 b blk p.2 hb1 hγ
 have key1:FR γ nt (nx0 g (bW r)).s.T (nx0 g (bW r)).s.ds (a.put o.dst r):=by
  have hf':=hf.put (dst:=o.dst) (av:=bW r) (v:=r) (T':=dP o.dst g.s.T (bW r)) (Gm.le.refl γ) (eP r) (by
   unfold dK dP
   cases hd:o.dst with
   | none=>rfl
   | some d=>
     have:Nat.blt d nt=true:=Nat.ble_eq_true_of_le (hdlt d hd)
     simp only [this])
  have e:(nx0 g (bW r)).s.T=dP o.dst g.s.T (bW r)∧(nx0 g (bW r)).s.ds=g.s.ds:=by
   rw [← hdst]
   obtain ⟨k,s⟩:=g
   unfold nx0 nx kV dP
   unfold eC at ho
   simp only at ho
   split at ho <;> first | (cases ho;done) | skip
   exact ⟨rfl,rfl⟩
  rw [e.1,e.2]
  exact hf'
 have key2:HR (fun k=>B k∨(k<w'.heap.size∧∀ b blk N,g.s.h.get b=some blk→γ b≠some (k,N))) P.globals.size γ (nx0 g (bW r)).s.h (nx0 g (bW r)).s.c w':=by
  have e:(nx0 g (bW r)).s.h=g.s.h∧(nx0 g (bW r)).s.c=g.s.c:=by
   obtain ⟨k,s⟩:=g
   unfold nx0 nx
   unfold eC at ho
   simp only at ho
   split at ho <;> first | (cases ho;done) | skip
   exact ⟨rfl,rfl⟩
  rw [e.1,e.2]
  refine ⟨fun b blk hb1=>?_,hr'.inj,hr'.fresh,hr'.glob,fun k hkk=>hkk.elim (fun h3=>hr'.base k h3) (fun h3=>h3.1)⟩
  obtain ⟨p,hp,hbr⟩:=hr'.live b blk hb1
  refine ⟨p,hp,?_⟩
  have hBp:=hB b blk p hb1 hp
  cases blk with
  | cells ty own clean ex lim cs=>
    obtain ⟨h0,h5⟩:=hbr
    exact ⟨fun ho=>hBp (h0 ho),h5⟩
  | map es clock=>
    obtain ⟨h0,h5⟩:=hbr
    exact ⟨hBp h0,h5⟩
  | row e xs=>
    obtain ⟨h0,h5⟩:=hbr
    exact ⟨hBp h0,h5⟩
 have hfin:=hg'.out γ (a.put o.dst r) w' hle key1 key2 (Keep.refl _ _)
 have e:(nx0 g (bW r)).k=iM g:=by
  obtain ⟨k,s⟩:=g
  unfold nx0 nx iM
  unfold eC at ho
  simp only at ho
  split at ho <;> first | (cases ho;done) | skip
  rfl
 rw [e] at hfin
 exact hfin
def aVh (P:Program) (nt:Nat) (g:Cfg):Option (Builtin×List TypeId×List AV):=match eC P nt g with
 | none=>none
 | some o=>match o.op with
   | .call k=>match k.callee with
     | .builtin b=>match kT P g.s.T k.args.toList with
       | some l=>some (b,k.argTypes.toList,l)
       | none=>none
     | _=>none
   | _=>none
theorem aKb {γ:Gm}:∀ {xs vs:List Value},LR γ (xs.map AV.v) vs→vs=xs
 | [],vs,h=>aF (by have:=h.1;simpa using this.symm)
 | x::xs,vs,h=>by
   cases vs with
   | nil=>have:=h.1;simp at this
   | cons v vs=>
     have h0:=h.2 0 (.v x) v rfl rfl
     have ht:LR γ (xs.map AV.v) vs:=⟨by have:=h.1;simpa using this,fun i b y h1 h2=>h.2 (i+1) b y (by simpa using h1) (by simpa using h2)⟩
     rw [aKb ht]
     cases h0
     rfl
theorem aQs (b:Builtin) (ts:List TypeId) (xs:List Value) (F:Nat→Prop) {Pr:World→Value→World→Prop} (h:aVh P nt g=some (b,ts,xs.map AV.v)) (hown:eL eA g.s.h=true) (hFB:∀ k,F k→B k)
  (hc:∀ w,Keep B w0 w→(∀ k,B k→k<w.heap.size)→∀ ty cs,∃ r w',(builtin b ts.toArray ty cs xs.toArray).run P w = .ok (.value r) w'∧Pr w r w'∧Keep (fun k=>k<w.heap.size∧¬ F k) w w')
  (hg:∀ w r w' B',Keep B w0 w→Pr w r w'→Keep (fun k=>k<w.heap.size∧¬ F k) w w'→Keep (fun k=>B k∧¬ F k) w0 w'→(∀ k,B k→B' k)→(∀ k,w.heap.size≤k→k<w'.heap.size→B' k)→(∀ k,B' k→k<w'.heap.size)→Good P B' w' γ0 nt Q (nx0 g (bW r))):Good P B w0 γ0 nt Q g:=by
 unfold aVh at h
 split at h
 · cases h
 rename_i o ho
 split at h <;> first | (cases h;done) | skip
 rename_i kk hop
 split at h <;> first | (cases h;done) | skip
 rename_i b' hce
 split at h <;> first | (cases h;done) | skip
 rename_i l hl
 injection h with h
 injection h with e1 h
 injection h with e2 e3
 subst e1 e2 e3
 refine m7 ho (fun γ a w K QQ hle hf hr hb hdst hdlt hK=>?_)
 have hok:=hf.ok (P:=P) (B:=B) (G:=0) hr.glob o.op.operands.toList
 have hlv:=jD (a:=a) (fun y hy=>hok y (by rw [hop];simp only [Op.operands,Call.operands,hce];simpa using hy)) hl
 have hvs:=aKb hlv
 obtain ⟨r,w',hrun,h1,h2⟩:=hc w hb hr.base o.type (kk.args.map fun | .const _=>true | _=>false)
 have hopr:(execOp a.eval o).run P w = .ok (.value r) w':=by
  unfold execOp
  have e:kk.args.map a.eval=xs.toArray:=by
   apply Array.ext'
   simpa using hvs
  have hts:kk.argTypes.toList.toArray=kk.argTypes:=by simp
  rw [hts] at hrun
  simp only [hop,resolve,hce,invoke,Sem.run_bind,Sem.run_pure,Result.andThen_ok,e]
  exact hrun
 refine dM hopr (hK _ _ ?_)
 exact aVk ho F hown hFB hle hf hr hb hdst hdlt h2 (fun B' h3 h4 h5 h6=>hg w r w' B' hb h1 h2 h3 h4 h5 h6)
def aCf (cs:Tr AV):Nat→Nat→Option (List Value)
 | _,0=>some []
 | i,n+1=>match cs.get i with
   | some a=>match a.close with
     | some x=>match aCf cs (i+1) n with
       | some r=>some (x::r)
       | none=>none
     | none=>none
   | none=>none
theorem wQ {cs:Tr AV}:∀ {n i:Nat} {vals:List Value},aCf cs i n=some vals→vals.length=n∧∀ j x,vals[j]?=some x→∃ a:AV,cs.get (i+j)=some a∧a.close=some x
 | 0,i,vals,h=>by
   simp only [aCf,Option.some.injEq] at h
   subst h
   exact ⟨rfl,fun j x hx=>by simp at hx⟩
 | n+1,i,vals,h=>by
   simp only [aCf] at h
   split at h <;> first | (cases h;done) | skip
   rename_i a ha
   split at h <;> first | (cases h;done) | skip
   rename_i x hx
   split at h <;> first | (cases h;done) | skip
   rename_i r hr
   injection h with h
   subst h
   obtain ⟨h1,h2⟩:=wQ hr
   refine ⟨by simp [h1],fun j y hy=>?_⟩
   cases j with
   | zero=>
     simp at hy
     subst hy
     exact ⟨a,ha,hx⟩
   | succ j=>
     have:=h2 j y (by simpa using hy)
     rw [show i+(j+1)=i+1+j by omega]
     exact this
def aC2:Option Blk→Option (Nat×List Value)
 | some (.cells ty true true true lim cs)=>match aCf cs 0 lim with
   | some r=>some (ty,r)
   | none=>none
 | _=>none
theorem aOb (t b:Nat) (ty:Nat) (vals:List Value) (h:g.s.T.get t=some (.ptr b 0)) (hb:aC2 (g.s.h.get b)=some (ty,vals))
  (hg:∀ k w1 B1,Keep B w0 w1→(∀ j,B j→B1 j)→B1 k→¬ B k→(∀ j,B1 j→j<w1.heap.size)→w1.heap[k]?=some (.cells vals.toArray ty (0,0))→
   Good P B1 w1 γ0 nt Q ⟨g.k,⟨g.s.T.put t (some (.v (.pointer (some ⟨k,0,none⟩)))),g.s.h.put b none,g.s.c,g.s.ds⟩⟩):Good P B w0 γ0 nt Q g:=by
 unfold aC2 at hb
 split at hb <;> first | (cases hb;done) | skip
 rename_i ty1 lim cs hb1
 split at hb <;> first | (cases hb;done) | skip
 rename_i r hget
 injection hb with hb
 injection hb with e1 e2
 subst e1 e2
 obtain ⟨hlen,hcell⟩:=wQ hget
 refine ⟨fun γ a w hle hf hr hk=>?_⟩
 obtain ⟨p,hp,hbr⟩:=hr.live b _ hb1
 obtain ⟨h0,c,ty',fz,h1,h2,h3,h4⟩:=hbr
 obtain ⟨v,hv1,hv2⟩:=hf.tmps _ _ h
 obtain ⟨n,N,rfl,hγ⟩:∃ n N,v = .pointer (some ⟨n,0,none⟩)∧γ b=some (n,N):=by
  cases hv2 with
  | ptr h=>exact ⟨_,_,rfl,h⟩
 rw [hγ] at hp
 injection hp with hp
 subst hp
 obtain ⟨hfz,hty⟩:=h3.1 rfl
 have hsz:=(h3.2 rfl).1
 subst hfz hty
 have hnB:=h0 rfl
 have hlt:n<w.heap.size:=(Array.getElem?_eq_some_iff.1 h1).1
 have hc:c=r.toArray:=by
  apply Array.ext'
  apply List.ext_getElem?
  intro i
  rcases aY i r.length with hi | hi
  · have e1:r[i]?=some r[i]:=aO hi
    obtain ⟨a1,e2,e3⟩:=hcell i r[i] e1
    rw [bH] at e2
    obtain ⟨x,hx1,hx2⟩:=h4 i _ (by omega) e2
    have e4:=jY e3 hx2
    subst e4
    rw [e1]
    simpa using hx1
  · have e1:c.toList.length=c.size:=Array.length_toList
    rw [List.getElem?_eq_none hi,List.getElem?_eq_none (by omega)]
 subst hc
 refine (hg n w (fun j=>B j∨j=n) hk (fun j => .inl) (.inr rfl) hnB (fun j hj=>hj.elim (fun h=>hr.base j h) (fun e=>by subst e;exact hlt)) h1).out γ a w hle ⟨hf.size,fun t' av ht=>?_,hf.defs⟩ ⟨fun b2 blk2 hb2=>?_,fun b2 b3 blk2 blk3 p2 p3 h5 h6 g1 g2 e=>?_,hr.fresh,hr.glob,fun j hj=>hj.elim (fun h=>hr.base j h) (fun e=>by subst e;exact hlt)⟩ (Keep.refl _ _)
 · simp only at ht
   rw [Tr.get_put] at ht
   split at ht
   · rename_i e
     subst e
     injection ht with ht
     subst ht
     exact ⟨_,hv1,.v _⟩
   · exact hf.tmps t' av ht
 · simp only at hb2
   rw [Tr.get_put] at hb2
   split at hb2
   · cases hb2
   rename_i hne
   obtain ⟨q,hq,hbr2⟩:=hr.live b2 blk2 hb2
   have hne2:q.1≠n:=fun e=>hne (hr.inj _ _ _ _ _ _ hb2 hb1 hq hγ e)
   have key:¬ B q.1→¬ (B q.1∨q.1=n):=fun h1 h2=>h2.elim h1 hne2
   refine ⟨q,hq,?_⟩
   cases blk2 with
   | cells ty own cl ex lim cs=>exact ⟨fun e=>key (hbr2.1 e),hbr2.2⟩
   | map es clock=>exact ⟨key hbr2.1,hbr2.2⟩
   | row e xs=>exact ⟨key hbr2.1,hbr2.2⟩
 · simp only at h5 h6
   rw [Tr.get_put] at h5 h6
   split at h5
   · cases h5
   split at h6
   · cases h6
   exact hr.inj _ _ _ _ _ _ h5 h6 g1 g2 e
theorem aL2 (cx:Cx P I B w0) {f:FuncId} (xs:List Value) (Pr:Value→Prop) (h:dR P nt g=some (f,xs.map bW)) (hbod:dJ P f=some true) (hx:d8 (xs.map bW)=some xs)
  (hc:∀ w,Keep B w0 w→Calls P f xs.toArray w fun e w'=>∃ r,e = .returned r∧Pr r∧Below w.heap.size w w')
  (hg:∀ r w',Pr r→Keep B w0 w'→Good P B w0 γ0 nt Q (nx0 g (bW r))):Good P B w0 γ0 nt Q g:=
 uY cx xs (Pr:=fun r _=>Pr r) h hbod (fun γ vs hl=>eY hx hl) hc hg
theorem uO {γ:Gm} {fa:Value→AV} (hfa:∀ x y,VR γ (fa x) y→y=x) {l:List Value} {vs:Array Value} (hl:(l.map fa).length=vs.size) (h:∀ (i:Nat) (a:AV) (x:Value),(l.map fa)[i]?=some a→vs[i]?=some x→VR γ a x):vs=l.toArray:=by
 apply Array.ext'
 apply List.ext_getElem?
 intro i
 simp only [List.length_map] at hl
 rcases aY i l.length with hi | hi
 · have h1:(l.map fa)[i]?=some (fa l[i]):=by simp [aO hi]
   have h2:vs[i]?=some vs[i]:=Array.getElem?_eq_getElem (by omega)
   have:=hfa _ _ (h i _ _ h1 h2)
   simp only [aO hi]
   rw [← this]
   simp
 · have e1:vs.toList.length=vs.size:=Array.length_toList
   rw [List.getElem?_eq_none (by omega),List.getElem?_eq_none (by simp;exact hi)]
theorem aGu {γ:Gm} (x y:Value) (h:VR γ (.v x) y):y=x:=by cases h;rfl
theorem mL {γ:Gm} (x y:Value) (h:VR γ (iN x) y):y=x:=by
 cases x <;> first | exact aGu _ _ h | skip
 rename_i cs
 generalize hg:iN (.agg cs)=a at h
 have hg:a = .agg (cs.toList.map .v):=hg.symm
 subst hg
 cases h with
 | agg hl hh=>exact congrArg Value.agg (by have:=uO (fa:=AV.v) (fun x y=>aGu x y) hl hh;simpa using this)
theorem aMy {γ:Gm} (x y:Value) (h:VR γ (bW x) y):y=x:=by
 cases x with
 | tuple vs=>
   generalize hg:bW (.tuple vs)=a at h
   have hg:a = .tup (vs.toList.map iN):=hg.symm
   subst hg
   cases h with
   | tup hl hh=>exact congrArg Value.tuple (by have:=uO (fun x y=>mL (γ:=γ) x y) hl hh;simpa using this)
 | iface t x=>
   generalize hg:bW (.iface t x)=a at h
   have hg:a = .ifc t (iN x):=hg.symm
   subst hg
   cases h with
   | ifc h=>exact congrArg (Value.iface t) (mL _ _ h)
 | func f a b=>
   generalize hg:bW (.func f a b)=av at h
   have hg:av = .fn f (a.toList.map iN) (b.toList.map iN):=hg.symm
   subst hg
   cases h with
   | fn hl hh hl' hh'=>
     have e1:=uO (fun x y=>mL (γ:=γ) x y) hl hh
     have e2:=uO (fun x y=>mL (γ:=γ) x y) hl' hh'
     simp only [Array.toArray_toList] at e1 e2
     rw [e1,e2]
 | agg cs=>exact mL _ _ h
 | _=>exact aGu _ _ h
theorem t7 {γ:Gm}:∀ {xs vs:List Value},LR γ (xs.map bW) vs→vs=xs
 | [],vs,h=>aF (by have:=h.1;simpa using this.symm)
 | x::xs,vs,h=>by
   cases vs with
   | nil=>have:=h.1;simp at this
   | cons v vs=>
     have h0:=h.2 0 (bW x) v rfl rfl
     have ht:LR γ (xs.map bW) vs:=⟨by have:=h.1;simpa using this,fun i b y h1 h2=>h.2 (i+1) b y (by simpa using h1) (by simpa using h2)⟩
     rw [t7 ht,aMy _ _ h0]
theorem aLu (cx:Cx P I B w0) {f:FuncId} (xs:List Value) (Pr:Value→Prop) (h:dR P nt g=some (f,xs.map bW)) (hbod:dJ P f=some true)
  (hc:∀ w,Keep B w0 w→Calls P f xs.toArray w fun e w'=>∃ r,e = .returned r∧Pr r∧Below w.heap.size w w')
  (hg:∀ r w',Pr r→Keep B w0 w'→Good P B w0 γ0 nt Q (nx0 g (bW r))):Good P B w0 γ0 nt Q g:=
 uY cx xs (Pr:=fun r _=>Pr r) h hbod (fun γ vs hl=>t7 hl) hc hg
end
end Go.Sy
end
end
section
noncomputable section
namespace Go.Sy
open Go Go.RowKit
section
variable {P:Program} {I:Aux} {B:Nat→Prop} {w0:World} {γ0:Gm} {nt:Nat} {Q:Exit→Act→World→Prop} {g:Cfg}
theorem aH7 (cx:Cx P I B w0) {f:FuncId} (xs:List Value) (F:Nat→Prop) {Pr:World→Value→World→Prop} (h:dR P nt g=some (f,xs.map bW)) (hbod:dJ P f=some true)
  (hown:eL eA g.s.h=true) (hFB:∀ k,F k→B k)
  (hc:∀ w,Keep B w0 w→Calls P f xs.toArray w fun e w'=>∃ r,e = .returned r∧Pr w r w'∧Keep (fun k=>k<w.heap.size∧¬ F k) w w')
  (hg:∀ w r w' B',Keep B w0 w→Pr w r w'→Keep (fun k=>k<w.heap.size∧¬ F k) w w'→Keep (fun k=>B k∧¬ F k) w0 w'→(∀ k,B k→B' k)→(∀ k,w.heap.size≤k→k<w'.heap.size→B' k)→(∀ k,B' k→k<w'.heap.size)→Good P B' w' γ0 nt Q (nx0 g (bW r))):Good P B w0 γ0 nt Q g:=
 aAb cx xs F h hbod (fun γ vs hl=>t7 hl) hown hFB hc hg
end
end Go.Sy
end
end
section
noncomputable section
namespace Go.Sy
open Go Go.RowKit
def aFv (g:Cfg):List It:=match g.k with
 | .ops _ _::k=>k
 | _=>[]
section
variable {P:Program} {I:Aux} {B:Nat→Prop} {w0:World} {γ0:Gm} {nt:Nat} {Q:Exit→Act→World→Prop} {g:Cfg}
structure GoodP (P:Program) (B:Nat→Prop) (w0:World) (γ0:Gm) (nt:Nat) (Q:Exit→Act→World→Prop) (g:Cfg) (av:AV):Prop where
 out:∀ γ a w v,Gm.le γ0 γ→FR γ nt g.s.T g.s.ds a→VR γ av v→HR B P.globals.size γ g.s.h g.s.c w→Keep B w0 w→after P Q g.k (.panic [{ v:=v,recovered:=false }]) a w
theorem iC {ch:List PanicEntry} {w:World} (hq:∀ a:Act,a.defers=[]→Q (.panic ch) a w):∀ {k:List It} {a:Act},a.defers=[]→after P Q k (.panic ch) a w
 | [],a,h=>hq a h
 | .code _::k,a,h=>iC (k:=k) hq h
 | .ops _ _::k,a,h=>iC (k:=k) hq h
 | .blk _::k,a,h=>iC (k:=k) hq h
 | .lp _::k,a,h=>iC (k:=k) hq h
 | .sc::k,a,h=>iC (k:=k) hq h
 | .np::k,a,h=>⟨h,fun a' h'=>iC (k:=k) hq h'⟩
 | .pl _ _ _::k,a,h=>⟨h,fun a' h'=>iC (k:=k) hq h'⟩
def aBa:List It→Bool
 | []=>true
 | .np::_=>false
 | .pl _ _ _::_=>false
 | .code _::k=>aBa k
 | .ops _ _::k=>aBa k
 | .blk _::k=>aBa k
 | .lp _::k=>aBa k
 | .sc::k=>aBa k
theorem jG {ch:List PanicEntry} {w:World} {a:Act} (hq:Q (.panic ch) a w):∀ {k:List It},aBa k=true→after P Q k (.panic ch) a w
 | [],h=>hq
 | .code _::k,h=>jG (k:=k) hq h
 | .ops _ _::k,h=>jG (k:=k) hq h
 | .blk _::k,h=>jG (k:=k) hq h
 | .lp _::k,h=>jG (k:=k) hq h
 | .sc::k,h=>jG (k:=k) hq h
 | .np::k,h=>by cases h
 | .pl _ _ _::k,h=>by cases h
theorem aMz {fn:Func} {R:Ending→World→Prop} {av:AV} (h:g.s.ds=[])
  (hR:∀ γ w v,Gm.le γ0 γ→VR γ av v→HR B P.globals.size γ g.s.h g.s.c w→Keep B w0 w→R (.panicked [{ v:=v,recovered:=false }]) w):GoodP P B w0 γ0 nt (bodyPostD P fn R) g av:=
 ⟨fun γ a w v hle hf hv hr hb=>iC (fun a' h'=>by
  show Leaves P fn a'.tmps R a'.defers _ w
  rw [h']
  exact hR γ w v hle hv hr hb) (tC (h ▸ hf.defs))⟩
def aH0:AV→Option Value
 | .ifc t a=>match tU a with
   | some x=>some (.iface t x)
   | none=>none
 | a=>tU a
theorem aOz {γ:Gm} {av:AV} {x v:Value} (h:aH0 av=some x) (hv:VR γ av v):v=x:=by
 unfold aH0 at h
 split at h
 · split at h <;> first | (cases h;done) | skip
   rename_i t a y hy
   injection h with h
   subst h
   cases hv with
   | ifc h1=>rw [mC hy h1]
 · exact mC h hv
theorem mM {fn:Func} {R:Ending→World→Prop} {av:AV} (x:Value) (hx:aH0 av=some x) (h:g.s.ds=[])
  (hR:∀ w,Keep B w0 w→R (.panicked [{ v:=x,recovered:=false }]) w):GoodP P B w0 γ0 nt (bodyPostD P fn R) g av:=
 aMz h (fun γ w v _ hv _ hb=>by rw [aOz hx hv];exact hR w hb)
def lvP (P:Program) (I:Aux) (m:Nat) (fn:Func) (g:Cfg) (av:AV):R1:=iF P (ev P I m) fn g.s.T g.s.ds (.pan av) g.s.h g.s.c
def lvN (P:Program) (I:Aux) (m:Nat) (fn:Func) (g:Cfg):R1:=iF P (ev P I m) fn g.s.T g.s.ds .ret g.s.h g.s.c
def aMa:R1→Bool
 | .val _ _ _=>true
 | _=>false
def aLy:R1→AV
 | .val a _ _=>a
 | _ => .tup []
def aQo:R1→Hp
 | .val _ h _=>h
 | _ => .leaf
def aQa:R1→Nat
 | .val _ _ c=>c
 | _=>0
theorem aHk {r:R1} (h:aMa r=true):r = .val (aLy r) (aQo r) (aQa r):=by cases r <;> first | rfl | cases h
theorem aG8 (cx:Cx P I B w0) (m:Nat) {fn:Func} {R:Ending→World→Prop} {av:AV} (hk:aBa g.k=true) (h:aMa (lvP P I m fn g av)=true)
  (hR:∀ γ w v,Gm.le γ0 γ→VR γ (aLy (lvP P I m fn g av)) v→HR B P.globals.size γ (aQo (lvP P I m fn g av)) (aQa (lvP P I m fn g av)) w→Keep B w0 w→R (.returned v) w):GoodP P B w0 γ0 nt (bodyPostD P fn R) g av:=
 ⟨fun γ a w v hle hf hv hr hb=>jG (by
  show Leaves P fn a.tmps R a.defers _ w
  have hv':=aHk h
  have hne:lvP P I m fn g av ≠ .fail:=by rw [hv'];simp
  have:=kW (m := .pan av) cx.hn (aBs cx.hm cx.hn cx.hW m) (fn:=fn) hf.defs ⟨v,hv,rfl⟩ hf.tmps hr hb hne
  refine iB (fun e w' hR'=>?_) this
  change Ret B P.globals.size γ w0 (lvP P I m fn g av) e w' at hR'
  rw [hv'] at hR'
  obtain ⟨γ',v',rfl,h1,h2,h3,h4⟩:=hR'
  exact hR γ' w' v' (hle.trans h1) h2 h3 h4) hk⟩
def aSf (g:Cfg):Bool:=match g.k with
 | []=>true
 | .code .ret::_=>true
 | _=>false
theorem aIe (cx:Cx P I B w0) (m:Nat) {fn:Func} {R:Ending→World→Prop} (hk:aSf g=true) (h:aMa (lvN P I m fn g)=true)
  (hR:∀ γ w v,Gm.le γ0 γ→VR γ (aLy (lvN P I m fn g)) v→HR B P.globals.size γ (aQo (lvN P I m fn g)) (aQa (lvN P I m fn g)) w→Keep B w0 w→R (.returned v) w):Good P B w0 γ0 nt (bodyPostD P fn R) g:=by
 refine ⟨fun γ a w hle hf hr hb=>?_⟩
 have hv':=aHk h
 have hne:lvN P I m fn g ≠ .fail:=by rw [hv'];simp
 have h0:=kW (m := .ret) cx.hn (aBs cx.hm cx.hn cx.hW m) (fn:=fn) (u := .returning) hf.defs rfl hf.tmps hr hb hne
 have key:Leaves P fn a.tmps R a.defers .returning w:=by
  refine iB (fun e w' hR'=>?_) h0
  change Ret B P.globals.size γ w0 (lvN P I m fn g) e w' at hR'
  rw [hv'] at hR'
  obtain ⟨γ',v',rfl,h1,h2,h3,h4⟩:=hR'
  exact hR γ' w' v' (hle.trans h1) h2 h3 h4
 obtain ⟨k,s⟩:=g
 unfold aSf at hk
 simp only at hk
 split at hk
 · exact key
 · simp only [after,Exit.then]
   exact wp_ret (iV key)
 · cases hk
theorem aG1 {o:Oper} (h:eC P nt g=some o)
  (H:∀ γ a w (K:Act→World→Prop) (QQ:Exit→Act→World→Prop),Gm.le γ0 γ→FR γ nt g.s.T g.s.ds a→HR B P.globals.size γ g.s.h g.s.c w→Keep B w0 w→kV g=o.dst→(∀ d,o.dst=some d→d<nt)→
   (∀ a' w',after P Q (iM g) .normal a' w'→K a' w')→(∀ e a' w',after P Q (aFv g) e a' w'→QQ e a' w')→o.wp P a w K QQ):Good P B w0 γ0 nt Q g:=by
 obtain ⟨k,s⟩:=g
 unfold eC at h
 simp only at h
 split at h <;> first | (cases h;done) | skip
 rename_i arr o' l k'
 split at h <;> first | (cases h;done) | skip
 rename_i hw
 have hoo:o'=o∧∀ d,o'.dst=some d→d<nt:=by
  split at h
  · rename_i hd
    injection h with h
    exact ⟨h,fun d e=>by rw [hd] at e;cases e⟩
  · rename_i d hd
    split at h <;> first | (cases h;done) | skip
    rename_i hlt
    injection h with h
    exact ⟨h,fun d' e=>by rw [hd] at e;injection e with e;subst e;exact cI hlt⟩
 obtain ⟨rfl,hd⟩:=hoo
 refine ⟨fun γ a w hle hf hr hb=>?_⟩
 simp only [after,Exit.then,wpL]
 have hw':=dX (a:=a) (fun j want p t av _ _ _ ht=>hf.tmps t av ht) hw
 rw [if_pos hw']
 left
 exact H γ a w _ _ hle hf hr hb rfl hd (fun a' w' h=>h) (fun e a' w' h=>h)
def hdR (P:Program) (I:Aux) (m nt:Nat) (g:Cfg):R1:=match eC P nt g with
 | none => .fail
 | some o=>qX P I (jE P I (ev P I m)) g.s.T g.s.h g.s.c o
def aR1:R1→Bool
 | .pan _ _ _=>true
 | _=>false
def aSh:R1→AV
 | .pan a _ _=>a
 | _ => .tup []
def aU2:R1→Hp
 | .pan _ h _=>h
 | _ => .leaf
def aUu:R1→Nat
 | .pan _ _ c=>c
 | _=>0
theorem aRq {r:R1} (h:aR1 r=true):r = .pan (aSh r) (aU2 r) (aUu r):=by cases r <;> first | rfl | cases h
def aV1 (P:Program) (I:Aux) (m nt:Nat) (g:Cfg):Cfg:=⟨aFv g,⟨g.s.T,aU2 (hdR P I m nt g),aUu (hdR P I m nt g),g.s.ds⟩⟩
theorem aI4 (cx:Cx P I B w0) (m:Nat) (h:aR1 (hdR P I m nt g)=true) (hg:GoodP P B w0 γ0 nt Q (aV1 P I m nt g) (aSh (hdR P I m nt g))):Good P B w0 γ0 nt Q g:=by
 have hp:=aRq h
 obtain ⟨o,ho⟩:∃ o,eC P nt g=some o:=by
  cases ho:eC P nt g with
  | none=>unfold hdR at h;rw [ho] at h;cases h
  | some o=>exact ⟨o,rfl⟩
 have e:hdR P I m nt g=qX P I (jE P I (ev P I m)) g.s.T g.s.h g.s.c o:=by unfold hdR;rw [ho]
 refine aG1 ho (fun γ a w K QQ hle hf hr hb hdst hdlt hK hQQ=>?_)
 have hok:=hf.ok (P:=P) (B:=B) (G:=0) hr.glob o.op.operands.toList
 refine rL cx.hn (cx.calls m) hr hb hok ?_
 rw [← e,hp]
 intro γ' v w' h1 h2 h3 h4
 refine hQQ _ _ _ (hg.out γ' a w' v (hle.trans h1) (hf.mono h1) ?_ ?_ h4)
 · exact h2
 · exact h3
def tK:List Nat→Hp→Hp
 | [],h=>h
 | b::l,h=>(tK l h).put b none
theorem zV {b:Nat} {h:Hp}:∀ {L:List Nat},b6 b L=false→(tK L h).get b=h.get b
 | [],_=>rfl
 | x::l,hh=>by
   have h1:¬ b∈x::l:=fun hm=>by rw [hasNat_iff.2 hm] at hh;cases hh
   rw [List.mem_cons,not_or] at h1
   simp only [tK]
   rw [Tr.get_put,if_neg (fun e=>h1.1 e)]
   exact zV (by
    cases h2:b6 b l with
    | false=>rfl
    | true=>exact absurd (hasNat_iff.1 h2) h1.2)
theorem aAa (L:List Nat) (cx:Cx P I B w0) {f:FuncId} (xs:List Value) (F:Nat→Prop) {Pr Pp:World→Value→World→Prop} (h:dR P nt g=some (f,xs.map bW)) (hbod:dJ P f=some true) (hx:∀ γ vs,LR γ (xs.map bW) vs→vs=xs)
  (hown:eL eA (tK L g.s.h)=true) (hLk:∀ b,b6 b L=true→∃ p,γ0 b=some p∧¬ F p.1) (hFB:∀ k,F k→B k)
  (hc:∀ w,Keep B w0 w→Calls P f xs.toArray w fun e w'=>(∃ r,e = .returned r∧Pr w r w'∧Keep (fun k=>k<w.heap.size∧¬ F k) w w')∨(∃ r,e = .panicked [{ v:=r,recovered:=false }]∧Pp w r w'∧Keep (fun k=>k<w.heap.size∧¬ F k) w w'))
  (hg:∀ w r w' B',Keep B w0 w→Pr w r w'→Keep (fun k=>k<w.heap.size∧¬ F k) w w'→Keep (fun k=>B k∧¬ F k) w0 w'→(∀ k,B k→B' k)→(∀ k,w.heap.size≤k→k<w'.heap.size→B' k)→(∀ k,B' k→k<w'.heap.size)→Good P B' w' γ0 nt Q (nx0 g (bW r)))
  (hp:∀ w r w' B',Keep B w0 w→Pp w r w'→Keep (fun k=>k<w.heap.size∧¬ F k) w w'→Keep (fun k=>B k∧¬ F k) w0 w'→(∀ k,B k→B' k)→(∀ k,w.heap.size≤k→k<w'.heap.size→B' k)→(∀ k,B' k→k<w'.heap.size)→GoodP P B' w' γ0 nt Q ⟨aFv g,g.s⟩ (bW r)):Good P B w0 γ0 nt Q g:=by
 unfold dR at h
 split at h
 · cases h
 rename_i o ho
 refine aG1 ho (fun γ a w K QQ hle hf hr hb hdst hdlt hK hQQ=>?_)
 have hok:=hf.ok (P:=P) (B:=B) (G:=0) hr.glob o.op.operands.toList
 obtain ⟨fn,code,hfn,hbd⟩:=iX hbod
 obtain ⟨vs,hl,hrun⟩:=rK hok h
 obtain rfl:=hx γ vs hl
 unfold Oper.wp
 rw [hrun,nA cx.hn hfn hbd]
 refine (hc w hb).mono fun e w' hR=>?_
 have h2:Keep (fun k=>k<w.heap.size∧¬ F k) w w':=hR.elim (fun ⟨_,_,_,h⟩=>h) (fun ⟨_,_,_,h⟩=>h)
 have hk:Keep (fun k=>B k∧¬ F k) w0 w':=(hb.mono fun k h=>h.1).trans (h2.mono fun k h=>⟨hr.base k h.1,h.2⟩)
 have hnF:∀ b blk p,g.s.h.get b=some blk→γ b=some p→¬ F p.1:=fun b blk p hb1 hp hFp=>by
  obtain ⟨q,hq,hbr⟩:=hr.live b blk hb1
  rw [hp] at hq
  injection hq with hq
  subst hq
  cases hh:b6 b L with
  | true=>
    obtain ⟨q,h3,h4⟩:=hLk b hh
    rw [hle b q h3] at hp
    injection hp with hp
    subst hp
    exact h4 hFp
  | false=>exact kA (iD hown b _ (by rw [zV hh];exact hb1)) hbr (hFB _ hFp)
 have hr':HR B P.globals.size γ g.s.h g.s.c w':=⟨fun b blk hb1=>by
  obtain ⟨p,hp,hbr⟩:=hr.live b blk hb1
  exact ⟨p,hp,hbr.kept (h2.block _ ⟨hbr.lt,hnF b blk p hb1 hp⟩)⟩,hr.inj,hr.fresh,hr.glob,fun k h=>aE (hr.base k h) h2.size⟩
 have hlt:∀ {b blk k N},g.s.h.get b=some blk→γ b=some (k,N)→k<w.heap.size:=by
  intro b blk k N hb1 hγ
  obtain ⟨p,hp,hbr⟩:=hr.live b blk hb1
  rw [hγ] at hp
  injection hp with hp
  subst hp
  exact hbr.lt
 have hB:∀ b blk p,g.s.h.get b=some blk→γ b=some p→¬ B p.1→¬ (B p.1∨(p.1<w'.heap.size∧∀ b blk N,g.s.h.get b=some blk→γ b≠some (p.1,N))):=by
  intro b blk p hb1 hγ hnB hor
  rcases hor with h3 | h3
  · exact hnB h3
  · exact h3.2 b blk p.2 hb1 hγ
 have key3:HR (fun k=>B k∨(k<w'.heap.size∧∀ b blk N,g.s.h.get b=some blk→γ b≠some (k,N))) P.globals.size γ g.s.h g.s.c w':=by
  refine ⟨fun b blk hb1=>?_,hr'.inj,hr'.fresh,hr'.glob,fun k hkk=>hkk.elim (fun h3=>hr'.base k h3) (fun h3=>h3.1)⟩
  obtain ⟨p,hp,hbr⟩:=hr'.live b blk hb1
  refine ⟨p,hp,?_⟩
  have hBp:=hB b blk p hb1 hp
  cases blk with
  | cells ty own clean ex lim cs=>
    obtain ⟨h0,h5⟩:=hbr
    exact ⟨fun ho=>hBp (h0 ho),h5⟩
  | map es clock=>
    obtain ⟨h0,h5⟩:=hbr
    exact ⟨hBp h0,h5⟩
  | row e xs=>
    obtain ⟨h0,h5⟩:=hbr
    exact ⟨hBp h0,h5⟩
 rcases hR with ⟨r,rfl,h1,_⟩ | ⟨r,rfl,h1,_⟩
 rotate_left
 · have hp':=hp w r w' (fun k=>B k∨(k<w'.heap.size∧∀ b blk N,g.s.h.get b=some blk→γ b≠some (k,N))) hb h1 h2 hk (fun k => .inl)
    (fun k h3 h4 => .inr ⟨h4,fun b blk N hb1 hγ=>by have:=hlt hb1 hγ;omega⟩)
    (fun k hkk=>hkk.elim (fun h3=>hr'.base k h3) (fun h3=>h3.1))
   exact hQQ _ _ _ (hp'.out γ a w' r hle hf (eP r) key3 (Keep.refl _ _))
 refine hK _ _ ?_
 have hg':=hg w r w' (fun k=>B k∨(k<w'.heap.size∧∀ b blk N,g.s.h.get b=some blk→γ b≠some (k,N))) hb h1 h2 hk (fun k => .inl)
  (fun k h3 h4 => .inr ⟨h4,fun b blk N hb1 hγ=>by have:=hlt hb1 hγ;omega⟩)
  (fun k hkk=>hkk.elim (fun h3=>hr'.base k h3) (fun h3=>h3.1))
 have key1:FR γ nt (nx0 g (bW r)).s.T (nx0 g (bW r)).s.ds (a.put o.dst r):=by
  have hf':=hf.put (dst:=o.dst) (av:=bW r) (v:=r) (T':=dP o.dst g.s.T (bW r)) (Gm.le.refl γ) (eP r) (by
   unfold dK dP
   cases hd:o.dst with
   | none=>rfl
   | some d=>
     have:Nat.blt d nt=true:=Nat.ble_eq_true_of_le (hdlt d hd)
     simp only [this])
  have e:(nx0 g (bW r)).s.T=dP o.dst g.s.T (bW r)∧(nx0 g (bW r)).s.ds=g.s.ds:=by
   rw [← hdst]
   obtain ⟨k,s⟩:=g
   unfold nx0 nx kV dP
   unfold eC at ho
   simp only at ho
   split at ho <;> first | (cases ho;done) | skip
   exact ⟨rfl,rfl⟩
  rw [e.1,e.2]
  exact hf'
 have key2:HR (fun k=>B k∨(k<w'.heap.size∧∀ b blk N,g.s.h.get b=some blk→γ b≠some (k,N))) P.globals.size γ (nx0 g (bW r)).s.h (nx0 g (bW r)).s.c w':=by
  have e:(nx0 g (bW r)).s.h=g.s.h∧(nx0 g (bW r)).s.c=g.s.c:=by
   obtain ⟨k,s⟩:=g
   unfold nx0 nx
   unfold eC at ho
   simp only at ho
   split at ho <;> first | (cases ho;done) | skip
   exact ⟨rfl,rfl⟩
  rw [e.1,e.2]
  refine ⟨fun b blk hb1=>?_,hr'.inj,hr'.fresh,hr'.glob,fun k hkk=>hkk.elim (fun h3=>hr'.base k h3) (fun h3=>h3.1)⟩
  obtain ⟨p,hp,hbr⟩:=hr'.live b blk hb1
  refine ⟨p,hp,?_⟩
  have hBp:=hB b blk p hb1 hp
  cases blk with
  | cells ty own clean ex lim cs=>
    obtain ⟨h0,h5⟩:=hbr
    exact ⟨fun ho=>hBp (h0 ho),h5⟩
  | map es clock=>
    obtain ⟨h0,h5⟩:=hbr
    exact ⟨hBp h0,h5⟩
  | row e xs=>
    obtain ⟨h0,h5⟩:=hbr
    exact ⟨hBp h0,h5⟩
 have hfin:=hg'.out γ (a.put o.dst r) w' hle key1 key2 (Keep.refl _ _)
 have e:(nx0 g (bW r)).k=iM g:=by
  obtain ⟨k,s⟩:=g
  unfold nx0 nx iM
  unfold eC at ho
  simp only at ho
  split at ho <;> first | (cases ho;done) | skip
  rfl
 rw [e] at hfin
 exact hfin
theorem oJ (cx:Cx P I B w0) {f:FuncId} (xs:List Value) (F:Nat→Prop) {Pr Pp:World→Value→World→Prop} (h:dR P nt g=some (f,xs.map bW)) (hbod:dJ P f=some true) (hx:∀ γ vs,LR γ (xs.map bW) vs→vs=xs)
  (hown:eL eA g.s.h=true) (hFB:∀ k,F k→B k)
  (hc:∀ w,Keep B w0 w→Calls P f xs.toArray w fun e w'=>(∃ r,e = .returned r∧Pr w r w'∧Keep (fun k=>k<w.heap.size∧¬ F k) w w')∨(∃ r,e = .panicked [{ v:=r,recovered:=false }]∧Pp w r w'∧Keep (fun k=>k<w.heap.size∧¬ F k) w w'))
  (hg:∀ w r w' B',Keep B w0 w→Pr w r w'→Keep (fun k=>k<w.heap.size∧¬ F k) w w'→Keep (fun k=>B k∧¬ F k) w0 w'→(∀ k,B k→B' k)→(∀ k,w.heap.size≤k→k<w'.heap.size→B' k)→(∀ k,B' k→k<w'.heap.size)→Good P B' w' γ0 nt Q (nx0 g (bW r)))
  (hp:∀ w r w' B',Keep B w0 w→Pp w r w'→Keep (fun k=>k<w.heap.size∧¬ F k) w w'→Keep (fun k=>B k∧¬ F k) w0 w'→(∀ k,B k→B' k)→(∀ k,w.heap.size≤k→k<w'.heap.size→B' k)→(∀ k,B' k→k<w'.heap.size)→GoodP P B' w' γ0 nt Q ⟨aFv g,g.s⟩ (bW r)):Good P B w0 γ0 nt Q g:=
 aAa [] cx xs F h hbod hx hown (fun b hb=>by cases hb) hFB hc hg hp
end
end Go.Sy
end
end
section
noncomputable section
namespace Go.Sy
open Go Go.RowKit Go.As
section
variable {P:Program} {ops:Array Oper} {md:Region.Mode} {C:World→Prop}
theorem zS {Q:Act→Prop} (hs:Region.noSelect ops=true):∀ (l:List Oper) (k:Nat) (listed:Array Bool) (a:Act),(∀ j,j<l.length→l[j]?=ops[k+j]?)→
  Region.lexFrom md ops l.length k listed=true→wpQuiet P ops C Q l a→wpAnyQ P md ops C Q l.length listed a
 | [],_,_,_,_,hB,h=>⟨by simpa [Region.lexFrom] using hB,h⟩
 | o::l,k,listed,a,hl,hB,h=>by
   have h0:ops[k]?=some o:=by simpa using (hl 0 (by simp)).symm
   simp only [aB,Region.lexFrom,aI] at hB
   obtain ⟨⟨hr,hf⟩,hB'⟩:=hB
   have hst:qOp P ops C k (wpQuiet P ops C Q l) a:=by unfold qOp;simp only [h0];exact h
   obtain ⟨v,hy,hK⟩:=yieldsIn_of_qOp h0 hst
   exact wpAnyQ_first h0 (Region.noSelect_spec hs) l.length listed a (Region.free_spec h0 hf) (by simpa using hr) hy
    (zS hs l (k+1) _ _ (fun j hj=>by have:=hl (j+1) (by simpa using hj);simpa [Nat.add_assoc,Nat.add_comm 1 j] using this) hB' hK)
end
structure LastT (md:Region.Mode) (ops:Array Oper) (z:Nat):Prop where
 lt:z<ops.size
 succ:∀ j,j≠z→j<ops.size→∃ k ok,j<k∧ops[k]?=some ok∧∃ e∈ok.after,Region.binds md e=true∧e.on=j
 free:∀ (j:Nat) (oj:Oper),ops[j]?=some oj→∀ e∈oj.after,Region.binds md e=true→e.on<j∧e.on≠z
def Shut (md:Region.Mode) (ops:Array Oper) (l:Array Bool):Prop:=∀ (j:Nat) (oj:Oper),ops[j]?=some oj→l.getD j false=true→∀ e∈oj.after,Region.binds md e=true→l.getD e.on false=true
section
variable {P:Program} {ops:Array Oper} {Q:Exit→Act→World→Prop} {md:Region.Mode}
theorem z7 {z:Nat} (hz:LastT md ops z) {l:Array Bool} (hl:l.size=ops.size):∀ (j:Nat),j<ops.size→l.getD j true=false→Region.ready md ops l≠[]:=by
 intro j
 induction j using Nat.strongRecOn with
 | _ j ih=>
   intro hj hun hr
   obtain ⟨oj,hoj⟩:∃ oj,ops[j]?=some oj:=⟨ops[j],Array.getElem?_eq_getElem hj⟩
   by_cases hall:∀ e∈oj.after,Region.binds md e=true→l.getD e.on false=true
   · have:j∈Region.ready md ops l:=mem_ready.2 ⟨hun,oj,hoj,hall⟩
     rw [hr] at this
     cases this
   · simp only [Classical.not_forall] at hall
     obtain ⟨e,he,hb,hne⟩:=hall
     have hlt:=(hz.free j oj hoj e he hb).1
     refine ih e.on hlt (by omega) ?_ hr
     have hlt2:e.on<l.size:=by omega
     have h1:l.getD e.on false=l[e.on]:=by simp [hlt2]
     have h2:l.getD e.on true=l[e.on]:=by simp [hlt2]
     rw [h2]
     rw [h1] at hne
     simpa using hne
theorem aLd (l:Array Bool) (i j:Nat) (h:l.getD j false=true):(l.setIfInBounds i true).getD j false=true:=by
 by_cases hij:i=j
 · subst hij
   rcases aY i l.size with h' | h'
   · simp [h']
   · simp [Array.getElem?_eq_none h'] at h
 · simp only [Array.getD_eq_getD_getElem?] at h ⊢
   rw [Array.getElem?_setIfInBounds_ne hij]
   exact h
theorem Shut.set {l:Array Bool} {i:Nat} (h:Shut md ops l) (hi:i∈Region.ready md ops l):Shut md ops (l.setIfInBounds i true):=by
 intro j oj hoj hj e he hb
 refine aLd l i e.on ?_
 obtain ⟨_,oi,hoi,hall⟩:=mem_ready.1 hi
 by_cases hij:i=j
 · subst hij
   rw [hoi] at hoj
   injection hoj with hoj
   subst hoj
   exact hall e he hb
 · refine h j oj hoj ?_ e he hb
   simp only [Array.getD_eq_getD_getElem?] at hj ⊢
   rwa [Array.getElem?_setIfInBounds_ne hij] at hj
theorem aK1 {z:Nat} (hz:LastT md ops z) {l:Array Bool} (hs:Shut md ops l) (h:z∈Region.ready md ops l):∀ (m j:Nat),ops.size - j≤m→j≠z→j<ops.size→l.getD j false=true:=by
 intro m
 induction m with
 | zero=>intro j h1 _ h3;omega
 | succ m ih=>
   intro j h1 h2 h3
   obtain ⟨k,ok,hk,hok,e,he,hb,heq⟩:=hz.succ j h2 h3
   have hklt:k<ops.size:=(Array.getElem?_eq_some_iff.1 hok).1
   by_cases hkz:k=z
   · subst hkz
     obtain ⟨_,oz,hoz,hall⟩:=mem_ready.1 h
     rw [hok] at hoz
     injection hoz with hoz
     subst hoz
     rw [← heq]
     exact hall e he hb
   · rw [← heq]
     exact hs k ok hok (ih k (by omega) hkz hklt) e he hb
theorem aIw {z:Nat} (hz:LastT md ops z):∀ (fuel:Nat) (l:Array Bool) (a:Act) (w:World),l.size=ops.size→l.getD z true=false→Shut md ops l→
  wpAny P md ops (nV P ops Q z) fuel (l.setIfInBounds z true) a w→wpAny P md ops Q (fuel+1) l a w:=by
 have hset:∀ (l:Array Bool) (i j:Nat),(l.setIfInBounds i true).setIfInBounds j true=(l.setIfInBounds j true).setIfInBounds i true:=by
  intro l i j
  by_cases e:i=j
  · subst e;rfl
  · exact Array.setIfInBounds_comm true true e
 have hzr:∀ {l:Array Bool},Shut md ops l→z∈Region.ready md ops l→Region.ready md ops (l.setIfInBounds z true)=[]:=by
  intro l hs h
  obtain ⟨h0,oz,hoz,hall⟩:=mem_ready.1 h
  apply List.eq_nil_iff_forall_not_mem.2
  intro j hj
  obtain ⟨h1,oj,hoj,_⟩:=mem_ready.1 hj
  have hjlt:j<ops.size:=(Array.getElem?_eq_some_iff.1 hoj).1
  by_cases hjz:j=z
  · subst hjz
    rcases aY j l.size with h2 | h2
    · simp [h2] at h1
    · simp [Array.getElem?_eq_none h2] at h0
  · have h3:=aK1 hz hs h _ j (aH _) hjz hjlt
    rw [getD_set_ne true (fun e=>hjz e.symm)] at h1
    rcases aY j l.size with h2 | h2
    · simp [h2] at h1 h3
      rw [h3] at h1
      cases h1
    · simp [Array.getElem?_eq_none h2] at h3
 intro fuel
 induction fuel with
 | zero=>
   intro l a w hl hun hs H
   refine ⟨fun hr=>absurd hr (z7 hz hl z hz.lt hun),fun i hi=>?_⟩
   by_cases hiz:i=z
   · subst hiz
     exact wpOp_mono (fun a' w' h=>⟨hzr hs hi,h⟩) H.2
   · have:=ready_mono (i:=z) hi hiz
     rw [H.1] at this
     cases this
 | succ fuel ih=>
   intro l a w hl hun hs H
   refine ⟨fun hr=>absurd hr (z7 hz hl z hz.lt hun),fun i hi=>?_⟩
   by_cases hiz:i=z
   · subst hiz
     have hr:=hzr hs hi
     have:=H.1 hr
     exact wpOp_mono (fun a' w' h=>⟨fun _=>h,fun j hj=>by rw [hr] at hj;cases hj⟩) this
   · have h1:=H.2 i (ready_mono (i:=z) hi hiz)
     have h2:wpOp P ops Q i (wpAny P md ops (nV P ops Q z) fuel ((l.setIfInBounds z true).setIfInBounds i true)) a w:=h1
     refine wpOp_mono (fun a' w' h=>?_) h2
     rw [hset] at h
     exact ih _ a' w' (by simpa using hl) (by rw [getD_set_ne true (fun e=>hiz e)];exact hun) (hs.set hi) h
end
def aBd (ops:Array Oper) (z:Nat):Bool:=Nat.beq ops.size (z+1) &&
 ((List.range z).all fun j=>ops.toList.zipIdx.any fun x=>Nat.blt j x.2&&x.1.after.toList.any fun e=>Region.binds .any e&&Nat.beq e.on j) &&
 (ops.toList.zipIdx.all fun x=>x.1.after.toList.all fun e=>!Region.binds .any e || (Nat.blt e.on x.2&&!Nat.beq e.on z))
theorem aIp {ops:Array Oper} {z:Nat} (h:aBd ops z=true):LastT .any ops z:=by
 unfold aBd at h
 simp only [aI] at h
 obtain ⟨⟨h0,h1⟩,h2⟩:=h
 have h0:=aV h0
 refine ⟨by omega,fun j hjz hj=>?_,fun j oj hoj e he hb=>?_⟩
 · have:=bE h1 j (List.mem_range.2 (by omega))
   obtain ⟨⟨ok,k⟩,hm,h3⟩:=List.any_eq_true.1 this
   rw [aI] at h3
   obtain ⟨h3,h4⟩:=h3
   obtain ⟨e,he,h5⟩:=List.any_eq_true.1 h4
   rw [aI] at h5
   rw [List.mem_zipIdx_iff_getElem?] at hm
   exact ⟨k,ok,cI h3,by simpa using hm,e,by simpa using he,h5.1,aV h5.2⟩
 · have hm:(oj,j)∈ops.toList.zipIdx:=by
    rw [List.mem_zipIdx_iff_getElem?]
    simpa using hoj
   have:=bE (bE h2 _ hm) e (by simpa using he)
   simp only [hb,Bool.not_true,Bool.false_or,aI] at this
   exact ⟨cI this.1,s6 this.2⟩
def aNa (ops:Array Oper):Bool:=Region.noSelect ops&&aBd ops (ops.size - 1)&&Region.lexFrom .any ops (ops.size - 1) 0 ((Array.replicate ops.size false).setIfInBounds (ops.size - 1) true)
def yY (g:Cfg):Option QCfg:=match g.k with
 | .code (.region _ ops true)::k=>match aNa ops with
   | true=>match ops[ops.size - 1]? with
     | some oz=>some ⟨ops,ops.toList.take (ops.size - 1),.ops ops [oz] :: .np::k,g.s⟩
     | none=>none
   | false=>none
 | _=>none
def aKc (g:Cfg):Bool:=match yY g with
 | some _=>true
 | none=>false
def aO7 (g:Cfg):QCfg:=match yY g with
 | some q=>q
 | none=>⟨#[],[],[],g.s⟩
section
variable {P:Program} {I:Aux} {B:Nat→Prop} {w0:World} {γ0:Gm} {nt:Nat} {Q:Exit→Act→World→Prop} {g:Cfg}
theorem aIf (hm:P.follows .mixedOrders=true) (q:QCfg) (h:yY g=some q) (hg:GoodQ P B w0 γ0 nt Q q):Good P B w0 γ0 nt Q g:=by
 obtain ⟨k,s⟩:=g
 unfold yY at h
 simp only at h
 split at h <;> first | (cases h;done) | skip
 rename_i id ops k'
 split at h <;> first | (cases h;done) | skip
 rename_i hB
 split at h <;> first | (cases h;done) | skip
 rename_i oz hoz
 injection h with h
 subst h
 unfold aNa at hB
 simp only [aI] at hB
 obtain ⟨⟨h1,h2⟩,h3⟩:=hB
 have hz:=aIp h2
 refine ⟨fun γ a w hle hf hr hb=>?_⟩
 simp only [after,Exit.then]
 refine Code.wp_mono NoPan.imp (wp_region_any hm ?_)
 obtain ⟨n,hn⟩:∃ n,ops.size=n+1:=⟨ops.size - 1,by have:=hz.lt;omega⟩
 have hn1:ops.size - 1=n:=by omega
 rw [hn1] at hz hoz h3
 rw [hn]
 refine aIw hz n _ a _ (by simp [hn]) (by simp) (fun j oj _ hj=>?_) ?_
 · exfalso
   simp only [Array.getD_eq_getD_getElem?,Array.getElem?_replicate] at hj
   split at hj <;> simp at hj
 have hh:=hg.out γ a w hle hf hr hb
 simp only at hh
 have hd:Below w.heap.size w { w with drawn:=w.drawn+1 }:=⟨rfl,rfl,rfl,aH _,fun _ _=>rfl⟩
 refine wpAny_of_quiet (C:=fun w'=>Below w.heap.size w w') (Q:=fun a'=>∀ w',Below w.heap.size w w'→after P Q (.ops ops [oz] :: .np::k') .normal a' w') (fun a' w' hC h=>?_) n _ a _ hd ?_
 · have h4:=h w' hC
   simp only [after,Exit.then] at h4
   show wpOp P ops (NoPan (after P Q k')) n (fun a w=>NoPan (after P Q k') .normal a w) a' w'
   unfold wpOp
   simp only [hoz]
   exact h4
 · have hl:(ops.toList.take n).length=n:=by simp [hn]
   have h5:=zS (P:=P) (C:=fun w'=>Below w.heap.size w w') (Q:=fun a'=>∀ w',Below w.heap.size w w'→after P Q (.ops ops [oz] :: .np::k') .normal a' w') (md := .any) h1 (ops.toList.take n) 0 ((Array.replicate ops.size false).setIfInBounds n true) a
    (fun j hj=>by
     rw [hl] at hj
     rw [List.getElem?_take]
     simp [hj]) (by rw [hl];exact h3) (by rw [hn1] at hh;exact hh)
   rw [hl,hn] at h5
   exact h5
theorem gM (hm:P.follows .mixedOrders=true) (h:aKc g=true) (hg:GoodQ P B w0 γ0 nt Q (aO7 g)):Good P B w0 γ0 nt Q g:=by
 unfold aKc at h
 unfold aO7 at hg
 split at h
 · rename_i q hq
   rw [hq] at hg
   exact aIf hm q hq hg
 · cases h
end
end Go.Sy
end
end
section
noncomputable section
namespace Go.Sy
open Go Go.RowKit
section
variable {P:Program} {I:Aux} {B:Nat→Prop} {w0:World} {γ0:Gm} {nt:Nat} {Q:Exit→Act→World→Prop} {g:Cfg}
theorem lP (t b ty esz n:Nat) (vals:List Value) (h:g.s.T.get t=some (.slg b 0 n esz)) (hb:aC2 (g.s.h.get b)=some (ty,vals)) (hln:vals.length=n*esz)
  (hg:∀ k cap w1 B1,Keep B w0 w1→(∀ j,B j→B1 j)→(∀ j,B1 j→j<w1.heap.size)→¬ B k→SlAt B1 w1 (some ⟨k,0,none⟩) n esz vals→
   Good P B1 w1 γ0 nt Q ⟨g.k,⟨g.s.T.put t (some (.v (.slice (some ⟨k,0,none⟩) n cap))),g.s.h.put b none,g.s.c,g.s.ds⟩⟩):Good P B w0 γ0 nt Q g:=by
 unfold aC2 at hb
 split at hb <;> first | (cases hb;done) | skip
 rename_i ty1 lim cs hb1
 split at hb <;> first | (cases hb;done) | skip
 rename_i r hget
 injection hb with hb
 injection hb with e1 e2
 subst e1 e2
 obtain ⟨hlen,hcell⟩:=wQ hget
 refine ⟨fun γ a w hle hf hr hk=>?_⟩
 obtain ⟨p,hp,hbr⟩:=hr.live b _ hb1
 obtain ⟨h0,c,ty',fz,h1,h2,h3,h4⟩:=hbr
 obtain ⟨v,hv1,hv2⟩:=hf.tmps _ _ h
 obtain ⟨n1,N,cap,rfl,hγ⟩:∃ n1 N cap,v = .slice (some ⟨n1,0,none⟩) n cap∧γ b=some (n1,N):=by
  cases hv2 with
  | slg h hl hm ho=>obtain ⟨q1,q2⟩:=ho (.inl rfl);subst q1;exact ⟨_,_,_,rfl,h⟩
 rw [hγ] at hp
 injection hp with hp
 subst hp
 obtain ⟨hfz,hty⟩:=h3.1 rfl
 have hsz:=(h3.2 rfl).1
 subst hfz hty
 have hnB:=h0 rfl
 have hlt:n1<w.heap.size:=(Array.getElem?_eq_some_iff.1 h1).1
 have hc:c=r.toArray:=by
  apply Array.ext'
  apply List.ext_getElem?
  intro i
  rcases aY i r.length with hi | hi
  · have e1:r[i]?=some r[i]:=aO hi
    obtain ⟨a1,e2,e3⟩:=hcell i r[i] e1
    rw [bH] at e2
    obtain ⟨x,hx1,hx2⟩:=h4 i _ (by omega) e2
    have e4:=jY e3 hx2
    subst e4
    rw [e1]
    simpa using hx1
  · have e1:c.toList.length=c.size:=Array.length_toList
    rw [List.getElem?_eq_none hi,List.getElem?_eq_none (by omega)]
 subst hc
 refine (hg n1 cap w (fun j=>B j∨j=n1) hk (fun j => .inl) (fun j hj=>hj.elim (fun h=>hr.base j h) (fun e=>by subst e;exact hlt)) hnB ⟨hln,.inr ⟨rfl,.inr rfl,fun j v hv=>?_⟩⟩).out γ a w hle ⟨hf.size,fun t' av ht=>?_,hf.defs⟩ ⟨fun b2 blk2 hb2=>?_,fun b2 b3 blk2 blk3 p2 p3 h5 h6 g1 g2 e=>?_,hr.fresh,hr.glob,fun j hj=>hj.elim (fun h=>hr.base j h) (fun e=>by subst e;exact hlt)⟩ (Keep.refl _ _)
 · simp only [gB,oB,bH]
   simp [World.cell?,h1]
   simpa using hv
 · simp only at ht
   rw [Tr.get_put] at ht
   split at ht
   · rename_i e
     subst e
     injection ht with ht
     subst ht
     exact ⟨_,hv1,.v _⟩
   · exact hf.tmps t' av ht
 · simp only at hb2
   rw [Tr.get_put] at hb2
   split at hb2
   · cases hb2
   rename_i hne
   obtain ⟨q,hq,hbr2⟩:=hr.live b2 blk2 hb2
   have hne2:q.1≠n1:=fun e=>hne (hr.inj _ _ _ _ _ _ hb2 hb1 hq hγ e)
   have key:¬ B q.1→¬ (B q.1∨q.1=n1):=fun h1 h2=>h2.elim h1 hne2
   refine ⟨q,hq,?_⟩
   cases blk2 with
   | cells ty own cl ex lim cs=>exact ⟨fun e=>key (hbr2.1 e),hbr2.2⟩
   | map es clock=>exact ⟨key hbr2.1,hbr2.2⟩
   | row e xs=>exact ⟨key hbr2.1,hbr2.2⟩
 · simp only at h5 h6
   rw [Tr.get_put] at h5 h6
   split at h5
   · cases h5
   split at h6
   · cases h6
   exact hr.inj _ _ _ _ _ _ h5 h6 g1 g2 e
end
end Go.Sy
end
end
section
noncomputable section
namespace Go.Sy
open Go Go.RowKit
section
variable {P:Program} {B:Nat→Prop} {w0:World} {γ0:Gm} {nt:Nat} {g:Cfg}
theorem zT {fn:Func} {R:Ending→World→Prop} {e esz b n base:Nat} {xs:List Value} {X:AV} {ob:Option Blk} (hrow:RowAt e esz b n xs X ob) (h:aFu P fn g=some X) (hob:g.s.h.get b=ob) (hbase:∀ k,k<base→B k)
  (hR:∀ w a cap,Keep B w0 w→SlAt (fun k=>base≤k∧k<w.heap.size) w a n esz xs→R (.returned (.slice a n cap)) w):Good P B w0 γ0 nt (bodyPostD P fn R) g:=by
 refine aBg h (fun γ w v _ hv hr hk=>?_)
 obtain ⟨hown,_⟩:=aC6 (base:=base) hrow hob hr hv (fun k hk=>Nat.le_of_not_lt (fun h=>hk (hbase k h)))
 obtain ⟨a,cap,rfl,_,hsl⟩:=SlAt.of_own (F:=fun k=>base≤k∧k<w.heap.size) hown (fun k h1 h2=>⟨h1,h2⟩)
 exact hR w a cap hk hsl
end
end Go.Sy
end
end
section
noncomputable section
namespace Go.Sy
open Go Go.RowKit
def yZ (bx off:Nat) (h:Hp):Option AV:=match h.get bx with
 | some (.cells _ _ _ _ lim cs)=>match Nat.blt off lim with
   | true=>cs.get off
   | false=>none
 | _=>none
theorem aQy {B':Nat→Prop} {γ:Gm} {h:Hp} {G c bx off:Nat} {w:World} {A:AV} {v:Value} (hr:HR B' G γ h c w) (hc:yZ bx off h=some A) (hv:∀ x,VR γ A x→x=v):HR B' G γ (rA bx off v h) c w:=by
 unfold yZ at hc
 split at hc <;> first | (cases hc;done) | skip
 rename_i ty0 own0 cl0 ex0 lim0 cs0 hbx
 split at hc <;> first | (cases hc;done) | skip
 rename_i hoff
 have hoff:=cI hoff
 obtain ⟨px,hpx,hbrx⟩:=hr.live bx _ hbx
 obtain ⟨hx0,cx,tyx,fzx,hx1,hx2,hx3,hx4⟩:=hbrx
 obtain ⟨u,hu1,hu2⟩:=hx4 off _ hoff hc
 obtain rfl:=hv u hu2
 unfold rA
 rw [hbx]
 refine hr.turn hbx hpx (aH _) (fun _ _ _=>rfl) ⟨hx0,cx,tyx,fzx,hx1,hx2,hx3,fun i a' hi hi'=>?_⟩
 rw [Tr.get_put] at hi'
 split at hi'
 · rename_i e
   subst e
   injection hi' with hi'
   subst hi'
   exact ⟨_,hu1,.v _⟩
 · exact hx4 i a' hi hi'
section
variable {P:Program} {I:Aux} {B:Nat→Prop} {w0:World} {γ0:Gm} {nt:Nat} {Q:Exit→Act→World→Prop} {g:Cfg}
theorem pN (bx off b e esz n:Nat) {xs:List Value} {X:AV} {ob:Option Blk} (hrow:RowAt e esz b n xs X ob) (h:yZ bx off g.s.h=some X) (hne:Nat.beq bx b=false) (hob:g.s.h.get b=ob)
  (hg:∀ a cap w1 B1,Keep B w0 w1→(∀ j,B j→B1 j)→(∀ j,B1 j→j<w1.heap.size)→SlAt (fun k=>B1 k∧¬ B k) w1 a n esz xs→
   Good P B1 w1 γ0 nt Q ⟨g.k,⟨g.s.T,rA bx off (.slice a n cap) (g.s.h.put b none),g.s.c,g.s.ds⟩⟩):Good P B w0 γ0 nt Q g:=by
 have hne:¬ bx=b:=fun e1=>by subst e1;rw [Nat.beq_refl] at hne;cases hne
 have hc2:yZ bx off (g.s.h.put b none)=some X:=by
  unfold yZ at h ⊢
  rw [Tr.get_put,if_neg hne]
  exact h
 refine ⟨fun γ a w hle hf hr hk=>?_⟩
 rcases hrow.2 with ⟨rfl,rfl,rfl⟩ | ⟨rfl,rfl⟩
 · have hr1:HR B P.globals.size γ (g.s.h.put b none) g.s.c w:=by
    refine ⟨fun b2 blk2 hb2=>?_,fun b2 b3 blk2 blk3 p2 p3 h5 h6 g1 g2 e=>?_,hr.fresh,hr.glob,hr.base⟩
    · rw [Tr.get_put] at hb2
      split at hb2
      · cases hb2
      exact hr.live b2 blk2 hb2
    · rw [Tr.get_put] at h5 h6
      split at h5
      · cases h5
      split at h6
      · cases h6
      exact hr.inj _ _ _ _ _ _ h5 h6 g1 g2 e
   exact (hg none 0 w B hk (fun _ h=>h) (fun j hj=>hr.base j hj) ⟨hrow.1,.inl rfl⟩).out γ a w hle ⟨hf.size,hf.tmps,hf.defs⟩ (aQy hr1 hc2 (fun x hx=>jY (y := .slice none 0 0) rfl hx)) (Keep.refl _ _)
 obtain ⟨p,hp,hbr⟩:=hr.live b _ hob
 obtain ⟨h0,c,h1,h2,h3⟩:=hbr
 have hlt:p.1<w.heap.size:=(Array.getElem?_eq_some_iff.1 h1).1
 have hr1:HR (fun j=>B j∨j=p.1) P.globals.size γ (g.s.h.put b none) g.s.c w:=by
  refine ⟨fun b2 blk2 hb2=>?_,fun b2 b3 blk2 blk3 p2 p3 h5 h6 g1 g2 e=>?_,hr.fresh,hr.glob,fun j hj=>hj.elim (fun h=>hr.base j h) (fun e=>by subst e;exact hlt)⟩
  · rw [Tr.get_put] at hb2
    split at hb2
    · cases hb2
    rename_i hne
    obtain ⟨q,hq,hbr2⟩:=hr.live b2 blk2 hb2
    have hne2:q.1≠p.1:=fun e=>hne (hr.inj _ _ _ _ _ _ hb2 hob hq hp e)
    have key:¬ B q.1→¬ (B q.1∨q.1=p.1):=fun h1 h2=>h2.elim h1 hne2
    refine ⟨q,hq,?_⟩
    cases blk2 with
    | cells ty own cl ex lim cs=>exact ⟨fun e=>key (hbr2.1 e),hbr2.2⟩
    | map es clock=>exact ⟨key hbr2.1,hbr2.2⟩
    | row e xs=>exact ⟨key hbr2.1,hbr2.2⟩
  · rw [Tr.get_put] at h5 h6
    split at h5
    · cases h5
    split at h6
    · cases h6
    exact hr.inj _ _ _ _ _ _ h5 h6 g1 g2 e
 unfold yZ at h
 split at h <;> first | (cases h;done) | skip
 rename_i ty0 own0 cl0 ex0 lim0 cs0 hbx
 split at h <;> first | (cases h;done) | skip
 rename_i hoff
 obtain ⟨px,hpx,hbrx⟩:=hr.live bx _ hbx
 obtain ⟨hx0,cx,tyx,fzx,hx1,hx2,hx3,hx4⟩:=hbrx
 obtain ⟨v,hv1,hv2⟩:=hx4 off _ (cI hoff) h
 obtain ⟨cap,rfl⟩:∃ cap,v = .slice (some ⟨p.1,0,none⟩) n cap:=by
  cases hv2 with
  | slg h hl hm ho=>obtain ⟨q1,q2⟩:=ho (.inl rfl);subst q1;rw [hp] at h;injection h with h;subst h;exact ⟨_,rfl⟩
 have hr2:HR (fun j=>B j∨j=p.1) P.globals.size γ (rA bx off (.slice (some ⟨p.1,0,none⟩) n cap) (g.s.h.put b none)) g.s.c w:=by
  have hbx2:(g.s.h.put b none).get bx=some (.cells ty0 own0 cl0 ex0 lim0 cs0):=by rw [Tr.get_put,if_neg hne];exact hbx
  obtain ⟨px2,hpx2,hbrx2⟩:=hr1.live bx _ hbx2
  obtain ⟨hy0,cy,tyy,fzy,hy1,hy2,hy3,hy4⟩:=hbrx2
  obtain rfl:px2=px:=by rw [hpx] at hpx2;injection hpx2 with e;exact e.symm
  have hcc:cy=cx:=by rw [hx1] at hy1;injection hy1 with e;injection e with e1 e2;exact e1.symm
  subst hcc
  unfold rA
  rw [hbx2]
  refine hr1.turn hbx2 hpx2 (aH _) (fun _ _ _=>rfl) ⟨hy0,cy,tyy,fzy,hy1,hy2,hy3,fun i a' hi hi'=>?_⟩
  rw [Tr.get_put] at hi'
  split at hi'
  · rename_i e
    subst e
    injection hi' with hi'
    subst hi'
    exact ⟨_,hv1,.v _⟩
  · exact hy4 i a' hi hi'
 refine (hg (some ⟨p.1,0,none⟩) cap w (fun j=>B j∨j=p.1) hk (fun j => .inl) (fun j hj=>hj.elim (fun h=>hr.base j h) (fun e=>by subst e;exact hlt)) ⟨hrow.1,.inr ⟨rfl,⟨.inr rfl,h0⟩,fun j v hv=>?_⟩⟩).out γ a w hle ⟨hf.size,hf.tmps,hf.defs⟩ hr2 (Keep.refl _ _)
 rw [← h3] at hv
 have hj:=(List.getElem?_eq_some_iff.1 hv).1
 rw [aT] at hj
 rw [List.getElem?_take,if_pos (by omega)] at hv
 simp only [gB,oB,bH]
 simp [World.cell?,h1]
 simpa using hv
end
end Go.Sy
end
end
section
noncomputable section
namespace Go.Sy
open Go Go.RowKit
section
variable {P:Program} {I:Aux} {B:Nat→Prop} {w0:World} {γ0:Gm} {nt:Nat} {Q:Exit→Act→World→Prop} {g:Cfg}
theorem aH8 (t:TypeId) (x y:Value) {ay:AV} (F:Nat→Prop) {Pr:World→World→Prop} (h:s7 P nt g=some (t,.v x,ay)) (hy:tU ay=some y) (hown:eL eA g.s.h=true) (hFB:∀ k,F k→B k)
  (hc:∀ w,Keep B w0 w→∃ w',(Instr.storeAt t x y).run P w = .ok () w'∧Pr w w'∧Keep (fun k=>k<w.heap.size∧¬ F k) w w')
  (hg:∀ w w' B',Keep B w0 w→Pr w w'→Keep (fun k=>k<w.heap.size∧¬ F k) w w'→Keep (fun k=>B k∧¬ F k) w0 w'→(∀ k,B k→B' k)→(∀ k,B' k→k<w'.heap.size)→Good P B' w' γ0 nt Q (nx0 g (bW undef))):Good P B w0 γ0 nt Q g:=by
 have hg:∀ w r w' B',Keep B w0 w→r=undef∧Pr w w'→Keep (fun k=>k<w.heap.size∧¬ F k) w w'→Keep (fun k=>B k∧¬ F k) w0 w'→(∀ k,B k→B' k)→(∀ k,w.heap.size≤k→k<w'.heap.size→B' k)→(∀ k,B' k→k<w'.heap.size)→Good P B' w' γ0 nt Q (nx0 g (bW r)):=
  fun w r w' B' h1 h2 h3 h4 h5 _ h7=>by rw [h2.1];exact hg w w' B' h1 h2.2 h3 h4 h5 h7
 unfold s7 at h
 split at h
 · cases h
 rename_i o ho
 split at h <;> first | (cases h;done) | skip
 rename_i t' x1 y1 hop
 split at h <;> first | (cases h;done) | skip
 rename_i aS aX hs hx
 injection h with h
 injection h with e1 h
 injection h with e2 e3
 subst e1 e2 e3
 refine m7 ho (fun γ a w K QQ hle hf hr hb hdst hdlt hK=>?_)
 have hok:=hf.ok (P:=P) (B:=B) (G:=0) hr.glob o.op.operands.toList
 have hmem:o.op.operands.toList=[x1,y1]:=by rw [hop];simp [Op.operands]
 have hs':=hok x1 (by simp [hmem]) _ hs
 have hx':=hok y1 (by simp [hmem]) _ hx
 have es:a.eval x1=x:=by generalize a.eval x1=q at hs';cases hs';rfl
 have ex:a.eval y1=y:=mC hy hx'
 obtain ⟨w',hrun,h1',h2⟩:=hc w hb
 obtain ⟨r,hr0⟩:∃ r,r=undef:=⟨_,rfl⟩
 have h1:r=undef∧Pr w w':=⟨hr0,h1'⟩
 have hopr:(execOp a.eval o).run P w = .ok .skip w':=by
  unfold execOp
  simp only [hop,es,ex,Sem.run_bind,Sem.run_pure,Result.andThen_ok,hrun]
 refine qZ hopr ?_
 rw [← hr0]
 have hk:Keep (fun k=>B k∧¬ F k) w0 w':=(hb.mono fun k h=>h.1).trans (h2.mono fun k h=>⟨hr.base k h.1,h.2⟩)
 have hnF:∀ b blk p,g.s.h.get b=some blk→γ b=some p→¬ F p.1:=fun b blk p hb1 hp hFp=>by
  obtain ⟨q,hq,hbr⟩:=hr.live b blk hb1
  rw [hp] at hq
  injection hq with hq
  subst hq
  exact kA (iD hown _ _ hb1) hbr (hFB _ hFp)
 have hr':HR B P.globals.size γ g.s.h g.s.c w':=⟨fun b blk hb1=>by
  obtain ⟨p,hp,hbr⟩:=hr.live b blk hb1
  exact ⟨p,hp,hbr.kept (h2.block _ ⟨hbr.lt,hnF b blk p hb1 hp⟩)⟩,hr.inj,hr.fresh,hr.glob,fun k h=>aE (hr.base k h) h2.size⟩
 refine hK _ _ ?_
 have hlt:∀ {b blk k N},g.s.h.get b=some blk→γ b=some (k,N)→k<w.heap.size:=by
  intro b blk k N hb1 hγ
  obtain ⟨p,hp,hbr⟩:=hr.live b blk hb1
  rw [hγ] at hp
  injection hp with hp
  subst hp
  exact hbr.lt
 have hg':=hg w r w' (fun k=>B k∨(k<w'.heap.size∧∀ b blk N,g.s.h.get b=some blk→γ b≠some (k,N))) hb h1 h2 hk (fun k => .inl)
  (fun k h3 h4 => .inr ⟨h4,fun b blk N hb1 hγ=>by have:=hlt hb1 hγ;omega⟩)
  (fun k hkk=>hkk.elim (fun h3=>hr'.base k h3) (fun h3=>h3.1))
 have hB:∀ b blk p,g.s.h.get b=some blk→γ b=some p→¬ B p.1→¬ (B p.1∨(p.1<w'.heap.size∧∀ b blk N,g.s.h.get b=some blk→γ b≠some (p.1,N))):=by
  intro b blk p hb1 hγ hnB hor
  rcases hor with h3 | h3
  · exact hnB h3
  · exact h3.2 b blk p.2 hb1 hγ
 have key1:FR γ nt (nx0 g (bW r)).s.T (nx0 g (bW r)).s.ds (a.put o.dst r):=by
  have hf':=hf.put (dst:=o.dst) (av:=bW r) (v:=r) (T':=dP o.dst g.s.T (bW r)) (Gm.le.refl γ) (eP r) (by
   unfold dK dP
   cases hd:o.dst with
   | none=>rfl
   | some d=>
     have:Nat.blt d nt=true:=Nat.ble_eq_true_of_le (hdlt d hd)
     simp only [this])
  have e:(nx0 g (bW r)).s.T=dP o.dst g.s.T (bW r)∧(nx0 g (bW r)).s.ds=g.s.ds:=by
   rw [← hdst]
   obtain ⟨k,s⟩:=g
   unfold nx0 nx kV dP
   unfold eC at ho
   simp only at ho
   split at ho <;> first | (cases ho;done) | skip
   exact ⟨rfl,rfl⟩
  rw [e.1,e.2]
  exact hf'
 have key2:HR (fun k=>B k∨(k<w'.heap.size∧∀ b blk N,g.s.h.get b=some blk→γ b≠some (k,N))) P.globals.size γ (nx0 g (bW r)).s.h (nx0 g (bW r)).s.c w':=by
  have e:(nx0 g (bW r)).s.h=g.s.h∧(nx0 g (bW r)).s.c=g.s.c:=by
   obtain ⟨k,s⟩:=g
   unfold nx0 nx
   unfold eC at ho
   simp only at ho
   split at ho <;> first | (cases ho;done) | skip
   exact ⟨rfl,rfl⟩
  rw [e.1,e.2]
  refine ⟨fun b blk hb1=>?_,hr'.inj,hr'.fresh,hr'.glob,fun k hkk=>hkk.elim (fun h3=>hr'.base k h3) (fun h3=>h3.1)⟩
  obtain ⟨p,hp,hbr⟩:=hr'.live b blk hb1
  refine ⟨p,hp,?_⟩
  have hBp:=hB b blk p hb1 hp
  cases blk with
  | cells ty own clean ex lim cs=>
    obtain ⟨h0,h5⟩:=hbr
    exact ⟨fun ho=>hBp (h0 ho),h5⟩
  | map es clock=>
    obtain ⟨h0,h5⟩:=hbr
    exact ⟨hBp h0,h5⟩
  | row e xs=>
    obtain ⟨h0,h5⟩:=hbr
    exact ⟨hBp h0,h5⟩
 have hfin:=hg'.out γ (a.put o.dst r) w' hle key1 key2 (Keep.refl _ _)
 have e:(nx0 g (bW r)).k=iM g:=by
  obtain ⟨k,s⟩:=g
  unfold nx0 nx iM
  unfold eC at ho
  simp only at ho
  split at ho <;> first | (cases ho;done) | skip
  rfl
 rw [e] at hfin
 exact hfin
end
theorem aI5 {P:Program} {ty:TypeId} {n:Nat} (hz:szB P ty=some n) {w:World} {b:Nat} {c:Array Value} {e:TypeId} (hb:w.heap[b]?=some (.cells c e (0,0))) (hc:c.size=n) (vs:List Value) (hvs:vs.length=n) {v:Value} (hv:v.cells=vs.toArray) (h1:∀ x∈vs,x.oneCell'=true):
  ∃ w',(Instr.storeAt ty (.pointer (some ⟨b,0,none⟩)) v).run P w = .ok () w'∧w'.heap[b]?=some (.cells vs.toArray e (0,0))∧Keep (fun k=>k<w.heap.size∧¬ k=b) w w':=by
 have hst:=run_storeCells_at (P:=P) b 0 e vs 0 c w hb (by omega) h1
 have hcl:c.toList.length=c.size:=Array.length_toList
 have hl:(c.toList.take (0+0)++vs++c.toList.drop (0+0+vs.length))=vs:=by
  rw [bH,List.take_zero,bR,List.drop_eq_nil_of_le (by omega),bF]
 rw [hl] at hst
 refine ⟨w.setRow b vs.toArray,?_,setRow_heap _ _ _ _ _ _ hb,⟨rfl,rfl,rfl,by simp,fun k hk=>setRow_other _ _ _ _ (fun e=>hk.2 e)⟩⟩
 have hns:¬ vs.toArray.size≠n:=by simp [hvs]
 simp only [Instr.storeAt,Instr.sureAddr,Sem.run_bind,Sem.run_pure,Result.andThen_ok,storeVar,szB_ok hz,hv,if_neg hns,hst]
end Go.Sy
end
end
