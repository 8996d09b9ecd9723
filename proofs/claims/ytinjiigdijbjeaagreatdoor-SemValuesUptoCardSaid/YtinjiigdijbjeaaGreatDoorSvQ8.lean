/- Texts of this proof, one behind the other. Conditions: those in each theorem. -/
import Derived.Test.YtinjiigdijbjeaaGreatDoorSvQ7
import Derived.Deep.Quiet
import Derived.Test.YtinjiigdijbjeaaGreatDoorSvQ1
import Derived.Test.YtinjiigdijbjeaaGreatDoorRows
import Derived.Laws.Externs
set_option linter.unusedVariables false
set_option linter.unusedSimpArgs false
section
noncomputable section
namespace Go.Sy
open Go Go.RowKit
mutual
def avFun:AV→Bool
 | .v _=>true
 | .ptr _ _=>true
 | .sl _ _ _ _=>true
 | .slg _ off len esz=>match esz with
   | 0=>false
   | _+1=>match off with
     | 0=>true
     | _+1=>match len with
       | 0=>false
       | _+1=>true
 | .agg l=>avFunL l
 | .tup l=>avFunL l
 | .ifc _ a=>avFun a
 | .fn _ l r=>match avFunL l with
   | true=>avFunL r
   | false=>false
 | .map _=>true
def avFunL:List AV→Bool
 | []=>true
 | a::l=>match avFun a with
   | true=>avFunL l
   | false=>false
end
theorem avFunL_get:∀ {l:List AV},avFunL l=true→∀ (i:Nat) (a:AV),l[i]?=some a→avFun a=true
 | [],_,i,a,hi=>by simp at hi
 | b::l,h,i,a,hi=>by
   simp only [avFunL] at h
   split at h
   · rename_i hb
     cases i with
     | zero=>simp at hi;subst hi;exact hb
     | succ i=>exact avFunL_get h i a (by simpa using hi)
   · cases h
theorem rows_eq {aS:List AV} {vs ws:Array Value} (h1:aS.length=vs.size) (h2:aS.length=ws.size) (h:∀ (i:Nat) (a:AV) (x y:Value),aS[i]?=some a→vs[i]?=some x→ws[i]?=some y→x=y):vs=ws:=by
 apply Array.ext (h1.symm.trans h2)
 intro i hi hj
 have ha:aS[i]?=some (aS[i]'(by omega)):=List.getElem?_eq_getElem (by omega)
 exact h i _ _ _ ha (Array.getElem?_eq_getElem hi) (Array.getElem?_eq_getElem hj)
theorem VR_fun {γ:Gm} {a:AV} {x:Value} (h:VR γ a x):∀ {y:Value},avFun a=true→VR γ a y→x=y:=by
 induction h with
 | v x=>intro y _ hy;cases hy;rfl
 | ptr h=>intro y _ hy;cases hy with | ptr h'=>rw [h] at h';injection h' with h';injection h' with e1 e2;subst e1;rfl
 | sl h hl=>intro y _ hy;cases hy with | sl h' hl'=>rw [h] at h';injection h' with h';injection h' with e1 e2;subst e1;rfl
 | slg h hl hm ho=>
   intro y hf hy
   cases hy with
   | slg h' hl' hm' ho'=>
     rename_i b off len esz n N o cap n' N' o' cap'
     rw [h] at h';injection h' with h';injection h' with e1 e2;subst e1 e2
     cases esz with
     | zero=>cases hf
     | succ z=>
       have hk:off=0∨0<len:=by
        cases off with
        | zero=>exact .inl rfl
        | succ _=>cases len with
          | zero=>cases hf
          | succ _=>exact .inr (by omega)
       obtain ⟨rfl,e3⟩:=ho hk
       obtain ⟨rfl,e4⟩:=ho' hk
       have:cap*(z+1)=cap'*(z+1):=by omega
       have:=Nat.eq_of_mul_eq_mul_right (Nat.succ_pos z) this
       subst this
       rfl
 | agg hl hh ih=>
   intro y hf hy
   cases hy with
   | agg hl' hh'=>exact congrArg Value.agg (rows_eq hl hl' (fun i a x y h1 h2 h3=>ih i a x h1 h2 (avFunL_get hf i a h1) (hh' i a y h1 h3)))
 | tup hl hh ih=>
   intro y hf hy
   cases hy with
   | tup hl' hh'=>exact congrArg Value.tuple (rows_eq hl hl' (fun i a x y h1 h2 h3=>ih i a x h1 h2 (avFunL_get hf i a h1) (hh' i a y h1 h3)))
 | ifc _ ih=>
   intro y hf hy
   cases hy with
   | ifc hy=>rw [ih hf hy]
 | fn hl hh hl2 hh2 ih ih2=>
   intro y hf hy
   simp only [avFun] at hf
   split at hf <;> first | (cases hf;done) | skip
   rename_i hf1
   cases hy with
   | fn hl' hh' hl2' hh2'=>
     rw [rows_eq hl hl' (fun i a x y h1 h2 h3=>ih i a x h1 h2 (avFunL_get hf1 i a h1) (hh' i a y h1 h3)),rows_eq hl2 hl2' (fun i a x y h1 h2 h3=>ih2 i a x h1 h2 (avFunL_get hf i a h1) (hh2' i a y h1 h3))]
 | map h=>intro y _ hy;cases hy with | map h'=>rw [h] at h';injection h' with h';injection h' with e1 e2;subst e1;rfl
structure QCfg where
 arr:Array Oper
 l:List Oper
 k:List It
 s:St
def drawAt (g:Cfg):Option QCfg:=match g.k with
 | .code (.region _ ops true)::k=>match Region.lexB .any ops with
   | true=>some ⟨ops,ops.toList,k,g.s⟩
   | false=>none
 | _=>none
def isDraw (g:Cfg):Bool:=match drawAt g with
 | some _=>true
 | none=>false
def drawQ (g:Cfg):QCfg:=match drawAt g with
 | some q=>q
 | none=>⟨#[],[],[],g.s⟩
structure GoodQ (P:Program) (B:Nat→Prop) (w0:World) (γ0:Gm) (nt:Nat) (Q:Exit→Act→World→Prop) (q:QCfg):Prop where
 out:∀ γ a w,Gm.le γ0 γ→FR γ nt q.s.T q.s.ds a→HR B P.globals.size γ q.s.h q.s.c w→Keep B w0 w→
  wpQuiet P q.arr (fun w'=>Below w.heap.size w w') (fun a'=>∀ w',Below w.heap.size w w'→after P Q q.k .normal a' w') q.l a
def qOp1 (P:Program) (nt:Nat) (arr:Array Oper) (o:Oper) (l:List Oper) (k:List It) (s:St):Option QCfg:=match awanted arr s.T o with
 | none=>none
 | some false=>match tput nt s.T o.dst (.tup []) with
   | none=>none
   | some T'=>some ⟨arr,l,k,⟨T',s.h,s.c,s.ds⟩⟩
 | some true=>match evalPure P s.T o with
   | some av=>match tput nt s.T o.dst av with
     | none=>none
     | some T'=>some ⟨arr,l,k,⟨T',s.h,s.c,s.ds⟩⟩
   | none=>match evalLoad P s.T s.h o with
     | some av=>match avFun av with
       | true=>match tput nt s.T o.dst av with
         | none=>none
         | some T'=>some ⟨arr,l,k,⟨T',s.h,s.c,s.ds⟩⟩
       | false=>none
     | none=>none
def qstep (P:Program) (nt:Nat) (stops:List Nat) (q:QCfg):Option QCfg:=match q.l with
 | []=>none
 | o::l=>match stopAt o.dst stops with
   | true=>none
   | false=>qOp1 P nt q.arr o l q.k q.s
noncomputable def qrun (P:Program) (nt:Nat) (stops:List Nat) (n:Nat):QCfg→QCfg:=
 Nat.rec (motive:=fun _=>QCfg→QCfg) (fun q=>q) (fun _ ih q=>match qstep P nt stops q with
  | some q'=>ih q'
  | none=>q) n
def qHd (P:Program) (nt:Nat) (q:QCfg):Option Oper:=match q.l with
 | o::_=>match awanted q.arr q.s.T o with
   | some true=>match o.dst with
     | none=>some o
     | some d=>match Nat.blt d nt with
       | true=>some o
       | false=>none
   | _=>none
 | _=>none
def qNx (q:QCfg) (av:AV):QCfg:=match q.l with
 | o::l=>⟨q.arr,l,q.k,⟨putD o.dst q.s.T av,q.s.h,q.s.c,q.s.ds⟩⟩
 | []=>q
def qSem (P:Program) (nt:Nat) (q:QCfg):Option (Sem Value):=match qHd P nt q with
 | none=>none
 | some o=>match aclosed P q.s.T o.op.operands.toList with
   | true=>semV (arho P q.s.T) o.op
   | false=>none
def qCall (P:Program) (nt:Nat) (q:QCfg):Option (FuncId×List AV):=match qHd P nt q with
 | none=>none
 | some o=>callOf P q.s.T o
def qSet (q:QCfg) (t:Nat) (av:AV):QCfg:=⟨q.arr,q.l,q.k,⟨q.s.T.put t (some av),q.s.h,q.s.c,q.s.ds⟩⟩
def qDone (q:QCfg):Bool:=match q.l with
 | []=>true
 | _=>false
def qOut (q:QCfg):Cfg:=⟨q.k,q.s⟩
section
variable {P:Program} {I:Aux} {B:Nat→Prop} {w0:World} {γ0:Gm} {nt:Nat} {Q:Exit→Act→World→Prop} {g:Cfg} {q q':QCfg}
theorem good_draw' (hm:P.follows .mixedOrders=true) (q:QCfg) (h:drawAt g=some q) (hg:GoodQ P B w0 γ0 nt Q q):Good P B w0 γ0 nt Q g:=by
 obtain ⟨k,s⟩:=g
 unfold drawAt at h
 simp only at h
 split at h <;> first | (cases h;done) | skip
 rename_i id ops k'
 split at h <;> first | (cases h;done) | skip
 rename_i hB
 injection h with h
 subst h
 refine ⟨fun γ a w hle hf hr hb=>?_⟩
 simp only [after,Exit.then]
 exact wp_region_quiet (C:=fun w'=>Below w.heap.size w w') hm hB ⟨rfl,rfl,rfl,Nat.le_refl _,fun _ _=>rfl⟩ (hg.out γ a w hle hf hr hb)
theorem good_draw (hm:P.follows .mixedOrders=true) (h:isDraw g=true) (hg:GoodQ P B w0 γ0 nt Q (drawQ g)):Good P B w0 γ0 nt Q g:=by
 unfold isDraw at h
 unfold drawQ at hg
 split at h
 · rename_i q hq
   rw [hq] at hg
   exact good_draw' hm q hq hg
 · cases h
theorem q_of {o:Oper} {l:List Oper} {T':Tr AV} {γ:Gm} {a:Act} {w:World} (hl:q.l=o::l) (hw:awanted q.arr q.s.T o=some true) (hle:Gm.le γ0 γ) (hf:FR γ nt q.s.T q.s.ds a) (hr:HR B P.globals.size γ q.s.h q.s.c w) (hb:Keep B w0 w)
  (v:Value) (av:AV) (hv:VR γ av v) (hT:tput nt q.s.T o.dst av=some T') (hq:∀ w',Below w.heap.size w w'→o.quietAt P a (fun w'=>Below w.heap.size w w') w' v) (hg:GoodQ P B w0 γ0 nt Q ⟨q.arr,l,q.k,⟨T',q.s.h,q.s.c,q.s.ds⟩⟩):
  wpQuiet P q.arr (fun w'=>Below w.heap.size w w') (fun a'=>∀ w',Below w.heap.size w w'→after P Q q.k .normal a' w') q.l a:=by
 have hw':=awanted_ok (a:=a) (fun j want p t av _ _ _ ht=>hf.tmps t av ht) hw
 rw [hl]
 unfold wpQuiet
 rw [if_pos hw']
 exact ⟨v,hq,hg.out γ _ w hle (hf.put (Gm.le.refl _) hv hT) hr hb⟩
theorem value_quiet {o:Oper} {a:Act} {C:World→Prop} {w:World} {v:Value} (h:(execOp a.eval o).run P w = .ok (.value v) w):o.quietAt P a C w v:=by
 unfold Oper.quietAt
 rw [h]
 exact ⟨rfl,rfl⟩
theorem HR.at_ {γ:Gm} {h:Hp} {c G:Nat} {w w':World} (hr:HR B G γ h c w) (hbl:Below w.heap.size w w'):HR B G γ h c w':=hr.kept hbl.size hbl.block
theorem Keep.at_ {γ:Gm} {h:Hp} {c G:Nat} {w w':World} (hb:Keep B w0 w) (hr:HR B G γ h c w) (hbl:Below w.heap.size w w'):Keep B w0 w':=hb.trans (Keep.of_below hbl hr.base)
theorem qstep_ok {stops:List Nat} (h:qstep P nt stops q=some q') (hg:GoodQ P B w0 γ0 nt Q q'):GoodQ P B w0 γ0 nt Q q:=by
 unfold qstep at h
 split at h
 · cases h
 rename_i o l hl
 split at h
 · cases h
 refine ⟨fun γ a w hle hf hr hb=>?_⟩
 have hok:=hf.ok (P:=P) (B:=B) (G:=0) hr.glob o.op.operands.toList
 unfold qOp1 at h
 split at h
 · cases h
 · rename_i hw
   have hw':=awanted_ok (a:=a) (fun j want p t av _ _ _ ht=>hf.tmps t av ht) hw
   split at h
   · cases h
   rename_i T' hT'
   injection h with h
   subst h
   rw [hl]
   unfold wpQuiet
   rw [if_neg (by simp [hw'])]
   exact hg.out γ _ w hle (hf.put (Gm.le.refl _) (undef_VR γ) hT') hr hb
 · rename_i hw
   split at h
   · rename_i av hav
     split at h
     · cases h
     rename_i T' hT'
     injection h with h
     subst h
     obtain ⟨v,h1,h2⟩:=evalPure_ok hok hav
     exact q_of hl hw hle hf hr hb v av h1 hT' (fun w' _=>value_quiet (h2 w')) hg
   · split at h
     · rename_i av hav
       split at h <;> first | (cases h;done) | skip
       rename_i hfun
       split at h
       · cases h
       rename_i T' hT'
       injection h with h
       subst h
       obtain ⟨v,h1,h2⟩:=evalLoad_ok hr hok hav
       refine q_of hl hw hle hf hr hb v av h1 hT' (fun w' hbl=>?_) hg
       obtain ⟨v',h3,h4⟩:=evalLoad_ok (hr.at_ hbl) hok hav
       rw [VR_fun h1 hfun h3]
       exact value_quiet h4
     · cases h
theorem qrun_succ (stops:List Nat) (n:Nat) (q:QCfg):qrun P nt stops (n+1) q=(match qstep P nt stops q with
 | some q'=>qrun P nt stops n q'
 | none=>q):=rfl
theorem qrun_ok {stops:List Nat}:∀ (n:Nat) (q:QCfg),GoodQ P B w0 γ0 nt Q (qrun P nt stops n q)→GoodQ P B w0 γ0 nt Q q
 | 0,q,h=>h
 | n+1,q,h=>by
   rw [qrun_succ] at h
   split at h
   · rename_i q' hq'
     exact qstep_ok hq' (qrun_ok n q' h)
   · exact h
theorem q_run (stops:List Nat) (n:Nat) (h:GoodQ P B w0 γ0 nt Q (qrun P nt stops n q)):GoodQ P B w0 γ0 nt Q q:=qrun_ok n q h
theorem qHd_spec {o:Oper} (h:qHd P nt q=some o):∃ l,q.l=o::l∧awanted q.arr q.s.T o=some true∧∀ av,tput nt q.s.T o.dst av=some (putD o.dst q.s.T av):=by
 unfold qHd at h
 split at h <;> first | (cases h;done) | skip
 rename_i o' l hl
 split at h <;> first | (cases h;done) | skip
 rename_i hw
 split at h
 · rename_i hd
   injection h with h
   subst h
   exact ⟨l,hl,hw,fun av=>by unfold tput putD;rw [hd]⟩
 · rename_i d hd
   split at h <;> first | (cases h;done) | skip
   rename_i hlt
   injection h with h
   subst h
   exact ⟨l,hl,hw,fun av=>by unfold tput putD;rw [hd];simp only [hlt]⟩
theorem qNx_eq {o:Oper} {l:List Oper} (hl:q.l=o::l) (av:AV):qNx q av=⟨q.arr,l,q.k,⟨putD o.dst q.s.T av,q.s.h,q.s.c,q.s.ds⟩⟩:=by
 unfold qNx
 rw [hl]
theorem q_val {S:Sem Value} (x:Value) (h:qSem P nt q=some S) (hrun:∀ w,Keep B w0 w→S.run P w = .ok x w) (hg:GoodQ P B w0 γ0 nt Q (qNx q (norm x))):GoodQ P B w0 γ0 nt Q q:=by
 unfold qSem at h
 split at h
 · cases h
 rename_i o ho
 split at h <;> first | (cases h;done) | skip
 rename_i hcl
 obtain ⟨l,hl,hw,hput⟩:=qHd_spec ho
 rw [qNx_eq hl] at hg
 refine ⟨fun γ a w hle hf hr hb=>?_⟩
 have hok:=hf.ok (P:=P) (B:=B) (G:=0) hr.glob o.op.operands.toList
 have hns:∀ cs b,o.op = .select cs b→False:=fun cs b e=>by rw [e] at h;cases h
 have hcong:=execOp_congr (ρ:=arho P q.s.T) (ρ':=a.eval) o (fun cs b e=>(hns cs b e).elim) (fun x hx=>arho_ok hok hcl x (by simpa using hx))
 exact q_of hl hw hle hf hr hb x (norm x) (norm_VR x) (hput _) (fun w' hbl=>value_quiet (by rw [← hcong];exact semV_run h (hrun w' (hb.at_ hr hbl)))) hg
theorem q_callB (cx:Cx P I B w0) {f:FuncId} (xs:List Value) (r:Value) (h:qCall P nt q=some (f,xs.map norm)) (hbod:bodied P f=some true) (hx:closeLL (xs.map norm)=some xs)
  (hc:∀ w,Keep B w0 w→Calls P f xs.toArray w fun e w'=>e = .returned r∧Below w.heap.size w w') (hg:GoodQ P B w0 γ0 nt Q (qNx q (norm r))):GoodQ P B w0 γ0 nt Q q:=by
 unfold qCall at h
 split at h
 · cases h
 rename_i o ho
 obtain ⟨l,hl,hw,hput⟩:=qHd_spec ho
 rw [qNx_eq hl] at hg
 refine ⟨fun γ a w hle hf hr hb=>?_⟩
 have hok:=hf.ok (P:=P) (B:=B) (G:=0) hr.glob o.op.operands.toList
 obtain ⟨fn,code,hfn,hbd⟩:=bodied_true hbod
 obtain ⟨vs,hlr,hrun⟩:=callOf_ok hok h
 obtain rfl:=closeLL_eq hx hlr
 refine q_of hl hw hle hf hr hb r (norm r) (norm_VR r) (hput _) (fun w' hbl=>?_) hg
 unfold Oper.quietAt
 rw [hrun,enter_ok cx.hn hfn hbd]
 refine ⟨rfl,(hc w' (hb.at_ hr hbl)).mono fun e w'' hR=>⟨hR.1,hbl.trans (hR.2.mono hbl.size)⟩⟩
theorem q_set (t:Nat) {x:Value} (y:Value) (h:q.s.T.get t=some (.v x)) (e:x=y) (hg:GoodQ P B w0 γ0 nt Q (qSet q t (norm y))):GoodQ P B w0 γ0 nt Q q:=by
 subst e
 refine ⟨fun γ a w hle hf hr hb=>hg.out γ a w hle ⟨hf.size,fun t' av ht=>?_,hf.defs⟩ hr hb⟩
 simp only [qSet] at ht
 rw [Tr.get_put] at ht
 split at ht
 · rename_i e
   subst e
   injection ht with ht
   subst ht
   obtain ⟨v,h1,h2⟩:=hf.tmps _ _ h
   cases h2
   exact ⟨_,h1,norm_VR _⟩
 · exact hf.tmps t' av ht
theorem q_end (h:qDone q=true) (hg:Good P B w0 γ0 nt Q (qOut q)):GoodQ P B w0 γ0 nt Q q:=by
 unfold qDone at h
 split at h <;> first | (cases h;done) | skip
 rename_i hl
 refine ⟨fun γ a w hle hf hr hb=>?_⟩
 rw [hl]
 exact fun w' hbl=>hg.out γ a w' hle hf (hr.at_ hbl) (hb.at_ hr hbl)
end
end Go.Sy
end
end
section
noncomputable section
namespace Go.Sy
open Go Go.RowKit
def gB (a:Option Addr):Nat:=match a with
 | some x=>x.block
 | none=>0
def oB (a:Option Addr):Nat:=match a with
 | some x=>x.off
 | none=>0
structure SlAt (F:Nat→Prop) (w:World) (a:Option Addr) (n sz:Nat) (xs:List Value):Prop where
 len:xs.length=n*sz
 place:n=0∨(a=some ⟨gB a,oB a,none⟩∧F (gB a)∧w.rangeAt (gB a) (oB a) xs)
theorem rangeAt_keep {F:Nat→Prop} {w w':World} (hk:Keep F w w') {b o:Nat} {xs:List Value} (hF:F b) (h:w.rangeAt b o xs):w'.rangeAt b o xs:=fun j v hv=>by
 rw [World.cell?_of_block (w:=w) (hk.block b hF)]
 exact h j v hv
theorem SlAt.keep {F:Nat→Prop} {w w':World} {a:Option Addr} {n sz:Nat} {xs:List Value} (h:SlAt F w a n sz xs) (hk:Keep F w w'):SlAt F w' a n sz xs:=
 ⟨h.len,h.place.imp id fun ⟨h1,h2,h3⟩=>⟨h1,h2,rangeAt_keep hk h2 h3⟩⟩
theorem SlAt.mono {F F':Nat→Prop} {w:World} {a:Option Addr} {n sz:Nat} {xs:List Value} (h:SlAt F w a n sz xs) (hF:∀ k,F k→F' k):SlAt F' w a n sz xs:=
 ⟨h.len,h.place.imp id fun ⟨h1,h2,h3⟩=>⟨h1,hF _ h2,h3⟩⟩
theorem SlAt.of_own {F:Nat→Prop} {w:World} {base e sz n:Nat} {x:Value} {xs:List Value} (h:w.ownsRow base e sz x n xs) (hF:∀ k,base≤k→k<w.heap.size→F k):∃ a cap,x = .slice a n cap∧n≤cap∧SlAt F w a n sz xs:=by
 obtain ⟨hl,⟨rfl,rfl⟩ | ⟨g,cap,cur,rfl,hb,hh,hnc,hcm,hcs,ht⟩⟩:=h
 · exact ⟨none,0,rfl,Nat.le_refl _,⟨hl,.inl rfl⟩⟩
 · refine ⟨some ⟨g,0,none⟩,cap,rfl,hnc,⟨hl,.inr ⟨rfl,hF g hb (Array.getElem?_eq_some_iff.1 hh).1,fun j v hv=>?_⟩⟩⟩
   rw [← ht] at hv
   have hj:=(List.getElem?_eq_some_iff.1 hv).1
   rw [List.length_take] at hj
   rw [List.getElem?_take,if_pos (by omega)] at hv
   simp only [gB,oB,Nat.zero_add]
   simp [World.cell?,hh]
   simpa using hv
section
variable {P:Program} {F:Nat→Prop} {w:World} {a:Option Addr} {n sz cap:Nat} {xs:List Value}
theorem idx_sl {t e:TypeId} (h:SlAt F w a n sz xs) (hu:elemOf P t=some e) (hi:szB P e=some sz) {i:Nat} (hin:i<n) (W:World):
  (Instr.indexAt t (.slice a n cap) (.int .i64 (i:Int))).run P W = .ok (.pointer (some ⟨gB a,oB a+i*sz,none⟩)) W:=by
 rcases h.place with h0 | ⟨ha,_,_⟩
 · omega
 unfold elemOf at hu
 split at hu <;> first | (cases hu;done) | skip
 rename_i e' hu'
 injection hu with hu
 subst hu
 rw [ha]
 simp [Instr.indexAt,asIntOf,run_underlying hu',szB_ok hi,Addr.add_mid,hin,gB,oB]
theorem load_cell {ty:TypeId} {b o j:Nat} {v:Value} (hb:aggB P ty=some false) (h:w.cell? ⟨b,o+j,none⟩=some v):(Instr.loadAt ty (.pointer (some ⟨b,o+j,none⟩))).run P w = .ok v w:=by
 simp [Instr.loadAt,Instr.sureAddr,loadVar,aggB_ok hb,h]
theorem sl_cell (h:SlAt F w a n sz xs) {j:Nat} {v:Value} (hv:xs[j]?=some v):w.cell? ⟨gB a,oB a+j,none⟩=some v:=by
 rcases h.place with h0 | ⟨_,_,h3⟩
 · have:=h.len
   rw [h0,Nat.zero_mul] at this
   rw [List.eq_nil_of_length_eq_zero this] at hv
   simp at hv
 · exact h3 j v hv
theorem load_sl {ty:TypeId} (h:SlAt F w a n sz xs) (hb:aggB P ty=some false) (i o:Nat) {v:Value} (hv:xs[i*sz+o]?=some v) {W:World} (hk:Keep F w W):
  (Instr.loadAt ty (.pointer (some ⟨gB a,oB a+i*sz+o,none⟩))).run P W = .ok v W:=by
 rw [Nat.add_assoc]
 exact load_cell hb (sl_cell (h.keep hk) hv)
theorem load_slA {ty:TypeId} {m:Nat} (h:SlAt F w a n sz xs) (hb:aggB P ty=some true) (hs:szB P ty=some m) (i o:Nat) {cs:List Value} (hm:cs.length=m) (hc:∀ j v,cs[j]?=some v→xs[i*sz+o+j]?=some v) {W:World} (hk:Keep F w W):
  (Instr.loadAt ty (.pointer (some ⟨gB a,oB a+i*sz+o,none⟩))).run P W = .ok (.agg cs.toArray) W:=by
 have hl:(loadCells ⟨gB a,oB a+i*sz+o,none⟩ cs.length).run P W = .ok cs.toArray W:=
  run_loadCells_list (P:=P) W _ cs (fun j v hv=>by
   rw [Addr.add_mid,Nat.add_assoc,Nat.add_assoc,← Nat.add_assoc (i*sz)]
   exact sl_cell (h.keep hk) (hc j v hv))
 simp [Instr.loadAt,Instr.sureAddr,loadVar,aggB_ok hb,szB_ok hs,← hm,hl]
end
end Go.Sy
end
end
section
noncomputable section
namespace Go.Sy
open Go Go.RowKit Go.As
section
variable {P:Program} {ops:Array Oper} {Q:Exit→Act→World→Prop} {md:Region.Mode}
def lastPost (P:Program) (ops:Array Oper) (Q:Exit→Act→World→Prop) (z:Nat):Exit→Act→World→Prop
 | .normal,a,w=>wpOp P ops Q z (fun a w=>Q .normal a w) a w
 | .exit i,a,w=>Q (.exit i) a w
 | .goto i,a,w=>Q (.goto i) a w
 | .ret,a,w=>Q .ret a w
 | .panic c,a,w=>Q (.panic c) a w
 | .outgrown,a,w=>Q .outgrown a w
structure LastAt (md:Region.Mode) (ops:Array Oper) (z:Nat):Prop where
 lt:z<ops.size
 waits:∀ oz,ops[z]?=some oz→∀ j,j≠z→j<ops.size→∃ e∈oz.after,Region.binds md e=true∧e.on=j
 free:∀ (j:Nat) (oj:Oper),ops[j]?=some oj→∀ e∈oj.after,Region.binds md e=true→e.on<j∧e.on≠z
theorem ready_some {z:Nat} (hz:LastAt md ops z) {l:Array Bool} (hl:l.size=ops.size):∀ (j:Nat),j<ops.size→l.getD j true=false→Region.ready md ops l≠[]:=by
 intro j
 induction j using Nat.strongRecOn with
 | _ j ih=>
   intro hj hun hr
   obtain ⟨oj,hoj⟩:∃ oj,ops[j]?=some oj:=⟨ops[j],Array.getElem?_eq_getElem hj⟩
   by_cases hall:∀ e∈oj.after,Region.binds md e=true→l.getD e.on false=true
   · have:j∈Region.ready md ops l:=mem_ready.2 ⟨hun,oj,hoj,hall⟩
     rw [hr] at this
     cases this
   · simp only [Classical.not_forall] at hall
     obtain ⟨e,he,hb,hne⟩:=hall
     have hlt:=(hz.free j oj hoj e he hb).1
     refine ih e.on hlt (by omega) ?_ hr
     have hlt2:e.on<l.size:=by omega
     have h1:l.getD e.on false=l[e.on]:=by simp [hlt2]
     have h2:l.getD e.on true=l[e.on]:=by simp [hlt2]
     rw [h2]
     rw [h1] at hne
     simpa using hne
theorem wpAny_last {z:Nat} (hz:LastAt md ops z):∀ (fuel:Nat) (l:Array Bool) (a:Act) (w:World),l.size=ops.size→l.getD z true=false→
  wpAny P md ops (lastPost P ops Q z) fuel (l.setIfInBounds z true) a w→wpAny P md ops Q (fuel+1) l a w:=by
 have hset:∀ (l:Array Bool) (i j:Nat),(l.setIfInBounds i true).setIfInBounds j true=(l.setIfInBounds j true).setIfInBounds i true:=by
  intro l i j
  by_cases e:i=j
  · subst e;rfl
  · exact Array.setIfInBounds_comm true true e
 have hzr:∀ {l:Array Bool},z∈Region.ready md ops l→Region.ready md ops (l.setIfInBounds z true)=[]:=by
  intro l h
  obtain ⟨h0,oz,hoz,hall⟩:=mem_ready.1 h
  apply List.eq_nil_iff_forall_not_mem.2
  intro j hj
  obtain ⟨h1,oj,hoj,_⟩:=mem_ready.1 hj
  have hjlt:j<ops.size:=(Array.getElem?_eq_some_iff.1 hoj).1
  by_cases hjz:j=z
  · subst hjz
    rcases Nat.lt_or_ge j l.size with h2 | h2
    · simp [h2] at h1
    · simp [Array.getElem?_eq_none h2] at h0
  · obtain ⟨e,he,hb,heq⟩:=hz.waits oz hoz j hjz hjlt
    have h3:=hall e he hb
    rw [heq] at h3
    rw [getD_set_ne true (fun e=>hjz e.symm)] at h1
    rcases Nat.lt_or_ge j l.size with h2 | h2
    · simp [h2] at h1 h3
      rw [h3] at h1
      cases h1
    · simp [Array.getElem?_eq_none h2] at h3
 intro fuel
 induction fuel with
 | zero=>
   intro l a w hl hun H
   refine ⟨fun hr=>absurd hr (ready_some hz hl z hz.lt hun),fun i hi=>?_⟩
   by_cases hiz:i=z
   · subst hiz
     exact wpOp_mono (fun a' w' h=>⟨hzr hi,h⟩) H.2
   · have:=ready_mono (i:=z) hi hiz
     rw [H.1] at this
     cases this
 | succ fuel ih=>
   intro l a w hl hun H
   refine ⟨fun hr=>absurd hr (ready_some hz hl z hz.lt hun),fun i hi=>?_⟩
   by_cases hiz:i=z
   · subst hiz
     have hr:=hzr hi
     have:=H.1 hr
     exact wpOp_mono (fun a' w' h=>⟨fun _=>h,fun j hj=>by rw [hr] at hj;cases hj⟩) this
   · have h1:=H.2 i (ready_mono (i:=z) hi hiz)
     have h2:wpOp P ops Q i (wpAny P md ops (lastPost P ops Q z) fuel ((l.setIfInBounds z true).setIfInBounds i true)) a w:=h1
     refine wpOp_mono (fun a' w' h=>?_) h2
     rw [hset] at h
     exact ih _ a' w' (by simpa using hl) (by rw [getD_set_ne true (fun e=>hiz e)];exact hun) h
end
def lastChk (ops:Array Oper) (z:Nat):Bool:=match ops[z]? with
 | none=>false
 | some oz=>((List.range ops.size).all fun j=>Nat.beq j z || oz.after.toList.any fun e=>Region.binds .any e&&Nat.beq e.on j) &&
  (ops.toList.zipIdx.all fun x=>x.1.after.toList.all fun e=>!Region.binds .any e || (Nat.blt e.on x.2&&!Nat.beq e.on z))
theorem lastChk_ok {ops:Array Oper} {z:Nat} (h:lastChk ops z=true):LastAt .any ops z:=by
 unfold lastChk at h
 split at h
 · cases h
 rename_i oz hoz
 rw [Bool.and_eq_true] at h
 obtain ⟨h1,h2⟩:=h
 refine ⟨(Array.getElem?_eq_some_iff.1 hoz).1,fun oz' hoz' j hjz hj=>?_,fun j oj hoj e he hb=>?_⟩
 · rw [hoz] at hoz'
   injection hoz' with hoz'
   subst hoz'
   have:=List.all_eq_true.1 h1 j (List.mem_range.2 hj)
   rw [Bool.or_eq_true] at this
   rcases this with h3 | h3
   · exact absurd (Nat.eq_of_beq_eq_true h3) hjz
   · obtain ⟨e,he,h4⟩:=List.any_eq_true.1 h3
     rw [Bool.and_eq_true] at h4
     exact ⟨e,by simpa using he,h4.1,Nat.eq_of_beq_eq_true h4.2⟩
 · have hm:(oj,j)∈ops.toList.zipIdx:=by
    rw [List.mem_zipIdx_iff_getElem?]
    simpa using hoj
   have:=List.all_eq_true.1 (List.all_eq_true.1 h2 _ hm) e (by simpa using he)
   simp only [hb,Bool.not_true,Bool.false_or,Bool.and_eq_true] at this
   exact ⟨blt_lt this.1,beq_no this.2⟩
def toPlan (p:Go.As.Plan) (z:Nat) (S:World→Prop) (g:Cfg):Cfg:=match g.k with
 | .code (.region _ ops true)::k=>match ops[z]? with
   | some oz=>⟨.pl ops p S :: .ops ops [oz] :: .np::k,g.s⟩
   | none=>g
 | _=>g
def planOk (p:Go.As.Plan) (z:Nat) (g:Cfg):Bool:=match g.k with
 | .code (.region _ ops true)::_=>Region.noSelect ops&&lastChk ops z&&p.fits .any ops true ((Array.replicate ops.size false).setIfInBounds z true)&&Nat.blt p.depth ops.size
 | _=>false
def plS (g:Cfg):World→Prop:=match g.k with
 | .pl _ _ S::_=>S
 | _=>fun _=>True
def isRun (g:Cfg):Bool:=match g.k with
 | .pl arr (.run i _) _::_=>match arr[i]? with
   | some _=>true
   | none=>false
 | _=>false
def pRun (g:Cfg):Cfg:=match g.k with
 | .pl arr (.run i p) S::k=>match arr[i]? with
   | some o=>⟨.ops arr [o] :: .pl arr p S::k,g.s⟩
   | none=>g
 | _=>g
def isDone (g:Cfg):Bool:=match g.k with
 | .pl _ .done _::_=>true
 | _=>false
def pDone (g:Cfg):Cfg:=match g.k with
 | .pl _ .done _::k=>⟨k,g.s⟩
 | _=>g
def isAlt (g:Cfg):Bool:=match g.k with
 | .pl _ (.alt _ _) _::_=>true
 | _=>false
def pAlt (b:Bool) (g:Cfg):Cfg:=match g.k with
 | .pl arr (.alt p q) S::k=>⟨.pl arr (match b with | true=>p | false=>q) S::k,g.s⟩
 | _=>g
def pTake (P:Program) (nt:Nat) (L:List Nat) (g:Cfg):Option Cfg:=match g.k with
 | .pl arr (.take i p) S::k=>match arr[i]? with
   | none=>none
   | some o=>match awanted arr g.s.T o with
     | none=>none
     | some false=>match tput nt g.s.T o.dst (.tup []) with
       | none=>none
       | some T'=>some ⟨.pl arr p S::k,⟨T',g.s.h,g.s.c,g.s.ds⟩⟩
     | some true=>match evalPure P g.s.T o with
       | some av=>match tput nt g.s.T o.dst av with
         | none=>none
         | some T'=>some ⟨.pl arr p S::k,⟨T',g.s.h,g.s.c,g.s.ds⟩⟩
       | none=>match o.op with
         | .load t x=>match aev P g.s.T x with
           | some (.ptr b off)=>match hasNat b L with
             | true=>match aLoad P t (.ptr b off) g.s.h with
               | some av=>match avFun av with
                 | true=>match tput nt g.s.T o.dst av with
                   | none=>none
                   | some T'=>some ⟨.pl arr p S::k,⟨T',g.s.h,g.s.c,g.s.ds⟩⟩
                 | false=>none
               | none=>none
             | false=>none
           | _=>none
         | _=>none
 | _=>none
noncomputable def pTakes (P:Program) (nt:Nat) (L:List Nat) (n:Nat):Cfg→Cfg:=
 Nat.rec (motive:=fun _=>Cfg→Cfg) (fun g=>g) (fun _ ih g=>match pTake P nt L g with
  | some g'=>ih g'
  | none=>g) n
def tkHd (P:Program) (nt:Nat) (g:Cfg):Option Oper:=match g.k with
 | .pl arr (.take i _) _::_=>match arr[i]? with
   | none=>none
   | some o=>match awanted arr g.s.T o with
     | some true=>match o.dst with
       | none=>some o
       | some d=>match Nat.blt d nt with
         | true=>some o
         | false=>none
     | _=>none
 | _=>none
def tkSem (P:Program) (nt:Nat) (g:Cfg):Option (Sem Value):=match tkHd P nt g with
 | none=>none
 | some o=>match aclosed P g.s.T o.op.operands.toList with
   | true=>semV (arho P g.s.T) o.op
   | false=>none
def tkNx (g:Cfg) (av:AV):Cfg:=match g.k with
 | .pl arr (.take i p) S::k=>match arr[i]? with
   | some o=>⟨.pl arr p S::k,⟨putD o.dst g.s.T av,g.s.h,g.s.c,g.s.ds⟩⟩
   | none=>g
 | _=>g
def tkLd (P:Program) (nt:Nat) (L:List Nat) (g:Cfg):Option AV:=match tkHd P nt g with
 | none=>none
 | some o=>match o.op with
   | .load t x=>match aev P g.s.T x with
     | some (.ptr b off)=>match hasNat b L with
       | true=>aLoad P t (.ptr b off) g.s.h
       | false=>none
     | _=>none
   | _=>none
section
variable {P:Program} {I:Aux} {B Bs:Nat→Prop} {w0 ws:World} {γ0:Gm} {nt:Nat} {Q:Exit→Act→World→Prop} {g g':Cfg}
theorem good_plan (hm:P.follows .mixedOrders=true) (p:Go.As.Plan) (z:Nat) (h:planOk p z g=true) (hg:Good P B w0 γ0 nt Q (toPlan p z (Keep B w0) g)):Good P B w0 γ0 nt Q g:=by
 obtain ⟨k,s⟩:=g
 unfold planOk at h
 simp only at h
 split at h <;> first | (cases h;done) | skip
 rename_i id ops k'
 simp only [Bool.and_eq_true] at h
 obtain ⟨⟨⟨h1,h2⟩,h3⟩,h4⟩:=h
 have hz:=lastChk_ok h2
 have h4:=blt_lt h4
 obtain ⟨oz,hoz⟩:∃ oz,ops[z]?=some oz:=⟨ops[z]'hz.lt,Array.getElem?_eq_getElem hz.lt⟩
 unfold toPlan at hg
 simp only [hoz] at hg
 refine ⟨fun γ a w hle hf hr hb=>?_⟩
 simp only [after,Exit.then]
 refine Code.wp_mono NoPan.imp (wp_region_any hm ?_)
 obtain ⟨n,hn⟩:∃ n,ops.size=n+1:=⟨ops.size - 1,by have:=hz.lt;omega⟩
 rw [hn]
 refine wpAny_last hz n _ a _ (by simp [hn]) (by have:=hz.lt;simp [← hn,this]) ?_
 refine wpAny_of_held _ _ _ _ ((wpPlanH_sound (Q:=lastPost P ops (NoPan (after P Q k')) z) (S:=Keep B w0) h1 (fun c a w d v h=>NoPan.put (Q:=after P Q k') c a w d v h) p n _ a _ (by omega)).1 (by rw [hn] at h3;exact h3) ?_)
 have hh:=hg.out γ a w.drew hle hf (hr.kept (Nat.le_refl _) (fun _ _=>rfl)) hb.drew
 simp only [after,plAfter] at hh
 have e:NoPan (Exit.then (wpL P ops (NoPan (after P Q k')) [oz]) (NoPan (after P Q k')))=lastPost P ops (NoPan (after P Q k')) z:=by
  funext e a w
  cases e <;> first | rfl | skip
  rotate_left
  · exact propext ⟨fun h=>⟨h.1,(h.2 a h.1).2⟩,fun h=>⟨h.1,fun a' h'=>⟨h',h.2⟩⟩⟩
  show wpL P ops (NoPan (after P Q k')) [oz] a w=wpOp P ops (NoPan (after P Q k')) z (fun a w=>NoPan (after P Q k') .normal a w) a w
  unfold wpOp wpL
  simp only [hoz]
  rfl
 rw [e] at hh
 exact hh.2
theorem p_run (S:World→Prop) (hSe:plS g=S) (hS:∀ w,Keep B w0 w→S w) (h:isRun g=true) (hg:Good P B w0 γ0 nt Q (pRun g)):Good P B w0 γ0 nt Q g:=by
 obtain ⟨k,s⟩:=g
 unfold isRun at h
 simp only at h
 split at h <;> first | (cases h;done) | skip
 rename_i arr i p S' k'
 split at h <;> first | (cases h;done) | skip
 rename_i o ho
 simp only [plS] at hSe
 subst hSe
 unfold pRun at hg
 simp only [ho] at hg
 refine ⟨fun γ a w hle hf hr hb=>⟨hS w hb,?_⟩⟩
 have hh:=hg.out γ a w hle hf hr hb
 show wpOp P arr (NoPan (after P Q k')) i (fun a' w'=>S' w'∧wpPlanH P arr (NoPan (after P Q k')) S' p a' w') a w
 unfold wpOp
 simp only [ho]
 exact hh
theorem p_done (h:isDone g=true) (hg:Good P B w0 γ0 nt Q (pDone g)) (S:World→Prop) (hSe:plS g=S) (hS:∀ w,Keep B w0 w→S w):Good P B w0 γ0 nt Q g:=by
 obtain ⟨k,s⟩:=g
 unfold isDone at h
 simp only at h
 split at h <;> first | (cases h;done) | skip
 rename_i arr S' k'
 simp only [plS] at hSe
 subst hSe
 exact ⟨fun γ a w hle hf hr hb=>⟨hS w hb,hg.out γ a w hle hf hr hb⟩⟩
theorem p_alt (h:isAlt g=true) (h1:Good P B w0 γ0 nt Q (pAlt true g)) (h2:Good P B w0 γ0 nt Q (pAlt false g)):Good P B w0 γ0 nt Q g:=by
 obtain ⟨k,s⟩:=g
 unfold isAlt at h
 simp only at h
 split at h <;> first | (cases h;done) | skip
 rename_i arr p q S' k'
 exact ⟨fun γ a w hle hf hr hb=>
  have a1:=h1.out γ a w hle hf hr hb
  have a2:=h2.out γ a w hle hf hr hb
  ⟨a1.1,a1.2,a2.2⟩⟩
theorem p_take1 {L:List Nat} (hS:∀ w,Keep B w0 w→Keep Bs ws w) (hSe:plS g=Keep Bs ws) (hL:∀ b,hasNat b L=true→∃ p,γ0 b=some p∧Bs p.1) (h:pTake P nt L g=some g') (hg:Good P B w0 γ0 nt Q g'):Good P B w0 γ0 nt Q g:=by
 obtain ⟨k,s⟩:=g
 unfold pTake at h
 simp only at h
 split at h <;> first | (cases h;done) | skip
 rename_i arr i p S k'
 simp only [plS] at hSe
 subst hSe
 split at h
 · cases h
 rename_i o ho
 refine ⟨fun γ a w hle hf hr hb=>⟨hS w hb,?_⟩⟩
 have hok:=hf.ok (P:=P) (B:=B) (G:=0) hr.glob o.op.operands.toList
 show _∧∃ o v,arr[i]?=some o∧YieldsIf P arr (Keep Bs ws) o v a∧wpPlanH P arr (NoPan (after P Q k')) (Keep Bs ws) p (a.put o.dst v) w
 refine ⟨hS w hb,o,?_⟩
 split at h
 · cases h
 · rename_i hw
   have hw':=awanted_ok (a:=a) (fun j want p t av _ _ _ ht=>hf.tmps t av ht) hw
   split at h
   · cases h
   rename_i T' hT'
   injection h with h
   subst h
   exact ⟨undef,ho,.inr ⟨hw',rfl⟩,(hg.out γ _ w hle (hf.put (Gm.le.refl _) (undef_VR γ) hT') hr hb).2⟩
 · rename_i hw
   have hw':=awanted_ok (a:=a) (fun j want p t av _ _ _ ht=>hf.tmps t av ht) hw
   split at h
   · rename_i av hav
     split at h
     · cases h
     rename_i T' hT'
     injection h with h
     subst h
     obtain ⟨v,h1,h2⟩:=evalPure_ok hok hav
     exact ⟨v,ho,.inl ⟨hw',fun w' _=>h2 w'⟩,(hg.out γ _ w hle (hf.put (Gm.le.refl _) h1 hT') hr hb).2⟩
   · split at h <;> first | (cases h;done) | skip
     rename_i t x hop
     split at h <;> first | (cases h;done) | skip
     rename_i b off hx
     split at h <;> first | (cases h;done) | skip
     rename_i hbL
     split at h <;> first | (cases h;done) | skip
     rename_i av hav
     split at h <;> first | (cases h;done) | skip
     rename_i hfun
     split at h
     · cases h
     rename_i T' hT'
     injection h with h
     subst h
     have hxv:=hok x (by simp [hop,Op.operands]) _ hx
     obtain ⟨v,h1,h2⟩:=aLoad_ok hr hxv hav
     have hrun:∀ w' v',(Instr.loadAt t (a.eval x)).run P w' = .ok v' w'→(execOp a.eval o).run P w' = .ok (.value v') w':=fun w' v' hh=>by
      unfold execOp
      rw [hop]
      exact run_v hh
     refine ⟨v,ho,.inl ⟨hw',fun w' hk'=>?_⟩,(hg.out γ _ w hle (hf.put (Gm.le.refl _) h1 hT') hr hb).2⟩
     obtain ⟨pb,hpb,hBs⟩:=hL b hbL
     have hγb:=hle b pb hpb
     obtain ⟨blk,hblk⟩:∃ blk,s.h.get b=some blk:=by
      cases hh:s.h.get b with
      | none=>unfold aLoad at hav;simp [hh] at hav
      | some blk=>exact ⟨blk,rfl⟩
     have hkw:=hS w hb
     have hsame:w'.heap[pb.1]?=w.heap[pb.1]?:=(hk'.block _ hBs).trans (hkw.block _ hBs).symm
     have hr1:HR (fun _=>False) P.globals.size γ ((Tr.leaf:Hp).put b (some blk)) s.c w':=by
      refine ⟨fun b1 blk1 hb1=>?_,fun b1 b2 blk1 blk2 p1 p2 g1 g2 _ _ _=>?_,hr.fresh,hr.glob,fun k hk=>hk.elim⟩
      · rw [Tr.get_put] at hb1
        split at hb1
        · rename_i e
          subst e
          injection hb1 with hb1
          subst hb1
          obtain ⟨p1,hp1,hbr⟩:=hr.live _ _ hblk
          rw [hγb] at hp1
          injection hp1 with hp1
          subst hp1
          refine ⟨pb,hγb,?_⟩
          have hbr2:=hbr.kept hsame
          cases blk with
          | cells ty own clean ex lim cs=>exact ⟨fun _ hF=>hF,hbr2.2⟩
          | map es clock=>exact ⟨fun hF=>hF,hbr2.2⟩
          | row e xs=>exact ⟨fun hF=>hF,hbr2.2⟩
        · rw [Tr.get_leaf] at hb1;cases hb1
      · rw [Tr.get_put] at g1 g2
        split at g1 <;> split at g2
        · rename_i e1 e2;exact e1.trans e2.symm
        · rw [Tr.get_leaf] at g2;cases g2
        · rw [Tr.get_leaf] at g1;cases g1
        · rw [Tr.get_leaf] at g1;cases g1
     have hav1:aLoad P t (.ptr b off) ((Tr.leaf:Hp).put b (some blk))=some av:=by
      rw [← hav]
      unfold aLoad
      simp only [Tr.get_put_same,hblk]
     obtain ⟨v',h3,h4⟩:=aLoad_ok hr1 hxv hav1
     rw [VR_fun h1 hfun h3]
     exact hrun w' v' h4
theorem p_load (L:List Nat) (av:AV) (h:tkLd P nt L g=some av) (hfun:avFun av=true) (hSe:plS g=Keep Bs ws) (hS:∀ w,Keep B w0 w→Keep Bs ws w) (hL:∀ b,hasNat b L=true→∃ p,γ0 b=some p∧Bs p.1) (hg:Good P B w0 γ0 nt Q (tkNx g av)):Good P B w0 γ0 nt Q g:=by
 obtain ⟨k,s⟩:=g
 unfold tkLd at h
 split at h
 · cases h
 rename_i o ho
 unfold tkHd at ho
 simp only at ho
 split at ho <;> first | (cases ho;done) | skip
 rename_i arr i p S' k'
 simp only [plS] at hSe
 subst hSe
 split at ho
 · cases ho
 rename_i o' ho'
 split at ho <;> first | (cases ho;done) | skip
 rename_i hw
 have hoo:o'=o∧∀ av,tput nt s.T o'.dst av=some (putD o'.dst s.T av):=by
  split at ho
  · rename_i hd
    injection ho with ho
    exact ⟨ho,fun av=>by unfold tput putD;rw [hd]⟩
  · rename_i d hd
    split at ho <;> first | (cases ho;done) | skip
    rename_i hlt
    injection ho with ho
    exact ⟨ho,fun av=>by unfold tput putD;rw [hd];simp only [hlt]⟩
 obtain ⟨rfl,hput⟩:=hoo
 unfold tkNx at hg
 simp only [ho'] at hg
 split at h <;> first | (cases h;done) | skip
 rename_i t x hop
 split at h <;> first | (cases h;done) | skip
 rename_i b off hx
 split at h <;> first | (cases h;done) | skip
 rename_i hbL
 have hav:=h
 refine ⟨fun γ a w hle hf hr hb=>⟨hS w hb,?_⟩⟩
 have hok:=hf.ok (P:=P) (B:=B) (G:=0) hr.glob o'.op.operands.toList
 have hw':=awanted_ok (a:=a) (fun j want p t av _ _ _ ht=>hf.tmps t av ht) hw
 show _∧∃ o v,arr[i]?=some o∧YieldsIf P arr (Keep Bs ws) o v a∧wpPlanH P arr (NoPan (after P Q k')) (Keep Bs ws) p (a.put o.dst v) w
 refine ⟨hS w hb,o',?_⟩
 have hxv:=hok x (by simp [hop,Op.operands]) _ hx
 obtain ⟨v,h1,h2⟩:=aLoad_ok hr hxv hav
 have hrun:∀ w' v',(Instr.loadAt t (a.eval x)).run P w' = .ok v' w'→(execOp a.eval o').run P w' = .ok (.value v') w':=fun w' v' hh=>by
  unfold execOp
  rw [hop]
  exact run_v hh
 refine ⟨v,ho',.inl ⟨hw',fun w' hk'=>?_⟩,(hg.out γ _ w hle (hf.put (Gm.le.refl _) h1 (hput _)) hr hb).2⟩
 obtain ⟨pb,hpb,hBs⟩:=hL b hbL
 have hγb:=hle b pb hpb
 obtain ⟨blk,hblk⟩:∃ blk,s.h.get b=some blk:=by
  cases hh:s.h.get b with
  | none=>unfold aLoad at hav;simp [hh] at hav
  | some blk=>exact ⟨blk,rfl⟩
 have hkw:=hS w hb
 have hsame:w'.heap[pb.1]?=w.heap[pb.1]?:=(hk'.block _ hBs).trans (hkw.block _ hBs).symm
 have hr1:HR (fun _=>False) P.globals.size γ ((Tr.leaf:Hp).put b (some blk)) s.c w':=by
  refine ⟨fun b1 blk1 hb1=>?_,fun b1 b2 blk1 blk2 p1 p2 g1 g2 _ _ _=>?_,hr.fresh,hr.glob,fun k hk=>hk.elim⟩
  · rw [Tr.get_put] at hb1
    split at hb1
    · rename_i e
      subst e
      injection hb1 with hb1
      subst hb1
      obtain ⟨p1,hp1,hbr⟩:=hr.live _ _ hblk
      rw [hγb] at hp1
      injection hp1 with hp1
      subst hp1
      refine ⟨pb,hγb,?_⟩
      have hbr2:=hbr.kept hsame
      cases blk with
      | cells ty own clean ex lim cs=>exact ⟨fun _ hF=>hF,hbr2.2⟩
      | map es clock=>exact ⟨fun hF=>hF,hbr2.2⟩
      | row e xs=>exact ⟨fun hF=>hF,hbr2.2⟩
    · rw [Tr.get_leaf] at hb1;cases hb1
  · rw [Tr.get_put] at g1 g2
    split at g1 <;> split at g2
    · rename_i e1 e2;exact e1.trans e2.symm
    · rw [Tr.get_leaf] at g2;cases g2
    · rw [Tr.get_leaf] at g1;cases g1
    · rw [Tr.get_leaf] at g1;cases g1
 have hav1:aLoad P t (.ptr b off) ((Tr.leaf:Hp).put b (some blk))=some av:=by
  rw [← hav]
  unfold aLoad
  simp only [Tr.get_put_same,hblk]
 obtain ⟨v',h3,h4⟩:=aLoad_ok hr1 hxv hav1
 rw [VR_fun h1 hfun h3]
 exact hrun w' v' h4
theorem pTakes_succ (L:List Nat) (n:Nat) (g:Cfg):pTakes P nt L (n+1) g=(match pTake P nt L g with
 | some g'=>pTakes P nt L n g'
 | none=>g):=rfl
theorem pTake_S {L:List Nat} (h:pTake P nt L g=some g'):plS g'=plS g:=by
 obtain ⟨k,s⟩:=g
 unfold pTake at h
 simp only at h
 repeat' (split at h)
 all_goals first | (cases h;done) | (injection h with h;subst h;rfl)
theorem p_takes' {L:List Nat} (hS:∀ w,Keep B w0 w→Keep Bs ws w) (hL:∀ b,hasNat b L=true→∃ p,γ0 b=some p∧Bs p.1):∀ (n:Nat) (g:Cfg),plS g=Keep Bs ws→Good P B w0 γ0 nt Q (pTakes P nt L n g)→Good P B w0 γ0 nt Q g
 | 0,g,_,h=>h
 | n+1,g,hSe,h=>by
   rw [pTakes_succ] at h
   split at h
   · rename_i g' hg'
     exact p_take1 hS hSe hL hg' (p_takes' hS hL n g' ((pTake_S hg').trans hSe) h)
   · exact h
theorem p_takes (L:List Nat) (n:Nat) (hSe:plS g=Keep Bs ws) (hS:∀ w,Keep B w0 w→Keep Bs ws w) (hL:∀ b,hasNat b L=true→∃ p,γ0 b=some p∧Bs p.1) (h:Good P B w0 γ0 nt Q (pTakes P nt L n g)):Good P B w0 γ0 nt Q g:=
 p_takes' hS hL n g hSe h
theorem p_val {S:Sem Value} (x:Value) (h:tkSem P nt g=some S) (hSe:plS g=Keep Bs ws) (hS:∀ w,Keep B w0 w→Keep Bs ws w) (hrun:∀ w,Keep Bs ws w→S.run P w = .ok x w) (hg:Good P B w0 γ0 nt Q (tkNx g (norm x))):Good P B w0 γ0 nt Q g:=by
 obtain ⟨k,s⟩:=g
 unfold tkSem at h
 split at h
 · cases h
 rename_i o ho
 split at h <;> first | (cases h;done) | skip
 rename_i hcl
 unfold tkHd at ho
 simp only at ho
 split at ho <;> first | (cases ho;done) | skip
 rename_i arr i p S' k'
 simp only [plS] at hSe
 subst hSe
 split at ho
 · cases ho
 rename_i o' ho'
 split at ho <;> first | (cases ho;done) | skip
 rename_i hw
 have hoo:o'=o∧∀ av,tput nt s.T o'.dst av=some (putD o'.dst s.T av):=by
  split at ho
  · rename_i hd
    injection ho with ho
    exact ⟨ho,fun av=>by unfold tput putD;rw [hd]⟩
  · rename_i d hd
    split at ho <;> first | (cases ho;done) | skip
    rename_i hlt
    injection ho with ho
    exact ⟨ho,fun av=>by unfold tput putD;rw [hd];simp only [hlt]⟩
 obtain ⟨rfl,hput⟩:=hoo
 unfold tkNx at hg
 simp only [ho'] at hg
 refine ⟨fun γ a w hle hf hr hb=>⟨hS w hb,?_⟩⟩
 have hok:=hf.ok (P:=P) (B:=B) (G:=0) hr.glob o'.op.operands.toList
 have hns:∀ cs b,o'.op = .select cs b→False:=fun cs b e=>by rw [e] at h;cases h
 have hcong:=execOp_congr (ρ:=arho P s.T) (ρ':=a.eval) o' (fun cs b e=>(hns cs b e).elim) (fun x hx=>arho_ok hok hcl x (by simpa using hx))
 have hw':=awanted_ok (a:=a) (fun j want p t av _ _ _ ht=>hf.tmps t av ht) hw
 show _∧∃ o v,arr[i]?=some o∧YieldsIf P arr (Keep Bs ws) o v a∧wpPlanH P arr (NoPan (after P Q k')) (Keep Bs ws) p (a.put o.dst v) w
 exact ⟨hS w hb,o',x,ho',.inl ⟨hw',fun w' hk'=>by rw [← hcong];exact semV_run h (hrun w' hk')⟩,(hg.out γ _ w hle (hf.put (Gm.le.refl _) (norm_VR x) (hput _)) hr hb).2⟩
end
end Go.Sy
end
end
section
noncomputable section
namespace Go.Sy
open Go Go.RowKit
def blkOwn (o:Bool):Blk→Blk
 | .cells ty _ cl ex lim cs => .cells ty o cl ex lim cs
 | b=>b
def plainH (b off:Nat) (x:Value) (h:Hp):Hp:=match h.get b with
 | some (.cells ty o cl ex lim cs)=>h.put b (some (.cells ty o cl ex lim (cs.put off (some (.v x)))))
 | _=>h
def cellAt (b off:Nat) (h:Hp):Bool:=match h.get b with
 | some (.cells _ _ _ _ lim cs)=>match cs.get off with
   | some _=>Nat.blt off lim
   | none=>false
 | _=>false
def isOwnCells:Option Blk→Bool
 | some (.cells _ true _ _ _ _)=>true
 | _=>false
def isCells:Option Blk→Bool
 | some (.cells _ _ _ _ _ _)=>true
 | _=>false
def lockH (o:Bool):List Nat→Hp→Hp
 | [],h=>h
 | b::l,h=>(lockH o l h).put b ((h.get b).map (blkOwn o))
theorem lockH_get (o:Bool):∀ (l:List Nat) (h:Hp) (b:Nat),(lockH o l h).get b=if hasNat b l=true then (h.get b).map (blkOwn o) else h.get b
 | [],h,b=>by simp [lockH,hasNat]
 | x::l,h,b=>by
   simp only [lockH]
   rw [Tr.get_put]
   by_cases e:b=x
   · subst e
     rw [if_pos rfl,if_pos (hasNat_iff.2 (List.mem_cons_self))]
   · rw [if_neg e,lockH_get o l h b]
     by_cases hm:hasNat b l=true
     · rw [if_pos hm,if_pos (hasNat_iff.2 (List.mem_cons_of_mem _ (hasNat_iff.1 hm)))]
     · rw [if_neg hm,if_neg (fun h=>hm (hasNat_iff.2 ((List.mem_cons.1 (hasNat_iff.1 h)).resolve_left e)))]
def lockG (o:Bool) (L:List Nat) (g:Cfg):Cfg:=⟨g.k,⟨g.s.T,lockH o L g.s.h,g.s.c,g.s.ds⟩⟩
def allOwn (L:List Nat) (h:Hp) (n:Nat):Bool:=L.all fun b=>isOwnCells (h.get b)&&Nat.blt b n
def allCells (L:List Nat) (h:Hp):Bool:=L.all fun b=>isCells (h.get b)
section
variable {P:Program} {B:Nat→Prop} {w0:World} {γ0:Gm} {nt:Nat} {Q:Exit→Act→World→Prop} {g:Cfg}
theorem Good.up {γ1:Gm} (h:Good P B w0 γ0 nt Q g) (hle:Gm.le γ0 γ1):Good P B w0 γ1 nt Q g:=⟨fun γ a w h1=>h.out γ a w (hle.trans h1)⟩
theorem good_lock (L:List Nat) (c2:Nat) (hL:allOwn L g.s.h c2=true) (hγ:∀ b,c2≤b→γ0 b=none)
  (hg:∀ γ1 B1 w1,Gm.le γ0 γ1→(∀ b,c2≤b→γ1 b=none)→(∀ k,B k→B1 k)→(∀ k,B1 k→k<w1.heap.size)→Keep B w0 w1→(∀ b,hasNat b L=true→∃ p,γ1 b=some p∧B1 p.1∧¬ B p.1)→
   Good P B1 w1 γ1 nt Q (lockG false L g)):Good P B w0 γ0 nt Q g:=by
 have hL':∀ b,hasNat b L=true→isOwnCells (g.s.h.get b)=true∧b<c2:=fun b hb=>by
  have:=List.all_eq_true.1 hL b (hasNat_iff.1 hb)
  rw [Bool.and_eq_true] at this
  exact ⟨this.1,blt_lt this.2⟩
 refine ⟨fun γ a w hle hf hr hb=>?_⟩
 have hown:∀ b,hasNat b L=true→∃ p,γ b=some p∧¬ B p.1∧p.1<w.heap.size:=fun b hbL=>by
  obtain ⟨h1,_⟩:=hL' b hbL
  unfold isOwnCells at h1
  split at h1 <;> first | (cases h1;done) | skip
  rename_i ty cl ex lim cs hb1
  obtain ⟨p,hp,hbr⟩:=hr.live b _ hb1
  exact ⟨p,hp,hbr.1 rfl,hbr.lt⟩
 have hh:=hg (γ.res c2) (fun k=>B k∨∃ b N,hasNat b L=true∧γ b=some (k,N)) w (fun b p hp=>by
  rcases Nat.lt_or_ge b c2 with hlt | hge
  · exact Gm.res_some (hle b p hp) hlt
  · rw [hγ b hge] at hp;cases hp) (fun b hb1=>by unfold Gm.res;rw [if_neg (by omega)]) (fun k => .inl)
  (fun k hk=>by
   rcases hk with hk | ⟨b,N,hbL,hγb⟩
   · exact hr.base k hk
   · obtain ⟨p,hp,_,hlt⟩:=hown b hbL
     rw [hγb] at hp
     injection hp with hp
     subst hp
     exact hlt) hb
  (fun b hbL=>by
   obtain ⟨p,hp,hnB,_⟩:=hown b hbL
   exact ⟨p,Gm.res_some hp (hL' b hbL).2,.inr ⟨b,p.2,hbL,hp⟩,hnB⟩)
 refine hh.out γ a w (fun b p hp=>?_) hf ⟨fun b blk hb1=>?_,fun b b' blk blk' p p' h1 h2 g1 g2 e=>?_,hr.fresh,hr.glob,fun k hk=>?_⟩ (Keep.refl _ _)
 · unfold Gm.res at hp
   split at hp
   · exact hp
   · cases hp
 · simp only [lockG] at hb1
   rw [lockH_get] at hb1
   split at hb1
   · rename_i hbL
     cases hb2:g.s.h.get b with
     | none=>rw [hb2] at hb1;cases hb1
     | some blk0=>
       rw [hb2] at hb1
       simp only [Option.map_some,Option.some.injEq] at hb1
       subst hb1
       obtain ⟨p,hp,hbr⟩:=hr.live b _ hb2
       have h3:=(hL' b hbL).1
       rw [hb2] at h3
       cases blk0 with
       | cells ty own cl ex lim cs=>exact ⟨p,hp,fun e=>(by cases e),hbr.2⟩
       | map es clock=>cases h3
       | row e xs=>cases h3
   · rename_i hbL
     obtain ⟨p,hp,hbr⟩:=hr.live b _ hb1
     refine ⟨p,hp,?_⟩
     have key:¬ B p.1→¬ (B p.1∨∃ b N,hasNat b L=true∧γ b=some (p.1,N)):=by
      intro hnB hor
      rcases hor with h3 | ⟨b2,N,hb2L,hγ2⟩
      · exact hnB h3
      · obtain ⟨h4,_⟩:=hL' b2 hb2L
        have:∃ blk2,g.s.h.get b2=some blk2:=by
         cases hh2:g.s.h.get b2 with
         | none=>rw [hh2] at h4;cases h4
         | some blk2=>exact ⟨_,rfl⟩
        obtain ⟨blk2,hblk2⟩:=this
        have:=hr.inj b b2 _ _ p (p.1,N) hb1 hblk2 hp hγ2 rfl
        subst this
        exact hbL hb2L
     cases blk with
     | cells ty own cl ex lim cs=>exact ⟨fun e=>key (hbr.1 e),hbr.2⟩
     | map es clock=>exact ⟨key hbr.1,hbr.2⟩
     | row e xs=>exact ⟨key hbr.1,hbr.2⟩
 · have get0:∀ {x y},(lockG false L g).s.h.get x=some y→∃ z,g.s.h.get x=some z:=by
    intro x y hx
    simp only [lockG] at hx
    rw [lockH_get] at hx
    split at hx
    · cases hz:g.s.h.get x with
      | none=>rw [hz] at hx;cases hx
      | some z=>exact ⟨z,rfl⟩
    · exact ⟨_,hx⟩
   obtain ⟨z1,k1⟩:=get0 h1
   obtain ⟨z2,k2⟩:=get0 h2
   exact hr.inj _ _ _ _ _ _ k1 k2 g1 g2 e
 · rcases hk with hk | ⟨b,N,hbL,hγb⟩
   · exact hr.base k hk
   · obtain ⟨p,hp,_,hlt⟩:=hown b hbL
     rw [hγb] at hp
     injection hp with hp
     subst hp
     exact hlt
theorem good_unlock (L:List Nat) (hL:allCells L g.s.h=true) (hk:∀ b,hasNat b L=true→∃ p,γ0 b=some p)
  (hg:∀ B2,(∀ k,B2 k→B k)→(∀ k,B k→(∀ b p,hasNat b L=true→γ0 b=some p→p.1≠k)→B2 k)→Good P B2 w0 γ0 nt Q (lockG true L g)):Good P B w0 γ0 nt Q g:=by
 have hL':∀ b,hasNat b L=true→isCells (g.s.h.get b)=true:=fun b hb=>List.all_eq_true.1 hL b (hasNat_iff.1 hb)
 have hh:=hg (fun k=>B k∧∀ b p,hasNat b L=true→γ0 b=some p→p.1≠k) (fun k h=>h.1) (fun k h1 h2=>⟨h1,h2⟩)
 refine ⟨fun γ a w hle hf hr hb=>hh.out γ a w hle hf ⟨fun b blk hb1=>?_,fun b b' blk blk' p p' h1 h2 g1 g2 e=>?_,hr.fresh,hr.glob,fun k hk=>hr.base k hk.1⟩ (hb.mono fun k h=>h.1)⟩
 · simp only [lockG] at hb1
   rw [lockH_get] at hb1
   split at hb1
   · rename_i hbL
     cases hb2:g.s.h.get b with
     | none=>rw [hb2] at hb1;cases hb1
     | some blk0=>
       rw [hb2] at hb1
       simp only [Option.map_some,Option.some.injEq] at hb1
       subst hb1
       obtain ⟨p,hp,hbr⟩:=hr.live b _ hb2
       have h3:=hL' b hbL
       rw [hb2] at h3
       cases blk0 with
       | cells ty own cl ex lim cs=>
         refine ⟨p,hp,fun _ hB2=>?_,hbr.2⟩
         obtain ⟨p0,hp0⟩:=hk b hbL
         have:=hle b p0 hp0
         rw [hp] at this
         injection this with this
         subst this
         exact hB2.2 b p hbL hp0 rfl
       | map es clock=>cases h3
       | row e xs=>cases h3
   · obtain ⟨p,hp,hbr⟩:=hr.live b _ hb1
     refine ⟨p,hp,?_⟩
     cases blk with
     | cells ty own cl ex lim cs=>exact ⟨fun e h=>hbr.1 e h.1,hbr.2⟩
     | map es clock=>exact ⟨fun h=>hbr.1 h.1,hbr.2⟩
     | row e xs=>exact ⟨fun h=>hbr.1 h.1,hbr.2⟩
 · have get0:∀ {x y},(lockG true L g).s.h.get x=some y→∃ z,g.s.h.get x=some z:=by
    intro x y hx
    simp only [lockG] at hx
    rw [lockH_get] at hx
    split at hx
    · cases hz:g.s.h.get x with
      | none=>rw [hz] at hx;cases hx
      | some z=>exact ⟨z,rfl⟩
    · exact ⟨_,hx⟩
   obtain ⟨z1,k1⟩:=get0 h1
   obtain ⟨z2,k2⟩:=get0 h2
   exact hr.inj _ _ _ _ _ _ k1 k2 g1 g2 e
theorem good_plain (b off:Nat) (hc:cellAt b off g.s.h=true) (hg:∀ x:Value,Good P B w0 γ0 nt Q ⟨g.k,⟨g.s.T,plainH b off x g.s.h,g.s.c,g.s.ds⟩⟩):Good P B w0 γ0 nt Q g:=by
 unfold cellAt at hc
 split at hc <;> first | (cases hc;done) | skip
 rename_i ty o cl ex lim cs hb1
 split at hc <;> first | (cases hc;done) | skip
 rename_i av hav
 have hlt:=blt_lt hc
 refine ⟨fun γ a w hle hf hr hb=>?_⟩
 obtain ⟨p,hp,hbr⟩:=hr.live b _ hb1
 obtain ⟨h0,c,ty',fz,h1,h2,h3,h4⟩:=hbr
 obtain ⟨x,hx1,hx2⟩:=h4 off av hlt hav
 have hh:=(hg x).out γ a w hle hf ?_ hb
 · exact hh
 · unfold plainH
   rw [hb1]
   refine hr.turn hb1 hp (Nat.le_refl _) (fun _ _ _=>rfl) ⟨h0,c,ty',fz,h1,h2,h3,fun i a' hi hi'=>?_⟩
   rw [Tr.get_put] at hi'
   split at hi'
   · rename_i e
     subst e
     injection hi' with hi'
     subst hi'
     exact ⟨x,hx1,.v x⟩
   · exact h4 i a' hi hi'
end
end Go.Sy
end
end
section
namespace Go.Proofs.YtinjiigdijbjeaaGreatDoor
open Go.RowKit Go.As Go.Sy
def evId (f:Nat):Bool:=Nat.beq f 158
theorem noEscape (x:Value) (w:World):(callFunc 158 #[x]).run Tryz.prog w = .ok (.value x) w:=by
 rw [run_callFunc_extern (P:=Tryz.prog) Tryz.func158 (by kernel_rfl) (by kernel_rfl) (e:=Extern.AbiNoEscape.same) (by kernel_rfl) (by kernel_rfl)]
 rfl
theorem evId_ok (f:Nat) (hf:evId f=true) (x:Value) (w:World):(callFunc f #[x]).run Tryz.prog w = .ok (.value x) w:=by
 have:=Nat.eq_of_beq_eq_true hf
 subst this
 exact noEscape x w
def syI:Sy.Aux:=⟨evId,fun _ _=>none,fun _=>True⟩
theorem sy_fine:Sy.Fine Tryz.prog syI:=Sy.fine_of evId_ok (fun f args av h=>by cases h) (fun w w' h hb=>trivial) (by kernel_rfl)
theorem sy_mixed:Tryz.prog.follows .mixedOrders=true:=by kernel_rfl
theorem sy_cx (B:Nat→Prop) (w0:World):Sy.Cx Tryz.prog syI B w0:=⟨sy_mixed,sy_fine,fun _ _=>trivial⟩
theorem wr64 {n:Int} (h1 : -9223372036854775808≤n) (h2:n<9223372036854775808):wrapF .i64 n=n:=by rw [wrapF_eq,IntKind.wrap_i64];omega
theorem lt_t {a b:Int} (h:a<b):intLt a b=true:=by rw [intLt_eq];exact decide_eq_true h
theorem lt_f {a b:Int} (h:¬ a<b):intLt a b=false:=by rw [intLt_eq];exact decide_eq_false h
theorem eq_t {a b:Int} (h:a=b):intEq a b=true:=by rw [intEq_eq];simp [h]
theorem eq_f {a b:Int} (h:a≠b):intEq a b=false:=by rw [intEq_eq];simp [h]
end Go.Proofs.YtinjiigdijbjeaaGreatDoor
end
section
noncomputable section
namespace Go.Sy
open Go Go.RowKit
def emptyB:Option Blk→Bool
 | some (.cells _ _ _ true 0 _)=>true
 | _=>false
section
variable {P:Program} {B:Nat→Prop} {w0:World} {γ0:Gm} {nt:Nat} {Q:Exit→Act→World→Prop} {g:Cfg}
theorem good_fix (t b esz:Nat) (h:g.s.T.get t=some (.slg b 0 0 esz)) (hb:emptyB (g.s.h.get b)=true) (hz:Nat.blt 0 esz=true)
  (hg:∀ k,Good P B w0 γ0 nt Q ⟨g.k,⟨g.s.T.put t (some (.v (.slice (some ⟨k,0,none⟩) 0 0))),g.s.h.put b none,g.s.c,g.s.ds⟩⟩):Good P B w0 γ0 nt Q g:=by
 have hz:=blt_lt hz
 unfold emptyB at hb
 split at hb <;> first | (cases hb;done) | skip
 rename_i ty o cl cs hb1
 refine ⟨fun γ a w hle hf hr hk=>?_⟩
 obtain ⟨p,hp,hbr⟩:=hr.live b _ hb1
 obtain ⟨h0,c,ty',fz,h1,h2,h3,h4⟩:=hbr
 obtain ⟨v,hv1,hv2⟩:=hf.tmps _ _ h
 obtain ⟨n,N,off,cap,rfl,hγ,ho⟩:∃ n N off cap,v = .slice (some ⟨n,off,none⟩) 0 cap∧γ b=some (n,N)∧off=0∧0+cap*esz=N:=by
  cases hv2 with
  | slg h hl hm ho=>obtain ⟨q1,q2⟩:=ho (.inl rfl);exact ⟨_,_,_,_,rfl,h,q1,q2⟩
 rw [hγ] at hp
 injection hp with hp
 subst hp
 obtain ⟨rfl,ho⟩:=ho
 have hc0:=(h3.2 rfl).1
 simp only at h2
 have hcap:cap=0:=by
  have h9:cap*esz=0:=by omega
  rcases Nat.mul_eq_zero.1 h9 with h | h
  · exact h
  · omega
 subst hcap
 refine (hg n).out γ a w hle ⟨hf.size,fun t' av ht=>?_,hf.defs⟩ (hr.drop b) hk
 simp only at ht
 rw [Tr.get_put] at ht
 split at ht
 · rename_i e
   subst e
   injection ht with ht
   subst ht
   exact ⟨_,hv1,.v _⟩
 · exact hf.tmps t' av ht
theorem good_appM (x y:Value) (ts:List TypeId) {Pr:World→Value→World→Prop} (h:hdApp P nt g=some (ts,.v x,.v y))
  (hc:∀ w,Keep B w0 w→∀ ty,∃ r w',(Builtin.append_ ts.toArray ty #[x,y]).run P w = .ok r w'∧Pr w r w'∧Below w.heap.size w w')
  (hg:∀ w r w' B',Keep B w0 w→Pr w r w'→Below w.heap.size w w'→Keep B w0 w'→(∀ k,B k→B' k)→(∀ k,w.heap.size≤k→k<w'.heap.size→B' k)→(∀ k,B' k→k<w'.heap.size)→Good P B' w' γ0 nt Q (nx0 g (norm r))):Good P B w0 γ0 nt Q g:=by
 unfold hdApp at h
 split at h
 · cases h
 rename_i o ho
 split at h <;> first | (cases h;done) | skip
 rename_i kk hop
 split at h <;> first | (cases h;done) | skip
 rename_i s1 x1 hce hargs
 split at h <;> first | (cases h;done) | skip
 rename_i aS aX hs hx
 injection h with h
 injection h with e1 h
 injection h with e2 e3
 subst e2 e3
 have hargs':kk.args=#[s1,x1]:=by apply Array.ext';simpa using hargs
 have hts:kk.argTypes=ts.toArray:=by apply Array.ext';simpa using e1
 have hop':o.op = .call { callee := .builtin .append,args:=#[s1,x1],argTypes:=ts.toArray }:=by rw [hop,← hce,← hargs',← hts]
 refine good_opA ho (fun γ a w K QQ hle hf hr hb hdst hdlt hK=>?_)
 have hok:=hf.ok (P:=P) (B:=B) (G:=0) hr.glob o.op.operands.toList
 have hmem:o.op.operands.toList=[s1,x1]:=by rw [hop'];simp [Op.operands,Call.operands]
 have hs':=hok s1 (by simp [hmem]) _ hs
 have hx':=hok x1 (by simp [hmem]) _ hx
 have es:a.eval s1=x:=by generalize a.eval s1=q at hs';cases hs';rfl
 have ex:a.eval x1=y:=by generalize a.eval x1=q at hx';cases hx';rfl
 obtain ⟨r,w',hrun,h1,h2⟩:=hc w hb o.type
 have hopr:(execOp a.eval o).run P w = .ok (.value r) w':=by
  unfold execOp
  simp only [hop',resolve,invoke,builtin,Sem.run_bind,Sem.run_pure,Result.andThen_ok,List.map_toArray,List.map_cons,List.map_nil,es,ex,hrun]
 refine wp_val hopr ?_
 have hk:=hb.trans (Keep.of_below h2 hr.base)
 have hr':=hr.kept h2.size h2.block
 refine hK _ _ ?_
 have hlt:∀ {b blk k N},g.s.h.get b=some blk→γ b=some (k,N)→k<w.heap.size:=by
  intro b blk k N hb1 hγ
  obtain ⟨p,hp,hbr⟩:=hr.live b blk hb1
  rw [hγ] at hp
  injection hp with hp
  subst hp
  exact hbr.lt
 have hg':=hg w r w' (fun k=>B k∨(k<w'.heap.size∧∀ b blk N,g.s.h.get b=some blk→γ b≠some (k,N))) hb h1 h2 hk (fun k => .inl)
  (fun k h3 h4 => .inr ⟨h4,fun b blk N hb1 hγ=>by have:=hlt hb1 hγ;omega⟩)
  (fun k hkk=>hkk.elim (fun h3=>hr'.base k h3) (fun h3=>h3.1))
 have hB:∀ b blk p,g.s.h.get b=some blk→γ b=some p→¬ B p.1→¬ (B p.1∨(p.1<w'.heap.size∧∀ b blk N,g.s.h.get b=some blk→γ b≠some (p.1,N))):=by
  intro b blk p hb1 hγ hnB hor
  rcases hor with h3 | h3
  · exact hnB h3
  · exact h3.2 b blk p.2 hb1 hγ
 have key1:FR γ nt (nx0 g (norm r)).s.T (nx0 g (norm r)).s.ds (a.put o.dst r):=by
  have hf':=hf.put (dst:=o.dst) (av:=norm r) (v:=r) (T':=putD o.dst g.s.T (norm r)) (Gm.le.refl γ) (norm_VR r) (by
   unfold tput putD
   cases hd:o.dst with
   | none=>rfl
   | some d=>
     have:Nat.blt d nt=true:=Nat.ble_eq_true_of_le (hdlt d hd)
     simp only [this])
  have e:(nx0 g (norm r)).s.T=putD o.dst g.s.T (norm r)∧(nx0 g (norm r)).s.ds=g.s.ds:=by
   rw [← hdst]
   obtain ⟨k,s⟩:=g
   unfold nx0 nx dstOf putD
   unfold hdOp at ho
   simp only at ho
   split at ho <;> first | (cases ho;done) | skip
   exact ⟨rfl,rfl⟩
  rw [e.1,e.2]
  exact hf'
 have key2:HR (fun k=>B k∨(k<w'.heap.size∧∀ b blk N,g.s.h.get b=some blk→γ b≠some (k,N))) P.globals.size γ (nx0 g (norm r)).s.h (nx0 g (norm r)).s.c w':=by
  have e:(nx0 g (norm r)).s.h=g.s.h∧(nx0 g (norm r)).s.c=g.s.c:=by
   obtain ⟨k,s⟩:=g
   unfold nx0 nx
   unfold hdOp at ho
   simp only at ho
   split at ho <;> first | (cases ho;done) | skip
   exact ⟨rfl,rfl⟩
  rw [e.1,e.2]
  refine ⟨fun b blk hb1=>?_,hr'.inj,hr'.fresh,hr'.glob,fun k hkk=>hkk.elim (fun h3=>hr'.base k h3) (fun h3=>h3.1)⟩
  obtain ⟨p,hp,hbr⟩:=hr'.live b blk hb1
  refine ⟨p,hp,?_⟩
  have hBp:=hB b blk p hb1 hp
  cases blk with
  | cells ty own clean ex lim cs=>
    obtain ⟨h0,h5⟩:=hbr
    exact ⟨fun ho=>hBp (h0 ho),h5⟩
  | map es clock=>
    obtain ⟨h0,h5⟩:=hbr
    exact ⟨hBp h0,h5⟩
  | row e xs=>
    obtain ⟨h0,h5⟩:=hbr
    exact ⟨hBp h0,h5⟩
 have hfin:=hg'.out γ (a.put o.dst r) w' hle key1 key2 (Keep.refl _ _)
 have e:(nx0 g (norm r)).k=restK g:=by
  obtain ⟨k,s⟩:=g
  unfold nx0 nx restK
  unfold hdOp at ho
  simp only at ho
  split at ho <;> first | (cases ho;done) | skip
  rfl
 rw [e] at hfin
 exact hfin
theorem app_none {t e:TypeId} {sz bytes:Nat} (hu:elemOf P t=some e) (hi:infoOf P e=some (sz,bytes)) (hsz:Nat.blt 0 sz=true) {F:Nat→Prop} {w1:World} {k:Nat} {a:Option Addr} {n c:Nat} {xs:List Value} (h:SlAt F w1 a n sz xs) (hb:n*bytes≤140737488355328) (h63:n≤maxLen):
  ∀ w,Keep F w1 w→∀ ty,∃ r w',(Builtin.append_ [t,t].toArray ty #[.slice (some ⟨k,0,none⟩) 0 0,.slice a n c]).run P w = .ok r w'∧(∃ a' cap',r = .slice a' n cap'∧SlAt (fun k=>w.heap.size≤k∧k<w'.heap.size) w' a' n sz xs)∧Below w.heap.size w w':=by
 intro w hk ty
 have hsz:=blt_lt hsz
 unfold elemOf at hu
 split at hu <;> first | (cases hu;done) | skip
 rename_i e' hu'
 injection hu with hu
 subst hu
 unfold infoOf at hi
 split at hi <;> first | (cases hi;done) | skip
 rename_i i hi'
 split at hi <;> first | (cases hi;done) | skip
 rename_i z hz
 split at hi <;> first | (cases hi;done) | skip
 rename_i hzs
 injection hi with hi
 injection hi with e1 e2
 subst e1 e2
 have hw:=h.keep hk
 cases n with
 | zero=>
   refine ⟨.slice (some ⟨k,0,none⟩) 0 0,w,?_,⟨_,_,rfl,⟨h.len,.inl rfl⟩⟩,Below.refl _ _⟩
   cases a <;> simp [Builtin.append_,run_underlying hu',sizeOf,typeInfo,hi',Builtin.lenOf,Builtin.firstCells,storeCells,loadCells,loadCellsFrom]
 | succ m=>
   rcases hw.place with h0 | ⟨ha,hF,hcell⟩
   · omega
   rw [ha]
   have hr:=run_append_grow (P:=P) w t ty _ i z hu' hi' hz ⟨k,0,none⟩ 0 0 [] (by simp) (by simp) ⟨gB a,oB a,none⟩ (m+1) c xs hw.len (fun j v hv=>by have:=hcell j v hv;simpa [Addr.add_mid] using this) (by omega) (by simp only [maxLen] at h63;omega) (growslice_fits (by omega) (by rw [Nat.zero_add];exact hb))
   rw [Nat.zero_add] at hr
   refine ⟨_,_,hr,⟨_,_,rfl,⟨hw.len,.inr ⟨rfl,⟨Nat.le_refl _,by simp [gB]⟩,fun j v hv=>?_⟩⟩⟩,?_⟩
   · have hj:=(List.getElem?_eq_some_iff.1 hv).1
     simp only [gB,oB,Nat.zero_add]
     generalize hX:(#[]++xs.toArray++Builtin.zeroCells z.cells (grownCap w (m+1) 0 e' - (m+1)):Array Value)=X
     have hXj:X[j]?=some v:=by
      rw [← hX,Array.getElem?_append_left (by simpa using hj)]
      simpa using hv
     have hh:(w.drew.alloc (.cells X e')).heap[w.heap.size]?=some (.cells X e'):=heap_alloc_new w.drew _
     simp only [World.cell?]
     rw [hh]
     simp [hXj]
   · exact ((Below.refl _ _).drew).alloc (by simp) _
end
end Go.Sy
end
end
section
noncomputable section
namespace Go.Sy
open Go Go.RowKit
def blkOwned:Blk→Bool
 | .cells _ own _ _ _ _=>own
 | _=>true
section
variable {P:Program} {I:Aux} {B:Nat→Prop} {w0:World} {γ0:Gm} {nt:Nat} {Q:Exit→Act→World→Prop} {g:Cfg}
theorem blkOwned_ok {γ:Gm} {blk:Blk} {p:Nat×Nat} {w:World} (h:blkOwned blk=true) (hbr:BR B γ blk p w):¬ B p.1:=by
 cases blk with
 | cells ty own cl ex lim cs=>exact hbr.1 h
 | map es clock=>exact hbr.1
 | row e xs=>exact hbr.1
theorem good_callW0 (cx:Cx P I B w0) {f:FuncId} (xs:List Value) (F:Nat→Prop) {Pr:World→Value→World→Prop} (h:hdCall P nt g=some (f,xs.map norm)) (hbod:bodied P f=some true) (hx:∀ γ vs,LR γ (xs.map norm) vs→vs=xs)
  (hown:trAll blkOwned g.s.h=true) (hFB:∀ k,F k→B k)
  (hc:∀ w,Keep B w0 w→Calls P f xs.toArray w fun e w'=>∃ r,e = .returned r∧Pr w r w'∧Keep (fun k=>k<w.heap.size∧¬ F k) w w')
  (hg:∀ w r w' B',Keep B w0 w→Pr w r w'→Keep (fun k=>k<w.heap.size∧¬ F k) w w'→Keep (fun k=>B k∧¬ F k) w0 w'→(∀ k,B k→B' k)→(∀ k,w.heap.size≤k→k<w'.heap.size→B' k)→(∀ k,B' k→k<w'.heap.size)→Good P B' w' γ0 nt Q (nx0 g (norm r))):Good P B w0 γ0 nt Q g:=by
 unfold hdCall at h
 split at h
 · cases h
 rename_i o ho
 refine good_opA ho (fun γ a w K QQ hle hf hr hb hdst hdlt hK=>?_)
 have hok:=hf.ok (P:=P) (B:=B) (G:=0) hr.glob o.op.operands.toList
 obtain ⟨fn,code,hfn,hbd⟩:=bodied_true hbod
 obtain ⟨vs,hl,hrun⟩:=callOf_ok hok h
 obtain rfl:=hx γ vs hl
 unfold Oper.wp
 rw [hrun,enter_ok cx.hn hfn hbd]
 refine (hc w hb).mono fun e w' hR=>?_
 obtain ⟨r,rfl,h1,h2⟩:=hR
 have hk:Keep (fun k=>B k∧¬ F k) w0 w':=(hb.mono fun k h=>h.1).trans (h2.mono fun k h=>⟨hr.base k h.1,h.2⟩)
 have hnF:∀ b blk p,g.s.h.get b=some blk→γ b=some p→¬ F p.1:=fun b blk p hb1 hp hFp=>by
  obtain ⟨q,hq,hbr⟩:=hr.live b blk hb1
  rw [hp] at hq
  injection hq with hq
  subst hq
  exact blkOwned_ok (trAll_get hown _ _ hb1) hbr (hFB _ hFp)
 have hr':HR B P.globals.size γ g.s.h g.s.c w':=⟨fun b blk hb1=>by
  obtain ⟨p,hp,hbr⟩:=hr.live b blk hb1
  exact ⟨p,hp,hbr.kept (h2.block _ ⟨hbr.lt,hnF b blk p hb1 hp⟩)⟩,hr.inj,hr.fresh,hr.glob,fun k h=>Nat.lt_of_lt_of_le (hr.base k h) h2.size⟩
 refine hK _ _ ?_
 have hlt:∀ {b blk k N},g.s.h.get b=some blk→γ b=some (k,N)→k<w.heap.size:=by
  intro b blk k N hb1 hγ
  obtain ⟨p,hp,hbr⟩:=hr.live b blk hb1
  rw [hγ] at hp
  injection hp with hp
  subst hp
  exact hbr.lt
 have hg':=hg w r w' (fun k=>B k∨(k<w'.heap.size∧∀ b blk N,g.s.h.get b=some blk→γ b≠some (k,N))) hb h1 h2 hk (fun k => .inl)
  (fun k h3 h4 => .inr ⟨h4,fun b blk N hb1 hγ=>by have:=hlt hb1 hγ;omega⟩)
  (fun k hkk=>hkk.elim (fun h3=>hr'.base k h3) (fun h3=>h3.1))
 have hB:∀ b blk p,g.s.h.get b=some blk→γ b=some p→¬ B p.1→¬ (B p.1∨(p.1<w'.heap.size∧∀ b blk N,g.s.h.get b=some blk→γ b≠some (p.1,N))):=by
  intro b blk p hb1 hγ hnB hor
  rcases hor with h3 | h3
  · exact hnB h3
  · exact h3.2 b blk p.2 hb1 hγ
 have key1:FR γ nt (nx0 g (norm r)).s.T (nx0 g (norm r)).s.ds (a.put o.dst r):=by
  have hf':=hf.put (dst:=o.dst) (av:=norm r) (v:=r) (T':=putD o.dst g.s.T (norm r)) (Gm.le.refl γ) (norm_VR r) (by
   unfold tput putD
   cases hd:o.dst with
   | none=>rfl
   | some d=>
     have:Nat.blt d nt=true:=Nat.ble_eq_true_of_le (hdlt d hd)
     simp only [this])
  have e:(nx0 g (norm r)).s.T=putD o.dst g.s.T (norm r)∧(nx0 g (norm r)).s.ds=g.s.ds:=by
   rw [← hdst]
   obtain ⟨k,s⟩:=g
   unfold nx0 nx dstOf putD
   unfold hdOp at ho
   simp only at ho
   split at ho <;> first | (cases ho;done) | skip
   exact ⟨rfl,rfl⟩
  rw [e.1,e.2]
  exact hf'
 have key2:HR (fun k=>B k∨(k<w'.heap.size∧∀ b blk N,g.s.h.get b=some blk→γ b≠some (k,N))) P.globals.size γ (nx0 g (norm r)).s.h (nx0 g (norm r)).s.c w':=by
  have e:(nx0 g (norm r)).s.h=g.s.h∧(nx0 g (norm r)).s.c=g.s.c:=by
   obtain ⟨k,s⟩:=g
   unfold nx0 nx
   unfold hdOp at ho
   simp only at ho
   split at ho <;> first | (cases ho;done) | skip
   exact ⟨rfl,rfl⟩
  rw [e.1,e.2]
  refine ⟨fun b blk hb1=>?_,hr'.inj,hr'.fresh,hr'.glob,fun k hkk=>hkk.elim (fun h3=>hr'.base k h3) (fun h3=>h3.1)⟩
  obtain ⟨p,hp,hbr⟩:=hr'.live b blk hb1
  refine ⟨p,hp,?_⟩
  have hBp:=hB b blk p hb1 hp
  cases blk with
  | cells ty own clean ex lim cs=>
    obtain ⟨h0,h5⟩:=hbr
    exact ⟨fun ho=>hBp (h0 ho),h5⟩
  | map es clock=>
    obtain ⟨h0,h5⟩:=hbr
    exact ⟨hBp h0,h5⟩
  | row e xs=>
    obtain ⟨h0,h5⟩:=hbr
    exact ⟨hBp h0,h5⟩
 have hfin:=hg'.out γ (a.put o.dst r) w' hle key1 key2 (Keep.refl _ _)
 have e:(nx0 g (norm r)).k=restK g:=by
  obtain ⟨k,s⟩:=g
  unfold nx0 nx restK
  unfold hdOp at ho
  simp only at ho
  split at ho <;> first | (cases ho;done) | skip
  rfl
 rw [e] at hfin
 exact hfin
theorem good_callW (cx:Cx P I B w0) {f:FuncId} (xs:List Value) (F:Nat→Prop) {Pr:World→Value→World→Prop} (h:hdCall P nt g=some (f,xs.map norm)) (hbod:bodied P f=some true) (hx:closeLL (xs.map norm)=some xs)
  (hown:trAll blkOwned g.s.h=true) (hFB:∀ k,F k→B k)
  (hc:∀ w,Keep B w0 w→Calls P f xs.toArray w fun e w'=>∃ r,e = .returned r∧Pr w r w'∧Keep (fun k=>k<w.heap.size∧¬ F k) w w')
  (hg:∀ w r w' B',Keep B w0 w→Pr w r w'→Keep (fun k=>k<w.heap.size∧¬ F k) w w'→Keep (fun k=>B k∧¬ F k) w0 w'→(∀ k,B k→B' k)→(∀ k,w.heap.size≤k→k<w'.heap.size→B' k)→(∀ k,B' k→k<w'.heap.size)→Good P B' w' γ0 nt Q (nx0 g (norm r))):Good P B w0 γ0 nt Q g:=
 good_callW0 cx xs F h hbod (fun γ vs hl=>closeLL_eq hx hl) hown hFB hc hg
def hdStore (P:Program) (nt:Nat) (g:Cfg):Option (TypeId×AV×AV):=match hdOp P nt g with
 | none=>none
 | some o=>match o.op with
   | .store t x y=>match aev P g.s.T x,aev P g.s.T y with
     | some a,some b=>some (t,a,b)
     | _,_=>none
   | _=>none
theorem good_storeW (t:TypeId) (x y:Value) (F:Nat→Prop) {Pr:World→World→Prop} (h:hdStore P nt g=some (t,.v x,.v y)) (hown:trAll blkOwned g.s.h=true) (hFB:∀ k,F k→B k)
  (hc:∀ w,Keep B w0 w→∃ w',(Instr.storeAt t x y).run P w = .ok () w'∧Pr w w'∧Keep (fun k=>k<w.heap.size∧¬ F k) w w')
  (hg:∀ w w' B',Keep B w0 w→Pr w w'→Keep (fun k=>k<w.heap.size∧¬ F k) w w'→Keep (fun k=>B k∧¬ F k) w0 w'→(∀ k,B k→B' k)→(∀ k,B' k→k<w'.heap.size)→Good P B' w' γ0 nt Q (nx0 g (norm undef))):Good P B w0 γ0 nt Q g:=by
 have hg:∀ w r w' B',Keep B w0 w→r=undef∧Pr w w'→Keep (fun k=>k<w.heap.size∧¬ F k) w w'→Keep (fun k=>B k∧¬ F k) w0 w'→(∀ k,B k→B' k)→(∀ k,w.heap.size≤k→k<w'.heap.size→B' k)→(∀ k,B' k→k<w'.heap.size)→Good P B' w' γ0 nt Q (nx0 g (norm r)):=
  fun w r w' B' h1 h2 h3 h4 h5 _ h7=>by rw [h2.1];exact hg w w' B' h1 h2.2 h3 h4 h5 h7
 unfold hdStore at h
 split at h
 · cases h
 rename_i o ho
 split at h <;> first | (cases h;done) | skip
 rename_i t' x1 y1 hop
 split at h <;> first | (cases h;done) | skip
 rename_i aS aX hs hx
 injection h with h
 injection h with e1 h
 injection h with e2 e3
 subst e1 e2 e3
 refine good_opA ho (fun γ a w K QQ hle hf hr hb hdst hdlt hK=>?_)
 have hok:=hf.ok (P:=P) (B:=B) (G:=0) hr.glob o.op.operands.toList
 have hmem:o.op.operands.toList=[x1,y1]:=by rw [hop];simp [Op.operands]
 have hs':=hok x1 (by simp [hmem]) _ hs
 have hx':=hok y1 (by simp [hmem]) _ hx
 have es:a.eval x1=x:=by generalize a.eval x1=q at hs';cases hs';rfl
 have ex:a.eval y1=y:=by generalize a.eval y1=q at hx';cases hx';rfl
 obtain ⟨w',hrun,h1',h2⟩:=hc w hb
 obtain ⟨r,hr0⟩:∃ r,r=undef:=⟨_,rfl⟩
 have h1:r=undef∧Pr w w':=⟨hr0,h1'⟩
 have hopr:(execOp a.eval o).run P w = .ok .skip w':=by
  unfold execOp
  simp only [hop,es,ex,Sem.run_bind,Sem.run_pure,Result.andThen_ok,hrun]
 refine wp_skip' hopr ?_
 rw [← hr0]
 have hk:Keep (fun k=>B k∧¬ F k) w0 w':=(hb.mono fun k h=>h.1).trans (h2.mono fun k h=>⟨hr.base k h.1,h.2⟩)
 have hnF:∀ b blk p,g.s.h.get b=some blk→γ b=some p→¬ F p.1:=fun b blk p hb1 hp hFp=>by
  obtain ⟨q,hq,hbr⟩:=hr.live b blk hb1
  rw [hp] at hq
  injection hq with hq
  subst hq
  exact blkOwned_ok (trAll_get hown _ _ hb1) hbr (hFB _ hFp)
 have hr':HR B P.globals.size γ g.s.h g.s.c w':=⟨fun b blk hb1=>by
  obtain ⟨p,hp,hbr⟩:=hr.live b blk hb1
  exact ⟨p,hp,hbr.kept (h2.block _ ⟨hbr.lt,hnF b blk p hb1 hp⟩)⟩,hr.inj,hr.fresh,hr.glob,fun k h=>Nat.lt_of_lt_of_le (hr.base k h) h2.size⟩
 refine hK _ _ ?_
 have hlt:∀ {b blk k N},g.s.h.get b=some blk→γ b=some (k,N)→k<w.heap.size:=by
  intro b blk k N hb1 hγ
  obtain ⟨p,hp,hbr⟩:=hr.live b blk hb1
  rw [hγ] at hp
  injection hp with hp
  subst hp
  exact hbr.lt
 have hg':=hg w r w' (fun k=>B k∨(k<w'.heap.size∧∀ b blk N,g.s.h.get b=some blk→γ b≠some (k,N))) hb h1 h2 hk (fun k => .inl)
  (fun k h3 h4 => .inr ⟨h4,fun b blk N hb1 hγ=>by have:=hlt hb1 hγ;omega⟩)
  (fun k hkk=>hkk.elim (fun h3=>hr'.base k h3) (fun h3=>h3.1))
 have hB:∀ b blk p,g.s.h.get b=some blk→γ b=some p→¬ B p.1→¬ (B p.1∨(p.1<w'.heap.size∧∀ b blk N,g.s.h.get b=some blk→γ b≠some (p.1,N))):=by
  intro b blk p hb1 hγ hnB hor
  rcases hor with h3 | h3
  · exact hnB h3
  · exact h3.2 b blk p.2 hb1 hγ
 have key1:FR γ nt (nx0 g (norm r)).s.T (nx0 g (norm r)).s.ds (a.put o.dst r):=by
  have hf':=hf.put (dst:=o.dst) (av:=norm r) (v:=r) (T':=putD o.dst g.s.T (norm r)) (Gm.le.refl γ) (norm_VR r) (by
   unfold tput putD
   cases hd:o.dst with
   | none=>rfl
   | some d=>
     have:Nat.blt d nt=true:=Nat.ble_eq_true_of_le (hdlt d hd)
     simp only [this])
  have e:(nx0 g (norm r)).s.T=putD o.dst g.s.T (norm r)∧(nx0 g (norm r)).s.ds=g.s.ds:=by
   rw [← hdst]
   obtain ⟨k,s⟩:=g
   unfold nx0 nx dstOf putD
   unfold hdOp at ho
   simp only at ho
   split at ho <;> first | (cases ho;done) | skip
   exact ⟨rfl,rfl⟩
  rw [e.1,e.2]
  exact hf'
 have key2:HR (fun k=>B k∨(k<w'.heap.size∧∀ b blk N,g.s.h.get b=some blk→γ b≠some (k,N))) P.globals.size γ (nx0 g (norm r)).s.h (nx0 g (norm r)).s.c w':=by
  have e:(nx0 g (norm r)).s.h=g.s.h∧(nx0 g (norm r)).s.c=g.s.c:=by
   obtain ⟨k,s⟩:=g
   unfold nx0 nx
   unfold hdOp at ho
   simp only at ho
   split at ho <;> first | (cases ho;done) | skip
   exact ⟨rfl,rfl⟩
  rw [e.1,e.2]
  refine ⟨fun b blk hb1=>?_,hr'.inj,hr'.fresh,hr'.glob,fun k hkk=>hkk.elim (fun h3=>hr'.base k h3) (fun h3=>h3.1)⟩
  obtain ⟨p,hp,hbr⟩:=hr'.live b blk hb1
  refine ⟨p,hp,?_⟩
  have hBp:=hB b blk p hb1 hp
  cases blk with
  | cells ty own clean ex lim cs=>
    obtain ⟨h0,h5⟩:=hbr
    exact ⟨fun ho=>hBp (h0 ho),h5⟩
  | map es clock=>
    obtain ⟨h0,h5⟩:=hbr
    exact ⟨hBp h0,h5⟩
  | row e xs=>
    obtain ⟨h0,h5⟩:=hbr
    exact ⟨hBp h0,h5⟩
 have hfin:=hg'.out γ (a.put o.dst r) w' hle key1 key2 (Keep.refl _ _)
 have e:(nx0 g (norm r)).k=restK g:=by
  obtain ⟨k,s⟩:=g
  unfold nx0 nx restK
  unfold hdOp at ho
  simp only at ho
  split at ho <;> first | (cases ho;done) | skip
  rfl
 rw [e] at hfin
 exact hfin
end
end Go.Sy
end
end
section
noncomputable section
namespace Go.Sy
open Go Go.RowKit
section
variable {P:Program} {I:Aux} {B:Nat→Prop} {w0:World} {γ0:Gm} {nt:Nat} {Q:Exit→Act→World→Prop} {g:Cfg}
theorem turnW {o:Oper} (ho:hdOp P nt g=some o) (F:Nat→Prop) (hown:trAll blkOwned g.s.h=true) (hFB:∀ k,F k→B k) {γ:Gm} {a:Act} {w w':World} {r:Value}
  (hle:Gm.le γ0 γ) (hf:FR γ nt g.s.T g.s.ds a) (hr:HR B P.globals.size γ g.s.h g.s.c w) (hb:Keep B w0 w) (hdst:dstOf g=o.dst) (hdlt:∀ d,o.dst=some d→d<nt) (h2:Keep (fun k=>k<w.heap.size∧¬ F k) w w')
  (hg:∀ B',Keep (fun k=>B k∧¬ F k) w0 w'→(∀ k,B k→B' k)→(∀ k,w.heap.size≤k→k<w'.heap.size→B' k)→(∀ k,B' k→k<w'.heap.size)→Good P B' w' γ0 nt Q (nx0 g (norm r))):
  after P Q (restK g) .normal (a.put o.dst r) w':=by
 have hk:Keep (fun k=>B k∧¬ F k) w0 w':=(hb.mono fun k h=>h.1).trans (h2.mono fun k h=>⟨hr.base k h.1,h.2⟩)
 have hnF:∀ b blk p,g.s.h.get b=some blk→γ b=some p→¬ F p.1:=fun b blk p hb1 hp hFp=>by
  obtain ⟨q,hq,hbr⟩:=hr.live b blk hb1
  rw [hp] at hq
  injection hq with hq
  subst hq
  exact blkOwned_ok (trAll_get hown _ _ hb1) hbr (hFB _ hFp)
 have hr':HR B P.globals.size γ g.s.h g.s.c w':=⟨fun b blk hb1=>by
  obtain ⟨p,hp,hbr⟩:=hr.live b blk hb1
  exact ⟨p,hp,hbr.kept (h2.block _ ⟨hbr.lt,hnF b blk p hb1 hp⟩)⟩,hr.inj,hr.fresh,hr.glob,fun k h=>Nat.lt_of_lt_of_le (hr.base k h) h2.size⟩
 have hlt:∀ {b blk k N},g.s.h.get b=some blk→γ b=some (k,N)→k<w.heap.size:=by
  intro b blk k N hb1 hγ
  obtain ⟨p,hp,hbr⟩:=hr.live b blk hb1
  rw [hγ] at hp
  injection hp with hp
  subst hp
  exact hbr.lt
 have hg':=hg (fun k=>B k∨(k<w'.heap.size∧∀ b blk N,g.s.h.get b=some blk→γ b≠some (k,N))) hk (fun k => .inl)
  (fun k h3 h4 => .inr ⟨h4,fun b blk N hb1 hγ=>by have:=hlt hb1 hγ;omega⟩)
  (fun k hkk=>hkk.elim (fun h3=>hr'.base k h3) (fun h3=>h3.1))
 have hB:∀ b blk p,g.s.h.get b=some blk→γ b=some p→¬ B p.1→¬ (B p.1∨(p.1<w'.heap.size∧∀ b blk N,g.s.h.get b=some blk→γ b≠some (p.1,N))):=by
  intro b blk p hb1 hγ hnB hor
  rcases hor with h3 | h3
  · exact hnB h3
  · exact h3.2 b blk p.2 hb1 hγ
 have key1:FR γ nt (nx0 g (norm r)).s.T (nx0 g (norm r)).s.ds (a.put o.dst r):=by
  have hf':=hf.put (dst:=o.dst) (av:=norm r) (v:=r) (T':=putD o.dst g.s.T (norm r)) (Gm.le.refl γ) (norm_VR r) (by
   unfold tput putD
   cases hd:o.dst with
   | none=>rfl
   | some d=>
     have:Nat.blt d nt=true:=Nat.ble_eq_true_of_le (hdlt d hd)
     simp only [this])
  have e:(nx0 g (norm r)).s.T=putD o.dst g.s.T (norm r)∧(nx0 g (norm r)).s.ds=g.s.ds:=by
   rw [← hdst]
   obtain ⟨k,s⟩:=g
   unfold nx0 nx dstOf putD
   unfold hdOp at ho
   simp only at ho
   split at ho <;> first | (cases ho;done) | skip
   exact ⟨rfl,rfl⟩
  rw [e.1,e.2]
  exact hf'
 have key2:HR (fun k=>B k∨(k<w'.heap.size∧∀ b blk N,g.s.h.get b=some blk→γ b≠some (k,N))) P.globals.size γ (nx0 g (norm r)).s.h (nx0 g (norm r)).s.c w':=by
  have e:(nx0 g (norm r)).s.h=g.s.h∧(nx0 g (norm r)).s.c=g.s.c:=by
   obtain ⟨k,s⟩:=g
   unfold nx0 nx
   unfold hdOp at ho
   simp only at ho
   split at ho <;> first | (cases ho;done) | skip
   exact ⟨rfl,rfl⟩
  rw [e.1,e.2]
  refine ⟨fun b blk hb1=>?_,hr'.inj,hr'.fresh,hr'.glob,fun k hkk=>hkk.elim (fun h3=>hr'.base k h3) (fun h3=>h3.1)⟩
  obtain ⟨p,hp,hbr⟩:=hr'.live b blk hb1
  refine ⟨p,hp,?_⟩
  have hBp:=hB b blk p hb1 hp
  cases blk with
  | cells ty own clean ex lim cs=>
    obtain ⟨h0,h5⟩:=hbr
    exact ⟨fun ho=>hBp (h0 ho),h5⟩
  | map es clock=>
    obtain ⟨h0,h5⟩:=hbr
    exact ⟨hBp h0,h5⟩
  | row e xs=>
    obtain ⟨h0,h5⟩:=hbr
    exact ⟨hBp h0,h5⟩
 have hfin:=hg'.out γ (a.put o.dst r) w' hle key1 key2 (Keep.refl _ _)
 have e:(nx0 g (norm r)).k=restK g:=by
  obtain ⟨k,s⟩:=g
  unfold nx0 nx restK
  unfold hdOp at ho
  simp only at ho
  split at ho <;> first | (cases ho;done) | skip
  rfl
 rw [e] at hfin
 exact hfin
def hdBi (P:Program) (nt:Nat) (g:Cfg):Option (Builtin×List TypeId×List AV):=match hdOp P nt g with
 | none=>none
 | some o=>match o.op with
   | .call k=>match k.callee with
     | .builtin b=>match aevs P g.s.T k.args.toList with
       | some l=>some (b,k.argTypes.toList,l)
       | none=>none
     | _=>none
   | _=>none
theorem allV_eq {γ:Gm}:∀ {xs vs:List Value},LR γ (xs.map AV.v) vs→vs=xs
 | [],vs,h=>List.eq_nil_of_length_eq_zero (by have:=h.1;simpa using this.symm)
 | x::xs,vs,h=>by
   cases vs with
   | nil=>have:=h.1;simp at this
   | cons v vs=>
     have h0:=h.2 0 (.v x) v rfl rfl
     have ht:LR γ (xs.map AV.v) vs:=⟨by have:=h.1;simpa using this,fun i b y h1 h2=>h.2 (i+1) b y (by simpa using h1) (by simpa using h2)⟩
     rw [allV_eq ht]
     cases h0
     rfl
theorem good_biW (b:Builtin) (ts:List TypeId) (xs:List Value) (F:Nat→Prop) {Pr:World→Value→World→Prop} (h:hdBi P nt g=some (b,ts,xs.map AV.v)) (hown:trAll blkOwned g.s.h=true) (hFB:∀ k,F k→B k)
  (hc:∀ w,Keep B w0 w→(∀ k,B k→k<w.heap.size)→∀ ty cs,∃ r w',(builtin b ts.toArray ty cs xs.toArray).run P w = .ok (.value r) w'∧Pr w r w'∧Keep (fun k=>k<w.heap.size∧¬ F k) w w')
  (hg:∀ w r w' B',Keep B w0 w→Pr w r w'→Keep (fun k=>k<w.heap.size∧¬ F k) w w'→Keep (fun k=>B k∧¬ F k) w0 w'→(∀ k,B k→B' k)→(∀ k,w.heap.size≤k→k<w'.heap.size→B' k)→(∀ k,B' k→k<w'.heap.size)→Good P B' w' γ0 nt Q (nx0 g (norm r))):Good P B w0 γ0 nt Q g:=by
 unfold hdBi at h
 split at h
 · cases h
 rename_i o ho
 split at h <;> first | (cases h;done) | skip
 rename_i kk hop
 split at h <;> first | (cases h;done) | skip
 rename_i b' hce
 split at h <;> first | (cases h;done) | skip
 rename_i l hl
 injection h with h
 injection h with e1 h
 injection h with e2 e3
 subst e1 e2 e3
 refine good_opA ho (fun γ a w K QQ hle hf hr hb hdst hdlt hK=>?_)
 have hok:=hf.ok (P:=P) (B:=B) (G:=0) hr.glob o.op.operands.toList
 have hlv:=aevs_ok (a:=a) (fun y hy=>hok y (by rw [hop];simp only [Op.operands,Call.operands,hce];simpa using hy)) hl
 have hvs:=allV_eq hlv
 obtain ⟨r,w',hrun,h1,h2⟩:=hc w hb hr.base o.type (kk.args.map fun | .const _=>true | _=>false)
 have hopr:(execOp a.eval o).run P w = .ok (.value r) w':=by
  unfold execOp
  have e:kk.args.map a.eval=xs.toArray:=by
   apply Array.ext'
   simpa using hvs
  have hts:kk.argTypes.toList.toArray=kk.argTypes:=by simp
  rw [hts] at hrun
  simp only [hop,resolve,hce,invoke,Sem.run_bind,Sem.run_pure,Result.andThen_ok,e]
  exact hrun
 refine wp_val hopr (hK _ _ ?_)
 exact turnW ho F hown hFB hle hf hr hb hdst hdlt h2 (fun B' h3 h4 h5 h6=>hg w r w' B' hb h1 h2 h3 h4 h5 h6)
def getsV (cs:Tr AV):Nat→Nat→Option (List Value)
 | _,0=>some []
 | i,n+1=>match cs.get i with
   | some a=>match a.close with
     | some x=>match getsV cs (i+1) n with
       | some r=>some (x::r)
       | none=>none
     | none=>none
   | none=>none
theorem getsV_get {cs:Tr AV}:∀ {n i:Nat} {vals:List Value},getsV cs i n=some vals→vals.length=n∧∀ j x,vals[j]?=some x→∃ a:AV,cs.get (i+j)=some a∧a.close=some x
 | 0,i,vals,h=>by
   simp only [getsV,Option.some.injEq] at h
   subst h
   exact ⟨rfl,fun j x hx=>by simp at hx⟩
 | n+1,i,vals,h=>by
   simp only [getsV] at h
   split at h <;> first | (cases h;done) | skip
   rename_i a ha
   split at h <;> first | (cases h;done) | skip
   rename_i x hx
   split at h <;> first | (cases h;done) | skip
   rename_i r hr
   injection h with h
   subst h
   obtain ⟨h1,h2⟩:=getsV_get hr
   refine ⟨by simp [h1],fun j y hy=>?_⟩
   cases j with
   | zero=>
     simp at hy
     subst hy
     exact ⟨a,ha,hx⟩
   | succ j=>
     have:=h2 j y (by simpa using hy)
     rw [show i+(j+1)=i+1+j by omega]
     exact this
def giveB:Option Blk→Option (Nat×List Value)
 | some (.cells ty true true true lim cs)=>match getsV cs 0 lim with
   | some r=>some (ty,r)
   | none=>none
 | _=>none
theorem good_give (t b:Nat) (ty:Nat) (vals:List Value) (h:g.s.T.get t=some (.ptr b 0)) (hb:giveB (g.s.h.get b)=some (ty,vals))
  (hg:∀ k w1 B1,Keep B w0 w1→(∀ j,B j→B1 j)→B1 k→¬ B k→(∀ j,B1 j→j<w1.heap.size)→w1.heap[k]?=some (.cells vals.toArray ty (0,0))→
   Good P B1 w1 γ0 nt Q ⟨g.k,⟨g.s.T.put t (some (.v (.pointer (some ⟨k,0,none⟩)))),g.s.h.put b none,g.s.c,g.s.ds⟩⟩):Good P B w0 γ0 nt Q g:=by
 unfold giveB at hb
 split at hb <;> first | (cases hb;done) | skip
 rename_i ty1 lim cs hb1
 split at hb <;> first | (cases hb;done) | skip
 rename_i r hget
 injection hb with hb
 injection hb with e1 e2
 subst e1 e2
 obtain ⟨hlen,hcell⟩:=getsV_get hget
 refine ⟨fun γ a w hle hf hr hk=>?_⟩
 obtain ⟨p,hp,hbr⟩:=hr.live b _ hb1
 obtain ⟨h0,c,ty',fz,h1,h2,h3,h4⟩:=hbr
 obtain ⟨v,hv1,hv2⟩:=hf.tmps _ _ h
 obtain ⟨n,N,rfl,hγ⟩:∃ n N,v = .pointer (some ⟨n,0,none⟩)∧γ b=some (n,N):=by
  cases hv2 with
  | ptr h=>exact ⟨_,_,rfl,h⟩
 rw [hγ] at hp
 injection hp with hp
 subst hp
 obtain ⟨hfz,hty⟩:=h3.1 rfl
 have hsz:=(h3.2 rfl).1
 subst hfz hty
 have hnB:=h0 rfl
 have hlt:n<w.heap.size:=(Array.getElem?_eq_some_iff.1 h1).1
 have hc:c=r.toArray:=by
  apply Array.ext'
  apply List.ext_getElem?
  intro i
  rcases Nat.lt_or_ge i r.length with hi | hi
  · have e1:r[i]?=some r[i]:=List.getElem?_eq_getElem hi
    obtain ⟨a1,e2,e3⟩:=hcell i r[i] e1
    rw [Nat.zero_add] at e2
    obtain ⟨x,hx1,hx2⟩:=h4 i _ (by omega) e2
    have e4:=close_eq e3 hx2
    subst e4
    rw [e1]
    simpa using hx1
  · have e1:c.toList.length=c.size:=Array.length_toList
    rw [List.getElem?_eq_none hi,List.getElem?_eq_none (by omega)]
 subst hc
 refine (hg n w (fun j=>B j∨j=n) hk (fun j => .inl) (.inr rfl) hnB (fun j hj=>hj.elim (fun h=>hr.base j h) (fun e=>by subst e;exact hlt)) h1).out γ a w hle ⟨hf.size,fun t' av ht=>?_,hf.defs⟩ ⟨fun b2 blk2 hb2=>?_,fun b2 b3 blk2 blk3 p2 p3 h5 h6 g1 g2 e=>?_,hr.fresh,hr.glob,fun j hj=>hj.elim (fun h=>hr.base j h) (fun e=>by subst e;exact hlt)⟩ (Keep.refl _ _)
 · simp only at ht
   rw [Tr.get_put] at ht
   split at ht
   · rename_i e
     subst e
     injection ht with ht
     subst ht
     exact ⟨_,hv1,.v _⟩
   · exact hf.tmps t' av ht
 · simp only at hb2
   rw [Tr.get_put] at hb2
   split at hb2
   · cases hb2
   rename_i hne
   obtain ⟨q,hq,hbr2⟩:=hr.live b2 blk2 hb2
   have hne2:q.1≠n:=fun e=>hne (hr.inj _ _ _ _ _ _ hb2 hb1 hq hγ e)
   have key:¬ B q.1→¬ (B q.1∨q.1=n):=fun h1 h2=>h2.elim h1 hne2
   refine ⟨q,hq,?_⟩
   cases blk2 with
   | cells ty own cl ex lim cs=>exact ⟨fun e=>key (hbr2.1 e),hbr2.2⟩
   | map es clock=>exact ⟨key hbr2.1,hbr2.2⟩
   | row e xs=>exact ⟨key hbr2.1,hbr2.2⟩
 · simp only at h5 h6
   rw [Tr.get_put] at h5 h6
   split at h5
   · cases h5
   split at h6
   · cases h6
   exact hr.inj _ _ _ _ _ _ h5 h6 g1 g2 e
theorem good_callE (cx:Cx P I B w0) {f:FuncId} (xs:List Value) (Pr:Value→Prop) (h:hdCall P nt g=some (f,xs.map norm)) (hbod:bodied P f=some true) (hx:closeLL (xs.map norm)=some xs)
  (hc:∀ w,Keep B w0 w→Calls P f xs.toArray w fun e w'=>∃ r,e = .returned r∧Pr r∧Below w.heap.size w w')
  (hg:∀ r w',Pr r→Keep B w0 w'→Good P B w0 γ0 nt Q (nx0 g (norm r))):Good P B w0 γ0 nt Q g:=
 good_callV cx xs (Pr:=fun r _=>Pr r) h hbod (fun γ vs hl=>closeLL_eq hx hl) hc hg
theorem uniq_row {γ:Gm} {fa:Value→AV} (hfa:∀ x y,VR γ (fa x) y→y=x) {l:List Value} {vs:Array Value} (hl:(l.map fa).length=vs.size) (h:∀ (i:Nat) (a:AV) (x:Value),(l.map fa)[i]?=some a→vs[i]?=some x→VR γ a x):vs=l.toArray:=by
 apply Array.ext'
 apply List.ext_getElem?
 intro i
 simp only [List.length_map] at hl
 rcases Nat.lt_or_ge i l.length with hi | hi
 · have h1:(l.map fa)[i]?=some (fa l[i]):=by simp [List.getElem?_eq_getElem hi]
   have h2:vs[i]?=some vs[i]:=Array.getElem?_eq_getElem (by omega)
   have:=hfa _ _ (h i _ _ h1 h2)
   simp only [List.getElem?_eq_getElem hi]
   rw [← this]
   simp
 · have e1:vs.toList.length=vs.size:=Array.length_toList
   rw [List.getElem?_eq_none (by omega),List.getElem?_eq_none (by simp;exact hi)]
theorem v_uniq {γ:Gm} (x y:Value) (h:VR γ (.v x) y):y=x:=by cases h;rfl
theorem norm0_uniq {γ:Gm} (x y:Value) (h:VR γ (norm0 x) y):y=x:=by
 cases x <;> first | exact v_uniq _ _ h | skip
 rename_i cs
 generalize hg:norm0 (.agg cs)=a at h
 have hg:a = .agg (cs.toList.map .v):=hg.symm
 subst hg
 cases h with
 | agg hl hh=>exact congrArg Value.agg (by have:=uniq_row (fa:=AV.v) (fun x y=>v_uniq x y) hl hh;simpa using this)
theorem norm_uniq {γ:Gm} (x y:Value) (h:VR γ (norm x) y):y=x:=by
 cases x with
 | tuple vs=>
   generalize hg:norm (.tuple vs)=a at h
   have hg:a = .tup (vs.toList.map norm0):=hg.symm
   subst hg
   cases h with
   | tup hl hh=>exact congrArg Value.tuple (by have:=uniq_row (fun x y=>norm0_uniq (γ:=γ) x y) hl hh;simpa using this)
 | iface t x=>
   generalize hg:norm (.iface t x)=a at h
   have hg:a = .ifc t (norm0 x):=hg.symm
   subst hg
   cases h with
   | ifc h=>exact congrArg (Value.iface t) (norm0_uniq _ _ h)
 | func f a b=>
   generalize hg:norm (.func f a b)=av at h
   have hg:av = .fn f (a.toList.map norm0) (b.toList.map norm0):=hg.symm
   subst hg
   cases h with
   | fn hl hh hl' hh'=>
     have e1:=uniq_row (fun x y=>norm0_uniq (γ:=γ) x y) hl hh
     have e2:=uniq_row (fun x y=>norm0_uniq (γ:=γ) x y) hl' hh'
     simp only [Array.toArray_toList] at e1 e2
     rw [e1,e2]
 | agg cs=>exact norm0_uniq _ _ h
 | _=>exact v_uniq _ _ h
theorem norms_uniq {γ:Gm}:∀ {xs vs:List Value},LR γ (xs.map norm) vs→vs=xs
 | [],vs,h=>List.eq_nil_of_length_eq_zero (by have:=h.1;simpa using this.symm)
 | x::xs,vs,h=>by
   cases vs with
   | nil=>have:=h.1;simp at this
   | cons v vs=>
     have h0:=h.2 0 (norm x) v rfl rfl
     have ht:LR γ (xs.map norm) vs:=⟨by have:=h.1;simpa using this,fun i b y h1 h2=>h.2 (i+1) b y (by simpa using h1) (by simpa using h2)⟩
     rw [norms_uniq ht,norm_uniq _ _ h0]
theorem good_callN (cx:Cx P I B w0) {f:FuncId} (xs:List Value) (Pr:Value→Prop) (h:hdCall P nt g=some (f,xs.map norm)) (hbod:bodied P f=some true)
  (hc:∀ w,Keep B w0 w→Calls P f xs.toArray w fun e w'=>∃ r,e = .returned r∧Pr r∧Below w.heap.size w w')
  (hg:∀ r w',Pr r→Keep B w0 w'→Good P B w0 γ0 nt Q (nx0 g (norm r))):Good P B w0 γ0 nt Q g:=
 good_callV cx xs (Pr:=fun r _=>Pr r) h hbod (fun γ vs hl=>norms_uniq hl) hc hg
end
end Go.Sy
end
end
section
noncomputable section
namespace Go.Sy
open Go Go.RowKit Go.As
section
variable {P:Program} {ops:Array Oper} {md:Region.Mode} {C:World→Prop}
theorem wpAnyQ_lexP {Q:Act→Prop} (hs:Region.noSelect ops=true):∀ (l:List Oper) (k:Nat) (listed:Array Bool) (a:Act),(∀ j,j<l.length→l[j]?=ops[k+j]?)→
  Region.lexFrom md ops l.length k listed=true→wpQuiet P ops C Q l a→wpAnyQ P md ops C Q l.length listed a
 | [],_,_,_,_,hB,h=>⟨by simpa [Region.lexFrom] using hB,h⟩
 | o::l,k,listed,a,hl,hB,h=>by
   have h0:ops[k]?=some o:=by simpa using (hl 0 (by simp)).symm
   simp only [List.length_cons,Region.lexFrom,Bool.and_eq_true] at hB
   obtain ⟨⟨hr,hf⟩,hB'⟩:=hB
   have hst:qOp P ops C k (wpQuiet P ops C Q l) a:=by unfold qOp;simp only [h0];exact h
   obtain ⟨v,hy,hK⟩:=yieldsIn_of_qOp h0 hst
   exact wpAnyQ_first h0 (Region.noSelect_spec hs) l.length listed a (Region.free_spec h0 hf) (by simpa using hr) hy
    (wpAnyQ_lexP hs l (k+1) _ _ (fun j hj=>by have:=hl (j+1) (by simpa using hj);simpa [Nat.add_assoc,Nat.add_comm 1 j] using this) hB' hK)
end
structure LastT (md:Region.Mode) (ops:Array Oper) (z:Nat):Prop where
 lt:z<ops.size
 succ:∀ j,j≠z→j<ops.size→∃ k ok,j<k∧ops[k]?=some ok∧∃ e∈ok.after,Region.binds md e=true∧e.on=j
 free:∀ (j:Nat) (oj:Oper),ops[j]?=some oj→∀ e∈oj.after,Region.binds md e=true→e.on<j∧e.on≠z
def Shut (md:Region.Mode) (ops:Array Oper) (l:Array Bool):Prop:=∀ (j:Nat) (oj:Oper),ops[j]?=some oj→l.getD j false=true→∀ e∈oj.after,Region.binds md e=true→l.getD e.on false=true
section
variable {P:Program} {ops:Array Oper} {Q:Exit→Act→World→Prop} {md:Region.Mode}
theorem ready_someT {z:Nat} (hz:LastT md ops z) {l:Array Bool} (hl:l.size=ops.size):∀ (j:Nat),j<ops.size→l.getD j true=false→Region.ready md ops l≠[]:=by
 intro j
 induction j using Nat.strongRecOn with
 | _ j ih=>
   intro hj hun hr
   obtain ⟨oj,hoj⟩:∃ oj,ops[j]?=some oj:=⟨ops[j],Array.getElem?_eq_getElem hj⟩
   by_cases hall:∀ e∈oj.after,Region.binds md e=true→l.getD e.on false=true
   · have:j∈Region.ready md ops l:=mem_ready.2 ⟨hun,oj,hoj,hall⟩
     rw [hr] at this
     cases this
   · simp only [Classical.not_forall] at hall
     obtain ⟨e,he,hb,hne⟩:=hall
     have hlt:=(hz.free j oj hoj e he hb).1
     refine ih e.on hlt (by omega) ?_ hr
     have hlt2:e.on<l.size:=by omega
     have h1:l.getD e.on false=l[e.on]:=by simp [hlt2]
     have h2:l.getD e.on true=l[e.on]:=by simp [hlt2]
     rw [h2]
     rw [h1] at hne
     simpa using hne
theorem getD_set_f (l:Array Bool) (i j:Nat) (h:l.getD j false=true):(l.setIfInBounds i true).getD j false=true:=by
 by_cases hij:i=j
 · subst hij
   rcases Nat.lt_or_ge i l.size with h' | h'
   · simp [h']
   · simp [Array.getElem?_eq_none h'] at h
 · simp only [Array.getD_eq_getD_getElem?] at h ⊢
   rw [Array.getElem?_setIfInBounds_ne hij]
   exact h
theorem Shut.set {l:Array Bool} {i:Nat} (h:Shut md ops l) (hi:i∈Region.ready md ops l):Shut md ops (l.setIfInBounds i true):=by
 intro j oj hoj hj e he hb
 refine getD_set_f l i e.on ?_
 obtain ⟨_,oi,hoi,hall⟩:=mem_ready.1 hi
 by_cases hij:i=j
 · subst hij
   rw [hoi] at hoj
   injection hoj with hoj
   subst hoj
   exact hall e he hb
 · refine h j oj hoj ?_ e he hb
   simp only [Array.getD_eq_getD_getElem?] at hj ⊢
   rwa [Array.getElem?_setIfInBounds_ne hij] at hj
theorem all_listed {z:Nat} (hz:LastT md ops z) {l:Array Bool} (hs:Shut md ops l) (h:z∈Region.ready md ops l):∀ (m j:Nat),ops.size - j≤m→j≠z→j<ops.size→l.getD j false=true:=by
 intro m
 induction m with
 | zero=>intro j h1 _ h3;omega
 | succ m ih=>
   intro j h1 h2 h3
   obtain ⟨k,ok,hk,hok,e,he,hb,heq⟩:=hz.succ j h2 h3
   have hklt:k<ops.size:=(Array.getElem?_eq_some_iff.1 hok).1
   by_cases hkz:k=z
   · subst hkz
     obtain ⟨_,oz,hoz,hall⟩:=mem_ready.1 h
     rw [hok] at hoz
     injection hoz with hoz
     subst hoz
     rw [← heq]
     exact hall e he hb
   · rw [← heq]
     exact hs k ok hok (ih k (by omega) hkz hklt) e he hb
theorem wpAny_lastT {z:Nat} (hz:LastT md ops z):∀ (fuel:Nat) (l:Array Bool) (a:Act) (w:World),l.size=ops.size→l.getD z true=false→Shut md ops l→
  wpAny P md ops (lastPost P ops Q z) fuel (l.setIfInBounds z true) a w→wpAny P md ops Q (fuel+1) l a w:=by
 have hset:∀ (l:Array Bool) (i j:Nat),(l.setIfInBounds i true).setIfInBounds j true=(l.setIfInBounds j true).setIfInBounds i true:=by
  intro l i j
  by_cases e:i=j
  · subst e;rfl
  · exact Array.setIfInBounds_comm true true e
 have hzr:∀ {l:Array Bool},Shut md ops l→z∈Region.ready md ops l→Region.ready md ops (l.setIfInBounds z true)=[]:=by
  intro l hs h
  obtain ⟨h0,oz,hoz,hall⟩:=mem_ready.1 h
  apply List.eq_nil_iff_forall_not_mem.2
  intro j hj
  obtain ⟨h1,oj,hoj,_⟩:=mem_ready.1 hj
  have hjlt:j<ops.size:=(Array.getElem?_eq_some_iff.1 hoj).1
  by_cases hjz:j=z
  · subst hjz
    rcases Nat.lt_or_ge j l.size with h2 | h2
    · simp [h2] at h1
    · simp [Array.getElem?_eq_none h2] at h0
  · have h3:=all_listed hz hs h _ j (Nat.le_refl _) hjz hjlt
    rw [getD_set_ne true (fun e=>hjz e.symm)] at h1
    rcases Nat.lt_or_ge j l.size with h2 | h2
    · simp [h2] at h1 h3
      rw [h3] at h1
      cases h1
    · simp [Array.getElem?_eq_none h2] at h3
 intro fuel
 induction fuel with
 | zero=>
   intro l a w hl hun hs H
   refine ⟨fun hr=>absurd hr (ready_someT hz hl z hz.lt hun),fun i hi=>?_⟩
   by_cases hiz:i=z
   · subst hiz
     exact wpOp_mono (fun a' w' h=>⟨hzr hs hi,h⟩) H.2
   · have:=ready_mono (i:=z) hi hiz
     rw [H.1] at this
     cases this
 | succ fuel ih=>
   intro l a w hl hun hs H
   refine ⟨fun hr=>absurd hr (ready_someT hz hl z hz.lt hun),fun i hi=>?_⟩
   by_cases hiz:i=z
   · subst hiz
     have hr:=hzr hs hi
     have:=H.1 hr
     exact wpOp_mono (fun a' w' h=>⟨fun _=>h,fun j hj=>by rw [hr] at hj;cases hj⟩) this
   · have h1:=H.2 i (ready_mono (i:=z) hi hiz)
     have h2:wpOp P ops Q i (wpAny P md ops (lastPost P ops Q z) fuel ((l.setIfInBounds z true).setIfInBounds i true)) a w:=h1
     refine wpOp_mono (fun a' w' h=>?_) h2
     rw [hset] at h
     exact ih _ a' w' (by simpa using hl) (by rw [getD_set_ne true (fun e=>hiz e)];exact hun) (hs.set hi) h
end
def lastChkT (ops:Array Oper) (z:Nat):Bool:=Nat.beq ops.size (z+1) &&
 ((List.range z).all fun j=>ops.toList.zipIdx.any fun x=>Nat.blt j x.2&&x.1.after.toList.any fun e=>Region.binds .any e&&Nat.beq e.on j) &&
 (ops.toList.zipIdx.all fun x=>x.1.after.toList.all fun e=>!Region.binds .any e || (Nat.blt e.on x.2&&!Nat.beq e.on z))
theorem lastChkT_ok {ops:Array Oper} {z:Nat} (h:lastChkT ops z=true):LastT .any ops z:=by
 unfold lastChkT at h
 simp only [Bool.and_eq_true] at h
 obtain ⟨⟨h0,h1⟩,h2⟩:=h
 have h0:=Nat.eq_of_beq_eq_true h0
 refine ⟨by omega,fun j hjz hj=>?_,fun j oj hoj e he hb=>?_⟩
 · have:=List.all_eq_true.1 h1 j (List.mem_range.2 (by omega))
   obtain ⟨⟨ok,k⟩,hm,h3⟩:=List.any_eq_true.1 this
   rw [Bool.and_eq_true] at h3
   obtain ⟨h3,h4⟩:=h3
   obtain ⟨e,he,h5⟩:=List.any_eq_true.1 h4
   rw [Bool.and_eq_true] at h5
   rw [List.mem_zipIdx_iff_getElem?] at hm
   exact ⟨k,ok,blt_lt h3,by simpa using hm,e,by simpa using he,h5.1,Nat.eq_of_beq_eq_true h5.2⟩
 · have hm:(oj,j)∈ops.toList.zipIdx:=by
    rw [List.mem_zipIdx_iff_getElem?]
    simpa using hoj
   have:=List.all_eq_true.1 (List.all_eq_true.1 h2 _ hm) e (by simpa using he)
   simp only [hb,Bool.not_true,Bool.false_or,Bool.and_eq_true] at this
   exact ⟨blt_lt this.1,beq_no this.2⟩
def lastOk (ops:Array Oper):Bool:=Region.noSelect ops&&lastChkT ops (ops.size - 1)&&Region.lexFrom .any ops (ops.size - 1) 0 ((Array.replicate ops.size false).setIfInBounds (ops.size - 1) true)
def drawLAt (g:Cfg):Option QCfg:=match g.k with
 | .code (.region _ ops true)::k=>match lastOk ops with
   | true=>match ops[ops.size - 1]? with
     | some oz=>some ⟨ops,ops.toList.take (ops.size - 1),.ops ops [oz] :: .np::k,g.s⟩
     | none=>none
   | false=>none
 | _=>none
def isDrawL (g:Cfg):Bool:=match drawLAt g with
 | some _=>true
 | none=>false
def drawLQ (g:Cfg):QCfg:=match drawLAt g with
 | some q=>q
 | none=>⟨#[],[],[],g.s⟩
section
variable {P:Program} {I:Aux} {B:Nat→Prop} {w0:World} {γ0:Gm} {nt:Nat} {Q:Exit→Act→World→Prop} {g:Cfg}
theorem good_drawL' (hm:P.follows .mixedOrders=true) (q:QCfg) (h:drawLAt g=some q) (hg:GoodQ P B w0 γ0 nt Q q):Good P B w0 γ0 nt Q g:=by
 obtain ⟨k,s⟩:=g
 unfold drawLAt at h
 simp only at h
 split at h <;> first | (cases h;done) | skip
 rename_i id ops k'
 split at h <;> first | (cases h;done) | skip
 rename_i hB
 split at h <;> first | (cases h;done) | skip
 rename_i oz hoz
 injection h with h
 subst h
 unfold lastOk at hB
 simp only [Bool.and_eq_true] at hB
 obtain ⟨⟨h1,h2⟩,h3⟩:=hB
 have hz:=lastChkT_ok h2
 refine ⟨fun γ a w hle hf hr hb=>?_⟩
 simp only [after,Exit.then]
 refine Code.wp_mono NoPan.imp (wp_region_any hm ?_)
 obtain ⟨n,hn⟩:∃ n,ops.size=n+1:=⟨ops.size - 1,by have:=hz.lt;omega⟩
 have hn1:ops.size - 1=n:=by omega
 rw [hn1] at hz hoz h3
 rw [hn]
 refine wpAny_lastT hz n _ a _ (by simp [hn]) (by simp) (fun j oj _ hj=>?_) ?_
 · exfalso
   simp only [Array.getD_eq_getD_getElem?,Array.getElem?_replicate] at hj
   split at hj <;> simp at hj
 have hh:=hg.out γ a w hle hf hr hb
 simp only at hh
 have hd:Below w.heap.size w { w with drawn:=w.drawn+1 }:=⟨rfl,rfl,rfl,Nat.le_refl _,fun _ _=>rfl⟩
 refine wpAny_of_quiet (C:=fun w'=>Below w.heap.size w w') (Q:=fun a'=>∀ w',Below w.heap.size w w'→after P Q (.ops ops [oz] :: .np::k') .normal a' w') (fun a' w' hC h=>?_) n _ a _ hd ?_
 · have h4:=h w' hC
   simp only [after,Exit.then] at h4
   show wpOp P ops (NoPan (after P Q k')) n (fun a w=>NoPan (after P Q k') .normal a w) a' w'
   unfold wpOp
   simp only [hoz]
   exact h4
 · have hl:(ops.toList.take n).length=n:=by simp [hn]
   have h5:=wpAnyQ_lexP (P:=P) (C:=fun w'=>Below w.heap.size w w') (Q:=fun a'=>∀ w',Below w.heap.size w w'→after P Q (.ops ops [oz] :: .np::k') .normal a' w') (md := .any) h1 (ops.toList.take n) 0 ((Array.replicate ops.size false).setIfInBounds n true) a
    (fun j hj=>by
     rw [hl] at hj
     rw [List.getElem?_take]
     simp [hj]) (by rw [hl];exact h3) (by rw [hn1] at hh;exact hh)
   rw [hl,hn] at h5
   exact h5
theorem good_drawL (hm:P.follows .mixedOrders=true) (h:isDrawL g=true) (hg:GoodQ P B w0 γ0 nt Q (drawLQ g)):Good P B w0 γ0 nt Q g:=by
 unfold isDrawL at h
 unfold drawLQ at hg
 split at h
 · rename_i q hq
   rw [hq] at hg
   exact good_drawL' hm q hq hg
 · cases h
end
end Go.Sy
end
end
section
noncomputable section
namespace Go.Sy
open Go Go.RowKit
section
variable {P:Program} {I:Aux} {B:Nat→Prop} {w0:World} {γ0:Gm} {nt:Nat} {Q:Exit→Act→World→Prop} {g:Cfg}
theorem good_giveRN (t b e esz n:Nat) (xs:List Value) (h:g.s.T.get t=some (.slg b 0 n esz)) (hb1:g.s.h.get b=some (.row e xs)) (hlen:xs.length=n*esz)
  (hg:∀ k cap w1 B1,Keep B w0 w1→(∀ j,B j→B1 j)→(∀ j,B1 j→j<w1.heap.size)→¬ B k→SlAt B1 w1 (some ⟨k,0,none⟩) n esz xs→
   Good P B1 w1 γ0 nt Q ⟨g.k,⟨g.s.T.put t (some (.v (.slice (some ⟨k,0,none⟩) n cap))),g.s.h.put b none,g.s.c,g.s.ds⟩⟩):Good P B w0 γ0 nt Q g:=by
 refine ⟨fun γ a w hle hf hr hk=>?_⟩
 obtain ⟨p,hp,hbr⟩:=hr.live b _ hb1
 obtain ⟨h0,c,h1,h2,h3⟩:=hbr
 obtain ⟨v,hv1,hv2⟩:=hf.tmps _ _ h
 obtain ⟨n1,N,cap,rfl,hγ⟩:∃ n1 N cap,v = .slice (some ⟨n1,0,none⟩) n cap∧γ b=some (n1,N):=by
  cases hv2 with
  | slg h hl hm ho=>obtain ⟨q1,q2⟩:=ho (.inl rfl);subst q1;exact ⟨_,_,_,rfl,h⟩
 rw [hγ] at hp
 injection hp with hp
 subst hp
 simp only at h0 h1 h2
 have hlt:n1<w.heap.size:=(Array.getElem?_eq_some_iff.1 h1).1
 refine (hg n1 cap w (fun j=>B j∨j=n1) hk (fun j => .inl) (fun j hj=>hj.elim (fun h=>hr.base j h) (fun e=>by subst e;exact hlt)) h0 ⟨hlen,.inr ⟨rfl,.inr rfl,fun j v hv=>?_⟩⟩).out γ a w hle ⟨hf.size,fun t' av ht=>?_,hf.defs⟩ ⟨fun b2 blk2 hb2=>?_,fun b2 b3 blk2 blk3 p2 p3 h5 h6 g1 g2 e=>?_,hr.fresh,hr.glob,fun j hj=>hj.elim (fun h=>hr.base j h) (fun e=>by subst e;exact hlt)⟩ (Keep.refl _ _)
 · rw [← h3] at hv
   have hj:=(List.getElem?_eq_some_iff.1 hv).1
   rw [List.length_take] at hj
   rw [List.getElem?_take,if_pos (by omega)] at hv
   simp only [gB,oB,Nat.zero_add]
   simp [World.cell?,h1]
   simpa using hv
 · simp only at ht
   rw [Tr.get_put] at ht
   split at ht
   · rename_i e
     subst e
     injection ht with ht
     subst ht
     exact ⟨_,hv1,.v _⟩
   · exact hf.tmps t' av ht
 · simp only at hb2
   rw [Tr.get_put] at hb2
   split at hb2
   · cases hb2
   rename_i hne
   obtain ⟨q,hq,hbr2⟩:=hr.live b2 blk2 hb2
   have hne2:q.1≠n1:=fun e=>hne (hr.inj _ _ _ _ _ _ hb2 hb1 hq hγ e)
   have key:¬ B q.1→¬ (B q.1∨q.1=n1):=fun h1 h2=>h2.elim h1 hne2
   refine ⟨q,hq,?_⟩
   cases blk2 with
   | cells ty own cl ex lim cs=>exact ⟨fun e=>key (hbr2.1 e),hbr2.2⟩
   | map es clock=>exact ⟨key hbr2.1,hbr2.2⟩
   | row e xs=>exact ⟨key hbr2.1,hbr2.2⟩
 · simp only at h5 h6
   rw [Tr.get_put] at h5 h6
   split at h5
   · cases h5
   split at h6
   · cases h6
   exact hr.inj _ _ _ _ _ _ h5 h6 g1 g2 e
theorem good_giveR (t b e esz n:Nat) (xs:List Value) (h:g.s.T.get t=some (.slg b 0 n esz)) (hb1:g.s.h.get b=some (.row e xs)) (hlen:xs.length=n*esz)
  (hg:∀ k cap w1 B1,Keep B w0 w1→(∀ j,B j→B1 j)→(∀ j,B1 j→j<w1.heap.size)→SlAt B1 w1 (some ⟨k,0,none⟩) n esz xs→
   Good P B1 w1 γ0 nt Q ⟨g.k,⟨g.s.T.put t (some (.v (.slice (some ⟨k,0,none⟩) n cap))),g.s.h.put b none,g.s.c,g.s.ds⟩⟩):Good P B w0 γ0 nt Q g:=
 good_giveRN t b e esz n xs h hb1 hlen (fun k cap w1 B1 h1 h2 h3 _ h4=>hg k cap w1 B1 h1 h2 h3 h4)
end
end Go.Sy
end
end
section
noncomputable section
namespace Go.Sy
open Go Go.RowKit
section
variable {P:Program} {I:Aux} {B:Nat→Prop} {w0:World} {γ0:Gm} {nt:Nat} {Q:Exit→Act→World→Prop} {g:Cfg}
theorem good_giveC (t b ty esz n:Nat) (vals:List Value) (h:g.s.T.get t=some (.slg b 0 n esz)) (hb:giveB (g.s.h.get b)=some (ty,vals)) (hln:vals.length=n*esz)
  (hg:∀ k cap w1 B1,Keep B w0 w1→(∀ j,B j→B1 j)→(∀ j,B1 j→j<w1.heap.size)→SlAt B1 w1 (some ⟨k,0,none⟩) n esz vals→
   Good P B1 w1 γ0 nt Q ⟨g.k,⟨g.s.T.put t (some (.v (.slice (some ⟨k,0,none⟩) n cap))),g.s.h.put b none,g.s.c,g.s.ds⟩⟩):Good P B w0 γ0 nt Q g:=by
 unfold giveB at hb
 split at hb <;> first | (cases hb;done) | skip
 rename_i ty1 lim cs hb1
 split at hb <;> first | (cases hb;done) | skip
 rename_i r hget
 injection hb with hb
 injection hb with e1 e2
 subst e1 e2
 obtain ⟨hlen,hcell⟩:=getsV_get hget
 refine ⟨fun γ a w hle hf hr hk=>?_⟩
 obtain ⟨p,hp,hbr⟩:=hr.live b _ hb1
 obtain ⟨h0,c,ty',fz,h1,h2,h3,h4⟩:=hbr
 obtain ⟨v,hv1,hv2⟩:=hf.tmps _ _ h
 obtain ⟨n1,N,cap,rfl,hγ⟩:∃ n1 N cap,v = .slice (some ⟨n1,0,none⟩) n cap∧γ b=some (n1,N):=by
  cases hv2 with
  | slg h hl hm ho=>obtain ⟨q1,q2⟩:=ho (.inl rfl);subst q1;exact ⟨_,_,_,rfl,h⟩
 rw [hγ] at hp
 injection hp with hp
 subst hp
 obtain ⟨hfz,hty⟩:=h3.1 rfl
 have hsz:=(h3.2 rfl).1
 subst hfz hty
 have hnB:=h0 rfl
 have hlt:n1<w.heap.size:=(Array.getElem?_eq_some_iff.1 h1).1
 have hc:c=r.toArray:=by
  apply Array.ext'
  apply List.ext_getElem?
  intro i
  rcases Nat.lt_or_ge i r.length with hi | hi
  · have e1:r[i]?=some r[i]:=List.getElem?_eq_getElem hi
    obtain ⟨a1,e2,e3⟩:=hcell i r[i] e1
    rw [Nat.zero_add] at e2
    obtain ⟨x,hx1,hx2⟩:=h4 i _ (by omega) e2
    have e4:=close_eq e3 hx2
    subst e4
    rw [e1]
    simpa using hx1
  · have e1:c.toList.length=c.size:=Array.length_toList
    rw [List.getElem?_eq_none hi,List.getElem?_eq_none (by omega)]
 subst hc
 refine (hg n1 cap w (fun j=>B j∨j=n1) hk (fun j => .inl) (fun j hj=>hj.elim (fun h=>hr.base j h) (fun e=>by subst e;exact hlt)) ⟨hln,.inr ⟨rfl,.inr rfl,fun j v hv=>?_⟩⟩).out γ a w hle ⟨hf.size,fun t' av ht=>?_,hf.defs⟩ ⟨fun b2 blk2 hb2=>?_,fun b2 b3 blk2 blk3 p2 p3 h5 h6 g1 g2 e=>?_,hr.fresh,hr.glob,fun j hj=>hj.elim (fun h=>hr.base j h) (fun e=>by subst e;exact hlt)⟩ (Keep.refl _ _)
 · simp only [gB,oB,Nat.zero_add]
   simp [World.cell?,h1]
   simpa using hv
 · simp only at ht
   rw [Tr.get_put] at ht
   split at ht
   · rename_i e
     subst e
     injection ht with ht
     subst ht
     exact ⟨_,hv1,.v _⟩
   · exact hf.tmps t' av ht
 · simp only at hb2
   rw [Tr.get_put] at hb2
   split at hb2
   · cases hb2
   rename_i hne
   obtain ⟨q,hq,hbr2⟩:=hr.live b2 blk2 hb2
   have hne2:q.1≠n1:=fun e=>hne (hr.inj _ _ _ _ _ _ hb2 hb1 hq hγ e)
   have key:¬ B q.1→¬ (B q.1∨q.1=n1):=fun h1 h2=>h2.elim h1 hne2
   refine ⟨q,hq,?_⟩
   cases blk2 with
   | cells ty own cl ex lim cs=>exact ⟨fun e=>key (hbr2.1 e),hbr2.2⟩
   | map es clock=>exact ⟨key hbr2.1,hbr2.2⟩
   | row e xs=>exact ⟨key hbr2.1,hbr2.2⟩
 · simp only at h5 h6
   rw [Tr.get_put] at h5 h6
   split at h5
   · cases h5
   split at h6
   · cases h6
   exact hr.inj _ _ _ _ _ _ h5 h6 g1 g2 e
end
end Go.Sy
end
end
section
noncomputable section
namespace Go.Sy
open Go Go.RowKit
def mapB:Option Blk→Bool
 | some (.map [] 0)=>true
 | _=>false
section
variable {P:Program} {I:Aux} {B:Nat→Prop} {w0:World} {γ0:Gm} {nt:Nat} {Q:Exit→Act→World→Prop} {g:Cfg}
theorem good_giveMp (t b:Nat) (h:g.s.T.get t=some (.map b)) (hb:mapB (g.s.h.get b)=true)
  (hg:∀ k w1 B1,Keep B w0 w1→(∀ j,B j→B1 j)→B1 k→¬ B k→(∀ j,B1 j→j<w1.heap.size)→w1.heap[k]?=some (.map #[] 0)→
   Good P B1 w1 γ0 nt Q ⟨g.k,⟨g.s.T.put t (some (.v (.map (some k)))),g.s.h.put b none,g.s.c,g.s.ds⟩⟩):Good P B w0 γ0 nt Q g:=by
 have hb1:g.s.h.get b=some (.map [] 0):=by
  unfold mapB at hb
  split at hb <;> first | (cases hb;done) | skip
  assumption
 refine ⟨fun γ a w hle hf hr hk=>?_⟩
 obtain ⟨p,hp,hbr⟩:=hr.live b _ hb1
 obtain ⟨h0,l,h1,h2⟩:=hbr
 obtain ⟨v,hv1,hv2⟩:=hf.tmps _ _ h
 obtain ⟨n,N,rfl,hγ⟩:∃ n N,v = .map (some n)∧γ b=some (n,N):=by
  cases hv2 with
  | map h=>exact ⟨_,_,rfl,h⟩
 rw [hγ] at hp
 injection hp with hp
 subst hp
 have hl:l=#[]:=by
  have:=h2.1
  apply Array.ext'
  exact List.eq_nil_of_length_eq_zero (by simpa using this.symm)
 subst hl
 have hnB:=h0
 have hlt:n<w.heap.size:=(Array.getElem?_eq_some_iff.1 h1).1
 refine (hg n w (fun j=>B j∨j=n) hk (fun j => .inl) (.inr rfl) hnB (fun j hj=>hj.elim (fun h=>hr.base j h) (fun e=>by subst e;exact hlt)) h1).out γ a w hle ⟨hf.size,fun t' av ht=>?_,hf.defs⟩ ⟨fun b2 blk2 hb2=>?_,fun b2 b3 blk2 blk3 p2 p3 h5 h6 g1 g2 e=>?_,hr.fresh,hr.glob,fun j hj=>hj.elim (fun h=>hr.base j h) (fun e=>by subst e;exact hlt)⟩ (Keep.refl _ _)
 · simp only at ht
   rw [Tr.get_put] at ht
   split at ht
   · rename_i e
     subst e
     injection ht with ht
     subst ht
     exact ⟨_,hv1,.v _⟩
   · exact hf.tmps t' av ht
 · simp only at hb2
   rw [Tr.get_put] at hb2
   split at hb2
   · cases hb2
   rename_i hne
   obtain ⟨q,hq,hbr2⟩:=hr.live b2 blk2 hb2
   have hne2:q.1≠n:=fun e=>hne (hr.inj _ _ _ _ _ _ hb2 hb1 hq hγ e)
   have key:¬ B q.1→¬ (B q.1∨q.1=n):=fun h1 h2=>h2.elim h1 hne2
   refine ⟨q,hq,?_⟩
   cases blk2 with
   | cells ty own cl ex lim cs=>exact ⟨fun e=>key (hbr2.1 e),hbr2.2⟩
   | map es clock=>exact ⟨key hbr2.1,hbr2.2⟩
   | row e xs=>exact ⟨key hbr2.1,hbr2.2⟩
 · simp only at h5 h6
   rw [Tr.get_put] at h5 h6
   split at h5
   · cases h5
   split at h6
   · cases h6
   exact hr.inj _ _ _ _ _ _ h5 h6 g1 g2 e
end
end Go.Sy
end
end
