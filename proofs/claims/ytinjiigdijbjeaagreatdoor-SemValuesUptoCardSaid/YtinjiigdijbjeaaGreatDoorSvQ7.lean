/- Texts of this proof, one behind the other. Conditions: those in each theorem. -/
import Derived.Test.YtinjiigdijbjeaaGreatDoorSvQ6
import Derived.Scope
import Derived.Test.YtinjiigdijbjeaaGreatDoorSvQ1
set_option linter.unusedVariables false
set_option linter.unusedSimpArgs false
section
noncomputable section
namespace Go.Sy
open Go Go.RowKit
def aRes1 (P:Program) (T:Tr AV) (h:Hp):List ResultVar→Option (List AV)
 | []=>some []
 | .tmp t::l=>match T.get t with
   | none=>none
   | some a=>match aRes1 P T h l with
     | none=>none
     | some r=>some (a::r)
 | .cell t ty::l=>match T.get t with
   | some (.ptr b off)=>match aLoad P ty (.ptr b off) h with
     | none=>none
     | some a=>match aRes1 P T h l with
       | none=>none
       | some r=>some (a::r)
   | _=>none
def aResults (P:Program) (fn:Func) (T:Tr AV) (h:Hp):Option AV:=match aRes1 P T h fn.results.toList with
 | none=>none
 | some [a]=>some a
 | some l=>some (.tup l)
def resF (tmps:Array Value):ResultVar→Sem Value
 | .tmp t=>pure (tmps.getD t undef)
 | .cell a t=>do loadVar t (← asAddr (tmps.getD a undef))
theorem aRes1_ok {P:Program} {B:Nat→Prop} {G:Nat} {γ:Gm} {T:Tr AV} {h:Hp} {c:Nat} {w:World} {tmps:Array Value} (hr:HR B G γ h c w) (ht:TR γ T tmps):∀ {l:List ResultVar} {r:List AV},aRes1 P T h l=some r→
  ∃ vs,LR γ r vs∧(l.mapM (resF tmps)).run P w = .ok vs w
 | [],r,hh=>by simp [aRes1] at hh;subst hh;exact ⟨[],LR.nil,rfl⟩
 | .tmp t::l,r,hh=>by
   simp only [aRes1] at hh
   split at hh
   · cases hh
   rename_i a ha
   split at hh
   · cases hh
   rename_i r' hr'
   injection hh with hh
   subst hh
   obtain ⟨v,h1,h2⟩:=ht t a ha
   obtain ⟨vs,h3,h4⟩:=aRes1_ok hr ht hr'
   refine ⟨v::vs,LR.cons h2 h3,?_⟩
   have h0:(resF tmps (.tmp t)).run P w = .ok v w:=by simp only [resF,getD_of h1,Sem.run_pure]
   rw [List.mapM_cons]
   simp only [Sem.run_bind,Sem.run_pure,Result.andThen_ok,h0,h4]
 | .cell t ty::l,r,hh=>by
   simp only [aRes1] at hh
   split at hh <;> first | (cases hh;done) | skip
   rename_i b off ha
   split at hh
   · cases hh
   rename_i av hav
   split at hh
   · cases hh
   rename_i r' hr'
   injection hh with hh
   subst hh
   obtain ⟨v,h1,h2⟩:=ht t _ ha
   obtain ⟨vs,h3,h4⟩:=aRes1_ok hr ht hr'
   obtain ⟨x,h5,h6⟩:=aLoad_ok hr h2 hav
   refine ⟨x::vs,LR.cons h5 h3,?_⟩
   have h0:(resF tmps (.cell t ty)).run P w = .ok x w:=by
    cases h2 with
    | ptr hb=>
      simp only [Instr.loadAt,Instr.sureAddr,Sem.run_bind,Sem.run_pure,Result.andThen_ok] at h6
      simp only [resF,Sem.run_bind,Sem.run_pure,Result.andThen_ok,getD_of h1,asAddr,h6]
   rw [List.mapM_cons]
   simp only [Sem.run_bind,Sem.run_pure,Result.andThen_ok,h0,h4]
theorem aResults_ok {P:Program} {B:Nat→Prop} {G:Nat} {γ:Gm} {fn:Func} {T:Tr AV} {h:Hp} {c:Nat} {w:World} {tmps:Array Value} {av:AV} (hr:HR B G γ h c w) (ht:TR γ T tmps) (hh:aResults P fn T h=some av):
  ∃ v,VR γ av v∧(results fn tmps).run P w = .ok v w:=by
 unfold aResults at hh
 have key:∀ {r:List AV},aRes1 P T h fn.results.toList=some r→∃ vs:List Value,LR γ r vs∧(results fn tmps).run P w = .ok (if h:vs.toArray.size=1 then vs.toArray[0] else .tuple vs.toArray) w:=by
  intro r hr'
  obtain ⟨vs,h1,h2⟩:=aRes1_ok hr ht hr'
  refine ⟨vs,h1,?_⟩
  have e:results fn tmps=(do let vs ← fn.results.mapM (resF tmps);pure (if h:vs.size=1 then vs[0] else .tuple vs)):=by
   unfold results
   congr 2
  rw [e,Array.mapM_eq_mapM_toList,Sem.run_bind,Sem.run_map,h2]
  rfl
 split at hh
 · cases hh
 · rename_i a ha
   injection hh with hh
   subst hh
   obtain ⟨vs,h1,h2⟩:=key ha
   have hl:=h1.1
   match vs,hl with
   | [x],_=>exact ⟨x,h1.2 0 _ x rfl rfl,by rw [h2];rfl⟩
 · rename_i l hnl ha
   injection hh with hh
   subst hh
   obtain ⟨vs,h1,h2⟩:=key ha
   have hl:=h1.1
   refine ⟨.tuple vs.toArray,VR.tupL h1,?_⟩
   rw [h2,dif_neg]
   intro he
   simp at he
   match l,hl.trans he with
   | [x],_=>exact hnl x rfl
abbrev IH:=Code→Nat→St→R2
inductive AMode where
 | ret
 | pan (v:AV)
 | recd (v:AV)
def MR (γ:Gm):AMode→FrameMode→Prop
 | .ret,u=>u = .returning
 | .pan a,u=>∃ v,VR γ a v∧u = .panicking [{ v,recovered:=false }]
 | .recd a,u=>∃ v,VR γ a v∧u = .panicking [{ v,recovered:=true }]
def aSettle:AMode→AMode
 | .recd _ => .ret
 | m=>m
def recoverOp (ops:Array Oper):Option (Option Tmp):=match ops.toList with
 | [o]=>match o.guard,o.op with
   | none,.call k=>match k.callee,k.args.toList with
     | .builtin .recover,[]=>some o.dst
     | _,_=>none
   | _,_=>none
 | _=>none
def aRecover:AMode→Option (AV×AMode)
 | .pan v=>some (v,.recd v)
 | .ret=>some (.v .nilIface,.ret)
 | .recd _=>none
def aDefEnd (P:Program) (fn:Func) (m:AMode):R2→Option (AMode×Hp×Nat)
 | .ok .normal ⟨T,h,c,[]⟩=>match aResults P fn T h with
   | some _=>some (m,h,c)
   | none=>none
 | .ok .ret ⟨T,h,c,[]⟩=>match aResults P fn T h with
   | some _=>some (m,h,c)
   | none=>none
 | _=>none
def headRecover (code:Code):Option (Option Tmp×Code):=match code with
 | .seq (.region _ ops false) y=>match recoverOp ops with
   | some dst=>some (dst,y)
   | none=>none
 | _=>none
def evDefCall (P:Program) (ih:IH) (d:ADef) (m:AMode) (h:Hp) (c:Nat):Option (AMode×Hp×Nat):=match P.funcs[d.f]? with
 | none=>none
 | some fn=>match fn.body with
   | none=>none
   | some code=>match Nat.ble (d.args++d.cap).length fn.ntmps with
     | false=>none
     | true=>match headRecover code with
       | some (dst,y)=>match aRecover m with
         | none=>none
         | some (v,m')=>match tput fn.ntmps (putL .leaf 0 (d.args++d.cap)) dst v with
           | none=>none
           | some T=>aDefEnd P fn m' (ih y fn.ntmps ⟨T,h,c,[]⟩)
       | none=>aDefEnd P fn m (ih code fn.ntmps ⟨putL .leaf 0 (d.args++d.cap),h,c,[]⟩)
def aLeaves (P:Program) (ih:IH) (fn:Func) (T:Tr AV):List ADef→AMode→Hp→Nat→R1
 | [],.ret,h,c=>match aResults P fn T h with
   | some av => .val av h c
   | none => .fail
 | [],.pan v,h,c => .pan v h c
 | [],.recd _,_,_ => .fail
 | d::ds,m,h,c=>match evDefCall P ih d m h c with
   | some (m',h',c')=>aLeaves P ih fn T ds (aSettle m') h' c'
   | none => .fail
def evBody (P:Program) (ih:IH):CallF:=fun f args h c=>match P.funcs[f]? with
 | none => .fail
 | some fn=>match fn.body with
   | none => .fail
   | some code=>match Nat.ble args.length fn.ntmps with
     | false => .fail
     | true=>match ih code fn.ntmps ⟨putL .leaf 0 args,h,c,[]⟩ with
       | .ok .normal s=>aLeaves P ih fn s.T s.ds .ret s.h s.c
       | .ok .ret s=>aLeaves P ih fn s.T s.ds .ret s.h s.c
       | .ok (.pan av) s=>aLeaves P ih fn s.T s.ds (.pan av) s.h s.c
       | _ => .fail
def evCall (P:Program) (I:Aux) (ih:IH):CallF:=fun f args h c=>match I.K f args with
 | some av => .val av h c
 | none=>evBody P ih f args h c
def evStepS (P:Program) (I:Aux) (ih:IH):IH:=fun code nt s=>match code with
 | .skip => .ok .normal s
 | .region _ ops draw=>match draw with
   | false=>evalSeq P I (evCall P I ih) nt ops ops.toList s.T s.h s.c s.ds
   | true=>evalDraw P I (evCall P I ih) nt ops s
 | .seq x y=>match ih x nt s with
   | .ok .normal s'=>ih y nt s'
   | r=>r
 | .cond c x y=>match aev P s.T c with
   | some (.v (.bool true))=>ih x nt s
   | some (.v (.bool false))=>ih y nt s
   | _ => .fail
 | .block id x=>match ih x nt s with
   | .ok (.exit j) s'=>match Nat.beq j id with
     | true => .ok .normal s'
     | false => .ok (.exit j) s'
   | r=>r
 | .loop x=>match ih x nt s with
   | .ok .normal s'=>ih (.loop x) nt s'
   | r=>r
 | .exit id => .ok (.exit id) s
 | .label _ => .ok .normal s
 | .scope x=>ih x nt s
 | .ret => .ok .ret s
 | _ => .fail
def evStepD (code:Code):Program→Aux→IH→Nat→St→R2:=by
 induction code
 case skip=>exact fun P I ih nt s => .ok .normal s
 case region _ ops draw=>
  induction draw
  · exact fun P I ih nt s=>evalSeq P I (evCall P I ih) nt ops ops.toList s.T s.h s.c s.ds
  · exact fun P I ih nt s=>evalDraw P I (evCall P I ih) nt ops s
 case seq x y _ _=>exact fun P I ih nt s=>match ih x nt s with
  | .ok .normal s'=>ih y nt s'
  | r=>r
 case cond c x y _ _=>exact fun P I ih nt s=>match aev P s.T c with
  | some (.v (.bool true))=>ih x nt s
  | some (.v (.bool false))=>ih y nt s
  | _ => .fail
 case block id x _=>exact fun P I ih nt s=>match ih x nt s with
  | .ok (.exit j) s'=>match Nat.beq j id with
    | true => .ok .normal s'
    | false => .ok (.exit j) s'
  | r=>r
 case loop x _=>exact fun P I ih nt s=>match ih x nt s with
  | .ok .normal s'=>ih (.loop x) nt s'
  | r=>r
 case exit id=>exact fun P I ih nt s => .ok (.exit id) s
 case label _=>exact fun P I ih nt s => .ok .normal s
 case scope x _=>exact fun P I ih nt s=>ih x nt s
 case ret=>exact fun P I ih nt s => .ok .ret s
 all_goals exact fun _ _ _ _ _ => .fail
def evStep (P:Program) (I:Aux) (ih:IH):IH:=fun code nt s=>evStepD code P I ih nt s
theorem evStep_eq (P:Program) (I:Aux) (ih:IH):evStep P I ih=evStepS P I ih:=by
 funext code nt s
 cases code <;> first | rfl | (rename_i d;cases d <;> rfl)
noncomputable def ev (P:Program) (I:Aux) (n:Nat):IH:=Nat.rec (motive:=fun _=>IH) (fun _ _ _ => .fail) (fun _ ih=>evStep P I ih) n
def LoopBody (P:Program) (c:Code) (Q:Exit→Act→World→Prop) (a:Act) (w:World):Prop:=
 ∀ (b:Frame) (k:List Item) (cs:List Frame),∃ e a' w',Q e a' w'∧Arrives P (lone (b.at a (.code c :: .inLoop c::k)) cs w) b k cs e a' w'
theorem loop_of {P:Program} {c:Code} {Q:Exit→Act→World→Prop} {a:Act} {w:World} (h:LoopBody P c Q a w):(Code.loop c).wp P Q a w:=by
 intro b k cs
 obtain ⟨e,a',w',hq,harr⟩:=h b k cs
 exact ⟨e,a',w',hq,.of_steps (.one step_loop) harr⟩
theorem loopBody_of {P:Program} {c:Code} {Q:Exit→Act→World→Prop} {a:Act} {w:World} (h:c.wp P (Exit.then (LoopBody P c Q) Q) a w):LoopBody P c Q a w:=by
 intro b k cs
 obtain ⟨e,a₁,w₁,hq,harr⟩:=h b (.inLoop c::k) cs
 cases e with
 | normal=>
   obtain ⟨e₂,a₂,w₂,hq₂,harr₂⟩:=hq b k cs
   exact ⟨e₂,a₂,w₂,hq₂,.of_steps (Steps.trans harr (.one step_inLoop)) harr₂⟩
 | exit id=>exact ⟨_,a₁,w₁,hq,.pass (x := .inLoop c) rfl (fun _ _ => .inl (by simp)) harr⟩
 | goto l=>exact ⟨_,a₁,w₁,hq,.pass (x := .inLoop c) rfl (fun _ _ => .inl (by simp)) harr⟩
 | ret=>exact ⟨_,a₁,w₁,hq,.pass (x := .inLoop c) rfl (fun _ _ => .inl (by simp)) harr⟩
 | panic ch=>exact ⟨_,a₁,w₁,hq,.pass (x := .inLoop c) rfl (fun _ _ => .inl (by simp)) harr⟩
 | outgrown=>exact ⟨_,a₁,w₁,hq,.pass (x := .inLoop c) rfl (fun _ _ => .inl (by simp)) harr⟩
section
variable {P:Program} {B:Nat→Prop} {w0:World} {I:Aux}
def IHok (P:Program) (B:Nat→Prop) (w0:World) (ih:IH):Prop:=
 (∀ (code:Code) (nt:Nat) (s:St) (γ:Gm) (a:Act) (w:World) (Q:Exit→Act→World→Prop),FR γ nt s.T s.ds a→HR B P.globals.size γ s.h s.c w→Keep B w0 w→KOk2 B P.globals.size γ w0 nt Q (ih code nt s)→code.wp P Q a w)∧
 (∀ (code:Code) (nt:Nat) (s:St) (γ:Gm) (a:Act) (w:World) (Q:Exit→Act→World→Prop),FR γ nt s.T s.ds a→HR B P.globals.size γ s.h s.c w→Keep B w0 w→KOk2 B P.globals.size γ w0 nt Q (ih (.loop code) nt s)→LoopBody P code Q a w)
theorem leaves_mono {fn:Func} {tmps:Array Value} {R R':Ending→World→Prop} (hR:∀ e w,R e w→R' e w):∀ {ds:List Deferred} {u:FrameMode} {w:World},Leaves P fn tmps R ds u w→Leaves P fn tmps R' ds u w
 | [],.returning,w,h=>let ⟨v,h1,h2⟩:=h;⟨v,h1,hR _ _ h2⟩
 | [],.panicking ch,w,h=>hR _ _ h
 | [],.run,w,h=>h.elim
 | d::ds,u,w,h=>by
   obtain ⟨hu,fv,cap,f,args,h1,h2,h3⟩:=h
   refine ⟨hu,fv,cap,f,args,h1,h2,h3.mono (fun e u' w' hh=>?_)⟩
   cases e with
   | returned v=>exact leaves_mono hR hh
   | panicked ch=>exact leaves_mono hR hh
   | outgrown=>exact hR _ _ hh
theorem KOk2.le {G:Nat} {γ γ':Gm} {nt:Nat} {Q:Exit→Act→World→Prop} {r:R2} (hle:Gm.le γ γ') (h:KOk2 B G γ w0 nt Q r):KOk2 B G γ' w0 nt Q r:=by
 cases r with
 | fail=>exact h
 | ok e s=>exact fun γ'' e' a' w'' k1=>h γ'' e' a' w'' (hle.trans k1)
theorem putL_TR {γ:Gm} {aS:List AV} {vs:Array Value} (h:LR γ aS vs.toList) (n:Nat):TR γ (putL .leaf 0 aS) (vs++Array.replicate n undef):=by
 intro t av ht
 rw [putL_get] at ht
 split at ht
 · rename_i hin
   obtain ⟨x,h1,h2⟩:=h.get ht
   have hl:=h.1
   simp at hl
   refine ⟨x,?_,h2⟩
   rw [Array.getElem?_append_left (by omega)]
   simpa using h1
 · cases ht
theorem MR.mono {γ γ':Gm} (hle:Gm.le γ γ') {m:AMode} {u:FrameMode} (h:MR γ m u):MR γ' m u:=by
 cases m with
 | ret=>exact h
 | pan a=>obtain ⟨v,h1,h2⟩:=h;exact ⟨v,h1.mono hle,h2⟩
 | recd a=>obtain ⟨v,h1,h2⟩:=h;exact ⟨v,h1.mono hle,h2⟩
theorem Ret.le {G:Nat} {γ0 γ:Gm} (hle:Gm.le γ0 γ) {r:R1} {e:Ending} {w:World} (h:Ret B G γ w0 r e w):Ret B G γ0 w0 r e w:=by
 cases r with
 | fail=>exact h
 | val av h' c'=>obtain ⟨γ',v,h1,h2,h3⟩:=h;exact ⟨γ',v,h1,hle.trans h2,h3⟩
 | pan av h' c'=>obtain ⟨γ',v,h1,h2,h3⟩:=h;exact ⟨γ',v,h1,hle.trans h2,h3⟩
theorem settle_ok {γ:Gm} {m:AMode} {u:FrameMode} (h:MR γ m u):MR γ (aSettle m) (settle u):=by
 cases m with
 | ret=>simp only [MR] at h;subst h;rfl
 | pan a=>obtain ⟨v,h1,rfl⟩:=h;exact ⟨v,h1,rfl⟩
 | recd a=>obtain ⟨v,h1,rfl⟩:=h;rfl
theorem enter_ok (hn:Fine P I) {f:FuncId} {fn:Func} {code:Code} (hf:P.funcs[f]?=some fn) (hb:fn.body=some code) (args:Array Value) (w:World):(callFunc f args).run P w = .ok (.enter f args) w:=by
 have h3:fn.name ≠ "runtime.NumGoroutine" := by simpa using hn.names f fn hf (by rw [hb];rfl)
 simp [callFunc,hf,hb,h3]
theorem DR_nil {γ':Gm} {l:List Deferred} (h:DR γ' [] l):l=[]:=by
 cases l with
 | nil=>rfl
 | cons d l=>exact h.elim
def DefPost (P:Program) (B:Nat→Prop) (γ:Gm) (w0:World) (m:AMode) (h:Hp) (c:Nat):Ending→FrameMode→World→Prop
 | .returned _,u,w=>∃ γ',Gm.le γ γ'∧MR γ' m u∧HR B P.globals.size γ' h c w∧Keep B w0 w
 | _,_,_=>False
theorem aDefEnd_ok {fn:Func} {m m':AMode} {r:R2} {h:Hp} {c:Nat} (hh:aDefEnd P fn m r=some (m',h,c)):m'=m∧∃ T e av,r = .ok e ⟨T,h,c,[]⟩∧(e = .normal∨e = .ret)∧aResults P fn T h=some av:=by
 unfold aDefEnd at hh
 split at hh <;> first | (cases hh;done) | skip
 · rename_i T h' c'
   split at hh <;> first | (cases hh;done) | skip
   rename_i av hav
   injection hh with hh
   injection hh with e1 hh
   injection hh with e2 e3
   subst e1 e2 e3
   exact ⟨rfl,T,_,av,rfl,.inl rfl,hav⟩
 · rename_i T h' c'
   split at hh <;> first | (cases hh;done) | skip
   rename_i av hav
   injection hh with hh
   injection hh with e1 hh
   injection hh with e2 e3
   subst e1 e2 e3
   exact ⟨rfl,T,_,av,rfl,.inr rfl,hav⟩
theorem headRecover_ok {code:Code} {dst:Option Tmp} {y:Code} (h:headRecover code=some (dst,y)):∃ id o k,code = .seq (.region id #[o] false) y∧o.dst=dst∧o.guard=none∧o.op = .call k∧k.callee = .builtin .recover∧k.args=#[]:=by
 unfold headRecover at h
 split at h <;> first | (cases h;done) | skip
 rename_i id ops y'
 split at h <;> first | (cases h;done) | skip
 rename_i dst' hr
 injection h with h
 injection h with e1 e2
 subst e1 e2
 unfold recoverOp at hr
 split at hr <;> first | (cases hr;done) | skip
 rename_i o hops
 split at hr <;> first | (cases hr;done) | skip
 rename_i k hg hop
 split at hr <;> first | (cases hr;done) | skip
 rename_i hce hca
 injection hr with hr
 have e1:ops=#[o]:=by apply Array.ext';simpa using hops
 have e2:k.args=#[]:=by apply Array.ext';simpa using hca
 subst e1
 exact ⟨id,o,k,rfl,hr,hg,hop,hce,e2⟩
theorem evDefCall_ok {ih:IH} (hih:IHok P B w0 ih) {d:ADef} {dd:Deferred} {m m':AMode} {u:FrameMode} {h h':Hp} {c c':Nat} {γ:Gm} {w:World} (hd:DefR γ d dd) (hm:MR γ m u) (hr:HR B P.globals.size γ h c w) (hb:Keep B w0 w)
  (hh:evDefCall P ih d m h c=some (m',h',c')):∃ fn code vs ws,P.funcs[d.f]?=some fn∧fn.body=some code∧dd={ target := .fn (.func d.f) ws,args:=vs }∧CallsD P d.f (vs++ws) u w (DefPost P B γ w0 m' h' c'):=by
 obtain ⟨vs,ws,hdd,hl1,hl2⟩:=hd
 unfold evDefCall at hh
 split at hh
 · cases hh
 rename_i fn hf
 split at hh
 · cases hh
 rename_i code hbd
 split at hh
 · cases hh
 rename_i hle
 have hle:(d.args++d.cap).length≤fn.ntmps:=Nat.le_of_ble_eq_true hle
 refine ⟨fn,code,vs,ws,hf,hbd,hdd,?_⟩
 have hl:LR γ (d.args++d.cap) (vs++ws).toList:=by simpa using hl1.append hl2
 have hlv:=hl.1
 have hfr:FR γ fn.ntmps (putL .leaf 0 (d.args++d.cap)) [] { tmps:=(vs++ws)++Array.replicate (fn.ntmps - (vs++ws).size) undef,defers:=[] }:=
  ⟨by simp at hlv hle ⊢;omega,putL_TR hl _,trivial⟩
 split at hh
 · rename_i dst y hhr
   split at hh
   · cases hh
   rename_i v m1 hrec
   split at hh
   · cases hh
   rename_i T hT
   obtain ⟨rfl,Te,e,av,hres,hee,hav⟩:=aDefEnd_ok hh
   obtain ⟨id,o,k,rfl,rfl,hg,hop,hce,hca⟩:=headRecover_ok hhr
   refine callsD_of_wpS hf hbd (fun c₀ cs hu=>wpS_seq (wpS_region ?_))
   have hex:(execOp ({ tmps:=(vs++ws)++Array.replicate (fn.ntmps - (vs++ws).size) undef,defers:=[] }:Act).eval o).run P w = .ok .recover w:=by
    unfold execOp
    rw [hop]
    simp only [resolve,hce,hca,Sem.run_bind,Sem.run_pure,Result.andThen_ok,invoke,builtin]
   have hwant:Region.wanted o (yielded #[o] ({ tmps:=(vs++ws)++Array.replicate (fn.ntmps - (vs++ws).size) undef,defers:=[] }:Act).tmps)=true:=by
    unfold Region.wanted
    rw [hg]
   obtain ⟨v',u',hv',hm',hrun⟩:∃ v' u',VR γ v v'∧MR γ m' u'∧∀ (K:Act→List Frame→World→Prop) (a:Act),K (a.put o.dst v') ({ c₀ with mode:=u' }::cs) w→(match recoverD (c₀::cs) with
     | some (x,cs')=>K (a.put o.dst x) cs' w
     | none=>K (a.put o.dst .nilIface) (c₀::cs) w):=by
    cases m with
    | ret=>
      simp only [aRecover,Option.some.injEq,Prod.mk.injEq] at hrec
      obtain ⟨rfl,rfl⟩:=hrec
      simp only [MR] at hm
      subst hm
      refine ⟨.nilIface,.returning,.v _,rfl,fun K a hK=>?_⟩
      have:recoverD (c₀::cs)=none:=by simp [recoverD,hu]
      rw [this]
      have e:({ c₀ with mode := .returning }:Frame)=c₀:=by rw [← hu]
      rw [e] at hK
      exact hK
    | pan a0=>
      simp only [aRecover,Option.some.injEq,Prod.mk.injEq] at hrec
      obtain ⟨rfl,rfl⟩:=hrec
      obtain ⟨x,hx,rfl⟩:=hm
      refine ⟨x,.panicking [{ v:=x,recovered:=true }],hx,⟨x,hx,rfl⟩,fun K a hK=>?_⟩
      have:recoverD (c₀::cs)=some (x,{ c₀ with mode := .panicking [{ v:=x,recovered:=true }] }::cs):=by simp [recoverD,hu]
      rw [this]
      exact hK
    | recd a0=>simp [aRecover] at hrec
   have hgoal:wpOpsS P #[o] (Exit.thenS (y.wpS P (bodyPostS P fn c₀ cs (DefPost P B γ w0 m' h' c'))) (bodyPostS P fn c₀ cs (DefPost P B γ w0 m' h' c'))) [0]
     { tmps:=(vs++ws)++Array.replicate (fn.ntmps - (vs++ws).size) undef,defers:=[] } (c₀::cs) w:=by
    simp only [wpOpsS]
    have ho:(#[o]:Array Oper)[0]?=some o:=rfl
    simp only [ho,hwant,if_true,hex]
    have hK:=hrun (fun a cs' w'=>Exit.thenS (y.wpS P (bodyPostS P fn c₀ cs (DefPost P B γ w0 m' h' c'))) (bodyPostS P fn c₀ cs (DefPost P B γ w0 m' h' c')) .normal a cs' w')
     { tmps:=(vs++ws)++Array.replicate (fn.ntmps - (vs++ws).size) undef,defers:=[] } (wpS_of_wp ?_)
    · revert hK
      cases recoverD (c₀::cs) with
      | none=>exact fun hq=>hq
      | some x=>exact fun hq=>hq
    · refine hih.1 y fn.ntmps ⟨T,h,c,[]⟩ γ _ w _ (hfr.put (Gm.le.refl _) hv' hT) hr hb ?_
      rw [hres]
      intro γ' e' a' w' h1 h2 h3 h4 h5
      obtain ⟨rv,hrv,hrr⟩:=aResults_ok h4 h3.tmps hav
      rcases hee with rfl | rfl
      · cases e' <;> first | exact h2.elim | skip
        exact ⟨DR_nil h3.defs,u',rfl,rv,hrr,γ',h1,hm'.mono h1,h4,h5⟩
      · cases e' <;> first | exact h2.elim | skip
        exact ⟨DR_nil h3.defs,u',rfl,rv,hrr,γ',h1,hm'.mono h1,h4,h5⟩
   exact hgoal
 · obtain ⟨rfl,Te,e,av,hres,hee,hav⟩:=aDefEnd_ok hh
   refine (callsD_of_wp (R:=fun e w'=>DefPost P B γ w0 m' h' c' e u w') hf hbd (hih.1 code fn.ntmps ⟨putL .leaf 0 (d.args++d.cap),h,c,[]⟩ γ _ w _ hfr hr hb ?_)).mono (fun e u' w' hR=>by
    obtain ⟨rfl,hR⟩:=hR
    exact hR)
   rw [hres]
   intro γ' e' a' w' h1 h2 h3 h4 h5
   obtain ⟨rv,hrv,hrr⟩:=aResults_ok h4 h3.tmps hav
   rcases hee with rfl | rfl
   · cases e' <;> first | exact h2.elim | skip
     exact ⟨DR_nil h3.defs,rv,hrr,γ',h1,hm.mono h1,h4,h5⟩
   · cases e' <;> first | exact h2.elim | skip
     exact ⟨DR_nil h3.defs,rv,hrr,γ',h1,hm.mono h1,h4,h5⟩
theorem aLeaves_ok (hn:Fine P I) {ih:IH} (hih:IHok P B w0 ih) {fn:Func} {T:Tr AV} {tmps:Array Value}:∀ {ds:List ADef} {dl:List Deferred} {m:AMode} {u:FrameMode} {h:Hp} {c:Nat} {γ:Gm} {w:World},DR γ ds dl→MR γ m u→TR γ T tmps→
  HR B P.globals.size γ h c w→Keep B w0 w→aLeaves P ih fn T ds m h c ≠ .fail→Leaves P fn tmps (Ret B P.globals.size γ w0 (aLeaves P ih fn T ds m h c)) dl u w
 | [],[],m,u,h,c,γ,w,hd,hm,ht,hr,hb,hne=>by
   cases m with
   | ret=>
     simp only [MR] at hm
     subst hm
     simp only [aLeaves] at hne ⊢
     split at hne
     · rename_i av hav
       obtain ⟨v,h1,h2⟩:=aResults_ok hr ht hav
       exact ⟨v,h2,γ,v,rfl,Gm.le.refl _,h1,hr,hb⟩
     · exact (hne rfl).elim
   | pan a=>
     obtain ⟨v,h1,rfl⟩:=hm
     exact ⟨γ,v,rfl,Gm.le.refl _,h1,hr,hb⟩
   | recd a=>exact (hne rfl).elim
 | d::ds,dd::dl,m,u,h,c,γ,w,hd,hm,ht,hr,hb,hne=>by
   simp only [aLeaves] at hne ⊢
   split at hne
   · rename_i m' h' c' hdc
     obtain ⟨fn',code,vs,ws,hf,hbd,hdd,hcall⟩:=evDefCall_ok hih hd.1 hm hr hb hdc
     subst hdd
     refine leaves_cons ?_ ?_ ((hcall).mono (fun e u' w' hR=>?_))
     · cases m with
       | ret=>simp only [MR] at hm;subst hm;simp
       | pan a=>obtain ⟨v,_,rfl⟩:=hm;simp
       | recd a=>obtain ⟨v,_,rfl⟩:=hm;simp
     · simp only [invoke]
       exact enter_ok hn hf hbd _ w
     · cases e with
       | returned v=>
         obtain ⟨γ',h1,h2,h3,h4⟩:=hR
         have:=aLeaves_ok hn hih (hd.2.mono h1) (settle_ok h2) (ht.mono h1) h3 h4 hne
         exact leaves_mono (fun e w hR=>hR.le h1) this
       | panicked ch=>exact hR.elim
       | outgrown=>exact hR.elim
   · exact (hne rfl).elim
 | [],_::_,_,_,_,_,_,_,hd,_,_,_,_,_=>hd.elim
 | _::_,[],_,_,_,_,_,_,hd,_,_,_,_,_=>hd.elim
theorem evBody_ok (hn:Fine P I) {ih:IH} (hih:IHok P B w0 ih):CallOk P B P.globals.size w0 (evBody P ih):=by
 intro f fn code args h c γ w vs hf hbd hr hb hl hne
 refine calls_of_wp_defers hf hbd ?_
 have hcall:evBody P ih f args h c=(match Nat.ble args.length fn.ntmps with
   | false => .fail
   | true=>match ih code fn.ntmps ⟨putL .leaf 0 args,h,c,[]⟩ with
     | .ok .normal s=>aLeaves P ih fn s.T s.ds .ret s.h s.c
     | .ok .ret s=>aLeaves P ih fn s.T s.ds .ret s.h s.c
     | .ok (.pan av) s=>aLeaves P ih fn s.T s.ds (.pan av) s.h s.c
     | _ => .fail):=by
  unfold evBody
  simp only [hf,hbd]
 rw [hcall] at hne ⊢
 clear hcall
 split at hne
 · exact (hne rfl).elim
 rename_i hle
 have hle:args.length≤fn.ntmps:=Nat.le_of_ble_eq_true hle
 have hlv:=hl.1
 have hfr:FR γ fn.ntmps (putL .leaf 0 args) [] { tmps:=vs.toArray++Array.replicate (fn.ntmps - vs.toArray.size) undef,defers:=[] }:=
  ⟨by simp;omega,putL_TR (by simpa using hl) _,trivial⟩
 refine hih.1 code fn.ntmps ⟨putL .leaf 0 args,h,c,[]⟩ γ _ w _ hfr hr hb ?_
 split at hne
 · rename_i s hres
   rw [hres]
   intro γ' e' a w' h1 h2 h3 h4 h5
   cases e' <;> first | exact h2.elim | skip
   exact leaves_mono (fun e w hR=>hR.le h1) (aLeaves_ok (m := .ret) hn hih h3.defs rfl h3.tmps h4 h5 hne)
 · rename_i s hres
   rw [hres]
   intro γ' e' a w' h1 h2 h3 h4 h5
   cases e' <;> first | exact h2.elim | skip
   exact leaves_mono (fun e w hR=>hR.le h1) (aLeaves_ok (m := .ret) hn hih h3.defs rfl h3.tmps h4 h5 hne)
 · rename_i av s hres
   rw [hres]
   intro γ' e' a w' h1 h2 h3 h4 h5
   cases e' <;> first | exact h2.elim | skip
   obtain ⟨v,h6,h7⟩:=h2
   subst h7
   exact leaves_mono (fun e w hR=>hR.le h1) (aLeaves_ok (m := .pan av) hn hih h3.defs ⟨v,h6,rfl⟩ h3.tmps h4 h5 hne)
 · exact (hne rfl).elim
theorem evCall_ok (hn:Fine P I) (hW:∀ w,Keep B w0 w→I.W w) {ih:IH} (hih:IHok P B w0 ih):CallOk P B P.globals.size w0 (evCall P I ih):=by
 intro f fn code args h c γ w vs hf hbd hr hb hl hne
 have hbody:=evBody_ok hn hih f fn code args h c γ w vs hf hbd hr hb hl
 unfold evCall at hne ⊢
 split at hne
 · rename_i av hk
   have hWw:I.W w:=hW w hb
   refine (hn.known f args av hk γ vs w hl hWw).mono fun e w' hR=>?_
   obtain ⟨v,rfl,h1,h2⟩:=hR
   refine ⟨γ,v,rfl,Gm.le.refl _,h1,hr.kept h2.size h2.block,hb.trans (Keep.of_below h2 hr.base)⟩
 · exact hbody hne
theorem evStep_ok (hm:P.follows .mixedOrders=true) (hn:Fine P I) (hW:∀ w,Keep B w0 w→I.W w) {ih:IH} (hih:IHok P B w0 ih):IHok P B w0 (evStep P I ih):=by
 rw [evStep_eq]
 have hcall:=evCall_ok (I:=I) hn hW hih
 have hloop:∀ (code:Code) (nt:Nat) (s:St) (γ:Gm) (a:Act) (w:World) (Q:Exit→Act→World→Prop),FR γ nt s.T s.ds a→HR B P.globals.size γ s.h s.c w→Keep B w0 w→KOk2 B P.globals.size γ w0 nt Q (evStepS P I ih (.loop code) nt s)→LoopBody P code Q a w:=by
  intro code nt s γ a w Q hf hr hb hk
  refine loopBody_of (hih.1 code nt s γ a w _ hf hr hb ?_)
  simp only [evStepS] at hk
  cases hc:ih code nt s with
  | fail=>rw [hc] at hk;exact hk
  | ok e s'=>
    rw [hc] at hk
    intro γ' e' a' w' h1 h2 h3 h4 h5
    cases e with
    | normal=>
      cases e' <;> first | exact h2.elim | skip
      exact hih.2 code nt s' γ' a' w' Q h3 h4 h5 (hk.le h1)
    | exit id=>
      cases e' <;> first | exact h2.elim | skip
      exact hk γ' _ a' w' h1 h2 h3 h4 h5
    | ret=>
      cases e' <;> first | exact h2.elim | skip
      exact hk γ' _ a' w' h1 h2 h3 h4 h5
    | pan av=>
      cases e' <;> first | exact h2.elim | skip
      exact hk γ' _ a' w' h1 h2 h3 h4 h5
 refine ⟨fun code nt s γ a w Q hf hr hb hk=>?_,hloop⟩
 cases code with
 | skip=>exact wp_skip (hk γ .normal a w (Gm.le.refl _) trivial hf hr hb)
 | region id ops draw=>
   cases draw with
   | false=>
     refine wp_region ?_
     have:=evalSeq_ok (Q:=Q) hn hcall ops.toList 0 s.T s.h s.c s.ds γ a w (fun j o hj=>by rw [Nat.zero_add];simpa using hj) hf hr hb hk
     rw [List.range_eq_range']
     simpa using this
   | true=>exact evalDraw_ok hm hn hcall hf hr hb hk
 | seq x y=>
   refine wp_seq (hih.1 x nt s γ a w _ hf hr hb ?_)
   simp only [evStepS] at hk
   cases hc:ih x nt s with
   | fail=>rw [hc] at hk;exact hk
   | ok e s'=>
     rw [hc] at hk
     intro γ' e' a' w' h1 h2 h3 h4 h5
     cases e with
     | normal=>
       cases e' <;> first | exact h2.elim | skip
       exact hih.1 y nt s' γ' a' w' Q h3 h4 h5 (hk.le h1)
     | exit id=>
       cases e' <;> first | exact h2.elim | skip
       exact hk γ' _ a' w' h1 h2 h3 h4 h5
     | ret=>
       cases e' <;> first | exact h2.elim | skip
       exact hk γ' _ a' w' h1 h2 h3 h4 h5
     | pan av=>
       cases e' <;> first | exact h2.elim | skip
       exact hk γ' _ a' w' h1 h2 h3 h4 h5
 | cond c x y=>
   simp only [evStepS] at hk
   split at hk <;> first | exact hk.elim | skip
   all_goals
    rename_i hc
    have hcv:=hf.ok (P:=P) (B:=B) (G:=0) hr.glob [c] c (by simp) _ hc
    generalize hvc:a.eval c=vc at hcv
    cases hcv
   · exact wp_cond_true hvc (hih.1 x nt s γ a w Q hf hr hb hk)
   · exact wp_cond_false hvc (hih.1 y nt s γ a w Q hf hr hb hk)
 | block id x=>
   refine wp_block (hih.1 x nt s γ a w _ hf hr hb ?_)
   simp only [evStepS] at hk
   cases hc:ih x nt s with
   | fail=>rw [hc] at hk;exact hk
   | ok e s'=>
     rw [hc] at hk
     intro γ' e' a' w' h1 h2 h3 h4 h5
     cases e with
     | normal=>
       cases e' <;> first | exact h2.elim | skip
       exact hk γ' _ a' w' h1 h2 h3 h4 h5
     | exit j=>
       cases e' <;> first | exact h2.elim | skip
       rename_i j'
       have hj:j=j':=h2
       subst hj
       simp only at hk
       split at hk
       · rename_i hji
         have hji:=Nat.eq_of_beq_eq_true hji
         simp only [Exit.inBlock,hji,if_true]
         exact hk γ' .normal a' w' h1 trivial h3 h4 h5
       · rename_i hji
         have hji:=Nat.ne_of_beq_eq_false hji
         simp only [Exit.inBlock,if_neg hji]
         exact hk γ' (.exit j) a' w' h1 rfl h3 h4 h5
     | ret=>
       cases e' <;> first | exact h2.elim | skip
       exact hk γ' _ a' w' h1 h2 h3 h4 h5
     | pan av=>
       cases e' <;> first | exact h2.elim | skip
       exact hk γ' _ a' w' h1 h2 h3 h4 h5
 | loop x=>exact loop_of (hloop x nt s γ a w Q hf hr hb hk)
 | exit id=>exact wp_exit (hk γ (.exit id) a w (Gm.le.refl _) rfl hf hr hb)
 | label l=>exact wp_label (hk γ .normal a w (Gm.le.refl _) trivial hf hr hb)
 | ret=>exact wp_ret (hk γ .ret a w (Gm.le.refl _) trivial hf hr hb)
 | rangeFunc f ps aS b=>exact hk.elim
 | scope x=>
   refine wp_scope_straight (hih.1 x nt s γ a w _ hf hr hb ?_)
   simp only [evStepS] at hk
   cases hc:ih x nt s with
   | fail=>rw [hc] at hk;exact hk
   | ok e s'=>
     rw [hc] at hk
     intro γ' e' a' w' h1 h2 h3 h4 h5
     cases e with
     | normal=>
       cases e' <;> first | exact h2.elim | skip
       exact hk γ' _ a' w' h1 h2 h3 h4 h5
     | exit id=>
       cases e' <;> first | exact h2.elim | skip
       exact hk γ' _ a' w' h1 h2 h3 h4 h5
     | ret=>
       cases e' <;> first | exact h2.elim | skip
       exact hk γ' _ a' w' h1 h2 h3 h4 h5
     | pan av=>
       cases e' <;> first | exact h2.elim | skip
       exact hk γ' _ a' w' h1 h2 h3 h4 h5
 | goto l=>exact hk.elim
 | refuse y=>exact hk.elim
theorem ev_ok (hm:P.follows .mixedOrders=true) (hn:Fine P I) (hW:∀ w,Keep B w0 w→I.W w):∀ n,IHok P B w0 (ev P I n)
 | 0=>⟨fun _ _ _ _ _ _ _ _ _ _ hk=>hk.elim,fun _ _ _ _ _ _ _ _ _ _ hk=>hk.elim⟩
 | n+1=>evStep_ok hm hn hW (ev_ok hm hn hW n)
theorem fine_of {P:Program} {I:Aux} (hi:∀ (f:Nat),I.I f=true→∀ (x:Value) (w:World),(callFunc f #[x]).run P w = .ok (.value x) w)
  (hk:∀ (f:Nat) (args:List AV) (av:AV),I.K f args=some av→∀ (γ:Gm) (vs:List Value) (w:World),LR γ args vs→I.W w→Calls P f vs.toArray w fun e w'=>∃ v,e = .returned v∧VR γ av v∧Below w.heap.size w w')
  (hs:∀ (w w':World),I.W w→Below w.heap.size w w'→I.W w') (h:(P.funcs.toList.all fun fn=>fn.body.isNone || !(fn.name == "runtime.NumGoroutine"))=true):Fine P I:=by
 refine ⟨fun f fn hf hb=>?_,hi,hk,hs⟩
 have:=List.all_eq_true.1 h fn (by simpa using Array.mem_of_getElem? hf)
 rw [Bool.or_eq_true] at this
 rcases this with h1 | h1
 · cases hbd:fn.body with
   | none=>rw [hbd] at hb;cases hb
   | some c=>rw [hbd] at h1;cases h1
 · simpa using h1
noncomputable def reckon (P:Program) (I:Aux) (n:Nat) (f:FuncId) (args:List AV):R1:=evCall P I (ev P I n) f args .leaf P.globals.size
def okTrue:R1→Bool
 | .val (.v (.bool true)) _ _=>true
 | _=>false
theorem ret_true {B:Nat→Prop} {G:Nat} {γ:Gm} {w:World} {r:R1} {e:Ending} {w':World} (h:okTrue r=true) (hR:Ret B G γ w r e w'):e = .returned (.bool true)∧Keep B w w':=by
 unfold okTrue at h
 split at h
 · rename_i h' c' hres
   obtain ⟨γ',v,rfl,_,hv,_,hb'⟩:=hR
   cases hv
   exact ⟨rfl,hb'⟩
 · cases h
theorem reckon_true (hm:P.follows .mixedOrders=true) (hn:Fine P I) {n:Nat} {f:FuncId} {fn:Func} (hf:P.funcs[f]?=some fn) (hb:fn.body.isSome=true) (h:okTrue (reckon P I n f [])=true) (w:World) (hW:I.W w):
  Calls P f #[] w fun e w'=>e = .returned (.bool true)∧Below w.heap.size w w':=by
 obtain ⟨code,hb⟩:=Option.isSome_iff_exists.1 hb
 have hWW:∀ w',Keep (·<w.heap.size) w w'→I.W w':=fun w' hk=>hn.stays w w' hW hk.below
 have hcall:=evCall_ok (I:=I) (B:=(·<w.heap.size)) (w0:=w) hn hWW (ev_ok (P:=P) (B:=(·<w.heap.size)) (w0:=w) hm hn hWW n)
 unfold reckon at h
 have hr:HR (·<w.heap.size) P.globals.size (fun g=>if g<P.globals.size then some (g,0) else none) .leaf P.globals.size w:=
  ⟨fun b blk hb=>(by rw [Tr.get_leaf] at hb;cases hb),fun b b' blk blk' p p' hb=>(by rw [Tr.get_leaf] at hb;cases hb),fun b hb=>by show (if b<P.globals.size then _ else _)=_;rw [if_neg (by omega)],fun g hg=>⟨0,by show (if g<P.globals.size then _ else _)=_;rw [if_pos hg]⟩,fun k hk=>hk⟩
 exact (hcall f fn code [] .leaf P.globals.size _ w [] hf hb hr (Keep.refl _ _) LR.nil (fun e=>by rw [e] at h;cases h)).mono fun e w' hR=>let ⟨h1,h2⟩:=ret_true h hR;⟨h1,h2.below⟩
def natAVs:List Nat→List AV
 | []=>[]
 | n::l => .v (.int .u64 (.ofNat n))::natAVs l
theorem natAVs_LR {γ:Gm}:∀ (l:List Nat),LR γ (natAVs l) (l.map fun (n:Nat)=>Value.int .u64 (n:Int))
 | []=>LR.nil
 | n::l=>LR.cons (.v _) (natAVs_LR l)
def tabHp (g:Nat) (zs:List Nat):Hp:=Tr.leaf.put g (some (.cells 0 false false false zs.length (putL .leaf 0 (natAVs zs))))
noncomputable def reckonT (P:Program) (I:Aux) (n:Nat) (g:Nat) (zs:List Nat) (f:FuncId) (args:List AV):R1:=evCall P I (ev P I n) f args (tabHp g zs) P.globals.size
def TabAt (g:Nat) (zs:List Nat) (w:World):Prop:=∃ ty fz,w.heap[g]?=some (.cells (zs.map fun (n:Nat)=>Value.int .u64 (n:Int)).toArray ty fz)
theorem reckonT_ret (hm:P.follows .mixedOrders=true) (hn:Fine P I) {n g:Nat} {zs:List Nat} (hg:g<P.globals.size) {f:FuncId} {fn:Func} (hf:P.funcs[f]?=some fn) (hb:fn.body.isSome=true)
  {args:List AV} {vs:List Value} (w:World) (hl:∀ γ,LR γ args vs) (hne:reckonT P I n g zs f args ≠ .fail) (ht:TabAt g zs w) (hW:I.W w):
  ∃ γ,Calls P f vs.toArray w (Ret (·<w.heap.size) P.globals.size γ w (reckonT P I n g zs f args)):=by
 obtain ⟨code,hb⟩:=Option.isSome_iff_exists.1 hb
 have hWW:∀ w',Keep (·<w.heap.size) w w'→I.W w':=fun w' hk=>hn.stays w w' hW hk.below
 have hcall:=evCall_ok (I:=I) (B:=(·<w.heap.size)) (w0:=w) hn hWW (ev_ok (P:=P) (B:=(·<w.heap.size)) (w0:=w) hm hn hWW n)
 obtain ⟨ty,fz,hheap⟩:=ht
 have hget:∀ b blk,(tabHp g zs).get b=some blk→b=g∧blk = .cells 0 false false false zs.length (putL .leaf 0 (natAVs zs)):=by
  intro b blk hb'
  unfold tabHp at hb'
  rw [Tr.get_put] at hb'
  split at hb'
  · rename_i e
    injection hb' with hb'
    exact ⟨e,hb'.symm⟩
  · rw [Tr.get_leaf] at hb';cases hb'
 have hr:HR (·<w.heap.size) P.globals.size (fun x=>if x<P.globals.size then some (x,if x=g then zs.length else 0) else none) (tabHp g zs) P.globals.size w:=by
  refine ⟨fun b blk hb'=>?_,fun b b' blk blk' p p' h1 h2 _ _ _=>(hget _ _ h1).1.trans (hget _ _ h2).1.symm,fun b hb=>by show (if b<P.globals.size then _ else _)=_;rw [if_neg (by omega)],
   fun x hx=>⟨_,by show (if x<P.globals.size then _ else _)=_;rw [if_pos hx]⟩,fun k hk=>hk⟩
  obtain ⟨rfl,rfl⟩:=hget b blk hb'
  refine ⟨(b,zs.length),by show (if b<P.globals.size then _ else _)=_;rw [if_pos hg,if_pos rfl],fun e=>(by cases e),_,ty,fz,hheap,by simp,⟨fun e=>(by cases e),fun e=>(by cases e)⟩,fun i av hlt hi=>?_⟩
  have hl:=natAVs_LR (γ:=fun x=>if x<P.globals.size then some (x,if x=b then zs.length else 0) else none) zs
  have hll:=hl.1
  simp only [List.length_map] at hll
  rw [putL_get,if_pos ⟨by omega,by omega⟩] at hi
  obtain ⟨v,h1,h2⟩:=hl.get (by simpa using hi)
  exact ⟨v,by simpa using h1,h2⟩
 exact ⟨_,hcall f fn code args (tabHp g zs) P.globals.size _ w vs hf hb hr (Keep.refl _ _) (hl _) hne⟩
theorem reckonT_true (hm:P.follows .mixedOrders=true) (hn:Fine P I) {n g:Nat} {zs:List Nat} (hg:g<P.globals.size) {f:FuncId} {fn:Func} (hf:P.funcs[f]?=some fn) (hb:fn.body.isSome=true)
  (h:okTrue (reckonT P I n g zs f [])=true) (w:World) (ht:TabAt g zs w) (hW:I.W w):
  Calls P f #[] w fun e w'=>e = .returned (.bool true)∧Below w.heap.size w w':=by
 obtain ⟨γ,hc⟩:=reckonT_ret hm hn hg hf hb w (fun _=>LR.nil) (fun e=>by rw [e] at h;cases h) ht hW
 exact hc.mono fun e w' hR=>let ⟨h1,h2⟩:=ret_true h hR;⟨h1,h2.below⟩
end
end Go.Sy
end
end
section
noncomputable section
namespace Go.Sy
open Go Go.RowKit
inductive It where
 | code (c:Code)
 | ops (arr:Array Oper) (l:List Oper)
 | blk (id:Nat)
 | lp (c:Code)
 | sc
 | np
 | pl (arr:Array Oper) (p:Go.As.Plan) (S:World→Prop)
structure Cfg where
 k:List It
 s:St
def wpL (P:Program) (arr:Array Oper) (Q:Exit→Act→World→Prop):List Oper→Act→World→Prop
 | [],a,w=>Q .normal a w
 | o::l,a,w=>if Region.wanted o (yielded arr a.tmps) then o.wp P a w (wpL P arr Q l) Q∨(o.asks P a w∧LetsOut Q) else wpL P arr Q l (a.put o.dst undef) w
theorem wpOps_of_wpL {P:Program} {arr:Array Oper} {Q:Exit→Act→World→Prop}:∀ {l:List Oper} {n:Nat},(∀ j o,l[j]?=some o→arr[n+j]?=some o)→wpOps P arr Q (List.range' n l.length)=wpL P arr Q l
 | [],n,_=>by funext a w;rfl
 | o::l,n,h=>by
   have ho:arr[n]?=some o:=by simpa using h 0 o rfl
   have ih:=wpOps_of_wpL (P:=P) (arr:=arr) (Q:=Q) (l:=l) (n:=n+1) (fun j o' hj=>by
    have:=h (j+1) o' (by simpa using hj)
    rw [show n+1+j=n+(j+1) by omega];exact this)
   funext a w
   simp only [List.length_cons,List.range'_succ,wpOps,ho,wpL,ih]
theorem wp_region_L {P:Program} {Q:Exit→Act→World→Prop} {a:Act} {w:World} {id:Nat} {arr:Array Oper} (h:wpL P arr Q arr.toList a w):(Code.region id arr false).wp P Q a w:=by
 refine wp_region ?_
 have:=wpOps_of_wpL (P:=P) (arr:=arr) (Q:=Q) (l:=arr.toList) (n:=0) (fun j o hj=>by rw [Nat.zero_add];simpa using hj)
 rw [List.range_eq_range',show arr.size=arr.toList.length from Array.length_toList.symm,this]
 exact h
def plAfter (P:Program) (arr:Array Oper) (p:Go.As.Plan) (S:World→Prop) (Q:Exit→Act→World→Prop):Exit→Act→World→Prop
 | .normal,a,w=>S w∧Go.As.wpPlanH P arr (Go.As.NoPan Q) S p a w
 | .exit i,a,w=>Q (.exit i) a w
 | .goto i,a,w=>Q (.goto i) a w
 | .ret,a,w=>Q .ret a w
 | .panic c,a,w=>a.defers=[]∧∀ a':Act,a'.defers=[]→Q (.panic c) a' w
 | .outgrown,a,w=>Q .outgrown a w
def after (P:Program) (Q:Exit→Act→World→Prop):List It→Exit→Act→World→Prop
 | []=>Q
 | .code c::k=>Exit.then (c.wp P (after P Q k)) (after P Q k)
 | .ops arr l::k=>Exit.then (wpL P arr (after P Q k) l) (after P Q k)
 | .blk id::k=>Exit.inBlock id (after P Q k)
 | .lp c::k=>Exit.then (LoopBody P c (after P Q k)) (after P Q k)
 | .sc::k=>Exit.noGoto (after P Q k)
 | .np::k=>Go.As.NoPan (after P Q k)
 | .pl arr p S::k=>plAfter P arr p S (after P Q k)
def unw (id:Nat):List It→Option (List It)
 | []=>none
 | .blk j::k=>match Nat.beq j id with
   | true=>some k
   | false=>unw id k
 | .code _::k=>unw id k
 | .ops _ _::k=>unw id k
 | .lp _::k=>unw id k
 | .sc::k=>unw id k
 | .np::k=>unw id k
 | .pl _ _ _::k=>unw id k
theorem unw_ok {P:Program} {Q:Exit→Act→World→Prop} {id:Nat} {a:Act} {w:World}:∀ {k k':List It},unw id k=some k'→after P Q k' .normal a w→after P Q k (.exit id) a w
 | [],k',h,_=>by cases h
 | .blk j::k,k',h,hq=>by
   simp only [unw] at h
   split at h
   · rename_i hj
     have hj:=Nat.eq_of_beq_eq_true hj
     injection h with h
     subst h hj
     simp only [after,Exit.inBlock,if_true]
     exact hq
   · rename_i hj
     have hj:=Nat.ne_of_beq_eq_false hj
     show (if id=j then _ else _)
     rw [if_neg (show ¬ id=j from fun e=>hj e.symm)]
     exact unw_ok h hq
 | .code _::k,k',h,hq=>unw_ok (k:=k) h hq
 | .ops _ _::k,k',h,hq=>unw_ok (k:=k) h hq
 | .lp _::k,k',h,hq=>unw_ok (k:=k) h hq
 | .sc::k,k',h,hq=>unw_ok (k:=k) h hq
 | .np::k,k',h,hq=>unw_ok (k:=k) h hq
 | .pl _ _ _::k,k',h,hq=>unw_ok (k:=k) h hq
theorem after_ret {P:Program} {Q:Exit→Act→World→Prop} {a:Act} {w:World} (hq:Q .ret a w):∀ {k:List It},after P Q k .ret a w
 | []=>hq
 | .blk j::k=>after_ret (k:=k) hq
 | .code _::k=>after_ret (k:=k) hq
 | .ops _ _::k=>after_ret (k:=k) hq
 | .lp _::k=>after_ret (k:=k) hq
 | .sc::k=>after_ret (k:=k) hq
 | .np::k=>after_ret (k:=k) hq
 | .pl _ _ _::k=>after_ret (k:=k) hq
structure Good (P:Program) (B:Nat→Prop) (w0:World) (γ0:Gm) (nt:Nat) (Q:Exit→Act→World→Prop) (g:Cfg):Prop where
 out:∀ γ a w,Gm.le γ0 γ→FR γ nt g.s.T g.s.ds a→HR B P.globals.size γ g.s.h g.s.c w→Keep B w0 w→after P Q g.k .normal a w
def stopAt (dst:Option Tmp) (stops:List Nat):Bool:=match dst with
 | none=>false
 | some d=>hasNat d stops
def opStep (P:Program) (I:Aux) (call:CallF) (nt:Nat) (arr:Array Oper) (o:Oper) (l:List Oper) (k:List It) (s:St):Option Cfg:=match awanted arr s.T o with
 | none=>none
 | some false=>match tput nt s.T o.dst (.tup []) with
   | none=>none
   | some T'=>some ⟨.ops arr l::k,⟨T',s.h,s.c,s.ds⟩⟩
 | some true=>match evalOp P I call s.T s.h s.c o with
   | .val av h' c'=>match tput nt s.T o.dst av with
     | none=>none
     | some T'=>some ⟨.ops arr l::k,⟨T',h',c',s.ds⟩⟩
   | .pan _ _ _=>none
   | .fail=>match aDefer P s.T o with
     | none=>none
     | some d=>match tput nt s.T o.dst (.tup []) with
       | none=>none
       | some T'=>some ⟨.ops arr l::k,⟨T',s.h,s.c,d::s.ds⟩⟩
def codeStepS (P:Program) (I:Aux) (call:CallF) (nt:Nat) (k:List It) (s:St) (c:Code):Option Cfg:=match c with
 | .skip=>some ⟨k,s⟩
 | .label _=>some ⟨k,s⟩
 | .region _ ops draw=>match draw with
   | false=>some ⟨.ops ops ops.toList::k,s⟩
   | true=>match evalDraw P I call nt ops s with
     | .ok .normal s'=>some ⟨k,s'⟩
     | _=>none
 | .seq x y=>some ⟨.code x :: .code y::k,s⟩
 | .block id x=>some ⟨.code x :: .blk id::k,s⟩
 | .scope x=>some ⟨.code x :: .sc::k,s⟩
 | .exit id=>match unw id k with
   | none=>none
   | some k'=>some ⟨k',s⟩
 | _=>none
def codeStepD (c:Code):Program→Aux→CallF→Nat→List It→St→Option Cfg:=by
 induction c
 case skip=>exact fun _ _ _ _ k s=>some ⟨k,s⟩
 case label _=>exact fun _ _ _ _ k s=>some ⟨k,s⟩
 case region _ ops draw=>
  induction draw
  · exact fun _ _ _ _ k s=>some ⟨.ops ops ops.toList::k,s⟩
  · exact fun P I call nt k s=>match evalDraw P I call nt ops s with
     | .ok .normal s'=>some ⟨k,s'⟩
     | _=>none
 case seq x y _ _=>exact fun _ _ _ _ k s=>some ⟨.code x :: .code y::k,s⟩
 case block id x _=>exact fun _ _ _ _ k s=>some ⟨.code x :: .blk id::k,s⟩
 case scope x _=>exact fun _ _ _ _ k s=>some ⟨.code x :: .sc::k,s⟩
 case exit id=>exact fun _ _ _ _ k s=>match unw id k with
  | none=>none
  | some k'=>some ⟨k',s⟩
 all_goals exact fun _ _ _ _ _ _=>none
def codeStep (P:Program) (I:Aux) (call:CallF) (nt:Nat) (k:List It) (s:St) (c:Code):Option Cfg:=codeStepD c P I call nt k s
theorem codeStep_eq (P:Program) (I:Aux) (call:CallF) (nt:Nat) (k:List It) (s:St) (c:Code):codeStep P I call nt k s c=codeStepS P I call nt k s c:=by
 cases c <;> first | rfl | (rename_i d;cases d <;> rfl)
def cstep (P:Program) (I:Aux) (call:CallF) (nt:Nat) (stops:List Nat) (g:Cfg):Option Cfg:=match g.k with
 | []=>none
 | .code c::k=>codeStep P I call nt k g.s c
 | .ops arr l::k=>match l with
   | []=>some ⟨k,g.s⟩
   | o::l=>match stopAt o.dst stops with
     | true=>none
     | false=>opStep P I call nt arr o l k g.s
 | .blk _::k=>some ⟨k,g.s⟩
 | .sc::k=>some ⟨k,g.s⟩
 | .np::k=>some ⟨k,g.s⟩
 | .lp _::_=>none
 | .pl _ _ _::_=>none
def cond1 (P:Program) (g:Cfg):Option Cfg:=match g.k with
 | .code (.cond c x y)::k=>match aev P g.s.T c with
   | some (.v (.bool true))=>some ⟨.code x::k,g.s⟩
   | some (.v (.bool false))=>some ⟨.code y::k,g.s⟩
   | _=>none
 | _=>none
noncomputable def run (P:Program) (I:Aux) (call:CallF) (nt:Nat) (stops:List Nat) (n:Nat):Nat→Cfg→Cfg:=
 Nat.rec (motive:=fun _=>Nat→Cfg→Cfg) (fun _ g=>g) (fun _ ih au g=>match cstep P I call nt stops g with
  | some g'=>ih au g'
  | none=>match au with
    | 0=>g
    | au+1=>match cond1 P g with
      | some g'=>ih au g'
      | none=>g) n
section
variable {P:Program} {I:Aux} {call:CallF} {B:Nat→Prop} {w0:World} {γ0:Gm} {nt:Nat} {Q:Exit→Act→World→Prop} {g g':Cfg}
structure Cx (P:Program) (I:Aux) (B:Nat→Prop) (w0:World):Prop where
 hm:P.follows .mixedOrders=true
 hn:Fine P I
 hW:∀ w,Keep B w0 w→I.W w
theorem Cx.calls (cx:Cx P I B w0) (m:Nat):CallOk P B P.globals.size w0 (evCall P I (ev P I m)):=evCall_ok cx.hn cx.hW (ev_ok cx.hm cx.hn cx.hW m)
theorem KOk2.good {γ:Gm} {r:R2} {e:AExit} {s:St} (hle:Gm.le γ0 γ) (h:r = .ok e s) {QQ:Exit→Act→World→Prop} (hq:∀ γ' e' a w,Gm.le γ0 γ'→ER γ' e e'→FR γ' nt s.T s.ds a→HR B P.globals.size γ' s.h s.c w→Keep B w0 w→QQ e' a w):
  KOk2 B P.globals.size γ w0 nt QQ r:=by
 subst h
 exact fun γ' e' a w h1=>hq γ' e' a w (hle.trans h1)
theorem opStep_ok (hn:Fine P I) (hcall:CallOk P B P.globals.size w0 call) {arr:Array Oper} {o:Oper} {l:List Oper} {k:List It} {s:St} (h:opStep P I call nt arr o l k s=some g') (hg:Good P B w0 γ0 nt Q g'):
  Good P B w0 γ0 nt Q ⟨.ops arr (o::l)::k,s⟩:=by
 refine ⟨fun γ a w hle hf hr hb=>?_⟩
 simp only [after,Exit.then,wpL]
 have hok:=hf.ok (P:=P) (B:=B) (G:=0) hr.glob o.op.operands.toList
 unfold opStep at h
 split at h
 · cases h
 · rename_i hw
   have hw':=awanted_ok (a:=a) (fun j want p t av _ _ _ ht=>hf.tmps t av ht) hw
   rw [if_neg (by simp [hw'])]
   split at h
   · cases h
   rename_i T' hT'
   injection h with h
   subst h
   exact hg.out γ _ w hle (hf.put (Gm.le.refl _) (undef_VR γ) hT') hr hb
 · rename_i hw
   have hw':=awanted_ok (a:=a) (fun j want p t av _ _ _ ht=>hf.tmps t av ht) hw
   rw [if_pos hw']
   left
   split at h
   · rename_i av h' c' hev
     split at h
     · cases h
     rename_i T' hT'
     injection h with h
     subst h
     refine evalOp_ok hn hcall hr hb hok ?_
     rw [hev]
     intro γ' v w' h1 h2 h3 h4
     exact hg.out γ' _ w' (hle.trans h1) (hf.put h1 h2 hT') h3 h4
   · cases h
   · split at h
     · cases h
     rename_i d hd
     split at h
     · cases h
     rename_i T' hT'
     injection h with h
     subst h
     obtain ⟨x,hx1,hx2⟩:=aDefer_ok hok hd
     unfold Oper.wp
     rw [hx2 w]
     simp only [Oper.upon]
     have hf2:FR γ nt s.T (d::s.ds) { a with defers:=x::a.defers }:=⟨hf.size,hf.tmps,hx1,hf.defs⟩
     exact hg.out γ _ w hle (hf2.put (Gm.le.refl _) (undef_VR γ) hT') hr hb
theorem codeStep_ok (hm:P.follows .mixedOrders=true) (hn:Fine P I) (hcall:CallOk P B P.globals.size w0 call) {k:List It} {s:St} {c:Code} (h:codeStep P I call nt k s c=some g') (hg:Good P B w0 γ0 nt Q g'):
  Good P B w0 γ0 nt Q ⟨.code c::k,s⟩:=by
 refine ⟨fun γ a w hle hf hr hb=>?_⟩
 simp only [after,Exit.then]
 rw [codeStep_eq] at h
 unfold codeStepS at h
 split at h
 · injection h with h;subst h
   exact wp_skip (hg.out γ a w hle hf hr hb)
 · injection h with h;subst h
   exact wp_label (hg.out γ a w hle hf hr hb)
 · split at h
   · injection h with h;subst h
     exact wp_region_L (hg.out γ a w hle hf hr hb)
   · split at h
     · rename_i s' hev
       injection h with h;subst h
       refine evalDraw_ok hm hn hcall hf hr hb (KOk2.good (γ0:=γ0) hle hev ?_)
       intro γ' e' a' w' h1 h2 h3 h4 h5
       cases e' <;> first | exact h2.elim | skip
       exact hg.out γ' a' w' h1 h3 h4 h5
     · cases h
 · injection h with h;subst h
   exact wp_seq (hg.out γ a w hle hf hr hb)
 · injection h with h;subst h
   exact wp_block (hg.out γ a w hle hf hr hb)
 · injection h with h;subst h
   exact wp_scope_straight (hg.out γ a w hle hf hr hb)
 · split at h
   · cases h
   rename_i k' hk'
   injection h with h;subst h
   exact wp_exit (unw_ok hk' (hg.out γ a w hle hf hr hb))
 · cases h
theorem cstep_ok (hm:P.follows .mixedOrders=true) (hn:Fine P I) (hcall:CallOk P B P.globals.size w0 call) {stops:List Nat} (h:cstep P I call nt stops g=some g') (hg:Good P B w0 γ0 nt Q g'):Good P B w0 γ0 nt Q g:=by
 obtain ⟨k,s⟩:=g
 unfold cstep at h
 simp only at h
 split at h
 · cases h
 · exact codeStep_ok hm hn hcall h hg
 · split at h
   · injection h with h;subst h
     exact ⟨fun γ a w hle hf hr hb=>hg.out γ a w hle hf hr hb⟩
   · split at h
     · cases h
     · exact opStep_ok hn hcall h hg
 · injection h with h;subst h
   exact ⟨fun γ a w hle hf hr hb=>hg.out γ a w hle hf hr hb⟩
 · injection h with h;subst h
   exact ⟨fun γ a w hle hf hr hb=>hg.out γ a w hle hf hr hb⟩
 · injection h with h;subst h
   exact ⟨fun γ a w hle hf hr hb=>hg.out γ a w hle hf hr hb⟩
 · cases h
 · cases h
theorem cond1_ok (h:cond1 P g=some g') (hg:Good P B w0 γ0 nt Q g'):Good P B w0 γ0 nt Q g:=by
 obtain ⟨k,s⟩:=g
 unfold cond1 at h
 simp only at h
 split at h
 · rename_i c x y k'
   refine ⟨fun γ a w hle hf hr hb=>?_⟩
   simp only [after,Exit.then]
   split at h <;> first | (cases h;done) | skip
   all_goals
    rename_i hc
    injection h with h;subst h
    have hcv:=hf.ok (P:=P) (B:=B) (G:=0) hr.glob [c] c (by simp) _ hc
    generalize hvc:a.eval c=vc at hcv
    cases hcv
   · exact wp_cond_true hvc (hg.out γ a w hle hf hr hb)
   · exact wp_cond_false hvc (hg.out γ a w hle hf hr hb)
 · cases h
theorem run_succ (stops:List Nat) (n au:Nat) (g:Cfg):run P I call nt stops (n+1) au g=(match cstep P I call nt stops g with
 | some g'=>run P I call nt stops n au g'
 | none=>match au with
   | 0=>g
   | au+1=>match cond1 P g with
     | some g'=>run P I call nt stops n au g'
     | none=>g):=rfl
theorem run_ok' (hm:P.follows .mixedOrders=true) (hn:Fine P I) (hcall:CallOk P B P.globals.size w0 call) {stops:List Nat}:∀ (n au:Nat) (g:Cfg),Good P B w0 γ0 nt Q (run P I call nt stops n au g)→Good P B w0 γ0 nt Q g
 | 0,au,g,h=>h
 | n+1,au,g,h=>by
   rw [run_succ] at h
   split at h
   · rename_i g' hg'
     exact cstep_ok hm hn hcall hg' (run_ok' hm hn hcall n au g' h)
   · split at h
     · exact h
     · split at h
       · rename_i g' hg'
         exact cond1_ok hg' (run_ok' hm hn hcall n _ g' h)
       · exact h
end
end Go.Sy
end
end
section
noncomputable section
namespace Go.Sy
open Go Go.RowKit
def condOf (P:Program) (g:Cfg):Option AV:=match g.k with
 | .code (.cond c _ _)::_=>aev P g.s.T c
 | _=>none
def takeC (b:Bool) (g:Cfg):Cfg:=match g.k with
 | .code (.cond _ x y)::k=>⟨.code (match b with | true=>x | false=>y)::k,g.s⟩
 | _=>g
def hdOp (P:Program) (nt:Nat) (g:Cfg):Option Oper:=match g.k with
 | .ops arr (o::_)::_=>match awanted arr g.s.T o with
   | some true=>match o.dst with
     | none=>some o
     | some d=>match Nat.blt d nt with
       | true=>some o
       | false=>none
   | _=>none
 | _=>none
def nx (g:Cfg) (av:AV) (h:Hp) (c:Nat):Cfg:=match g.k with
 | .ops arr (o::l)::k=>⟨.ops arr l::k,⟨match o.dst with
   | none=>g.s.T
   | some d=>g.s.T.put d (some av),h,c,g.s.ds⟩⟩
 | _=>g
def nx0 (g:Cfg) (av:AV):Cfg:=nx g av g.s.h g.s.c
def semV (ρ:Operand→Value):Op→Option (Sem Value)
 | .load t a=>some (Instr.loadAt t (ρ a))
 | .binOp op xType x y _=>some (do eqGuard op xType x y (ρ x) (ρ y);binOp op xType (ρ x) (ρ y))
 | .unOp op _ x=>some (Op.unary op (ρ x))
 | .convert src dst x=>some (Go.convert src dst (ρ x))
 | .slice t x lo hi mx=>some (Instr.sliceAt t (ρ x) (lo.map ρ) (hi.map ρ) (mx.map ρ))
 | .fieldAddr s x f=>some (Instr.fieldAt s (ρ x) f)
 | .field xType x f=>some (Instr.field xType (ρ x) f)
 | .indexAddr t x ix=>some (Instr.indexAt t (ρ x) (ρ ix))
 | .index xType x ix=>some (Instr.index xType (ρ x) (ρ ix))
 | .lookup xType x ix ok=>some (Instr.lookup xType (ρ x) (ρ ix) ok)
 | .extract t ix=>some (Instr.extract (ρ t) ix)
 | _=>none
def hdSem (P:Program) (nt:Nat) (g:Cfg):Option (Sem Value):=match hdOp P nt g with
 | none=>none
 | some o=>match aclosed P g.s.T o.op.operands.toList with
   | true=>semV (arho P g.s.T) o.op
   | false=>none
def callOf (P:Program) (T:Tr AV) (o:Oper):Option (FuncId×List AV):=match o.op with
 | .call k=>match k.callee with
   | .value x=>match aev P T x,aevs P T k.args.toList with
     | some (.fn (.func f) first cap),some l=>some (f,first++l++cap)
     | _,_=>none
   | .invoke x name=>match aev P T x,aevs P T k.args.toList with
     | some (.ifc t a),some l=>match aMethod P t name with
       | some f=>some (f,a::l)
       | none=>none
     | _,_=>none
   | _=>none
 | _=>none
def hdCall (P:Program) (nt:Nat) (g:Cfg):Option (FuncId×List AV):=match hdOp P nt g with
 | none=>none
 | some o=>callOf P g.s.T o
def toLp (g:Cfg):Cfg:=match g.k with
 | .code (.loop c)::k=>⟨.lp c::k,g.s⟩
 | _=>g
def isLp (g:Cfg):Bool:=match g.k with
 | .lp _::_=>true
 | _=>false
def rnd (g:Cfg):Cfg:=match g.k with
 | .lp c::k=>⟨.code c :: .lp c::k,g.s⟩
 | _=>g
def endOf (P:Program) (fn:Func) (g:Cfg):Option AV:=match g.s.ds with
 | _::_=>none
 | []=>match g.k with
   | []=>aResults P fn g.s.T g.s.h
   | .code .ret::_=>aResults P fn g.s.T g.s.h
   | _=>none
section
variable {P:Program} {I:Aux} {call:CallF} {B:Nat→Prop} {w0:World} {γ0:Gm} {nt:Nat} {Q:Exit→Act→World→Prop} {g g':Cfg}
theorem run_ok (cx:Cx P I B w0) (m:Nat) (stops:List Nat) (n au:Nat) (h:Good P B w0 γ0 nt Q (run P I (evCall P I (ev P I m)) nt stops n au g)):Good P B w0 γ0 nt Q g:=
 run_ok' cx.hm cx.hn (cx.calls m) n au g h
theorem good_cond {b:Bool} (h:condOf P g=some (.v (.bool b))) (ht:b=true→Good P B w0 γ0 nt Q (takeC true g)) (hf:b=false→Good P B w0 γ0 nt Q (takeC false g)):Good P B w0 γ0 nt Q g:=by
 obtain ⟨k,s⟩:=g
 unfold condOf at h
 simp only at h
 split at h <;> first | (cases h;done) | skip
 rename_i c x y k'
 refine ⟨fun γ a w hle hf' hr hb=>?_⟩
 have hcv:=hf'.ok (P:=P) (B:=B) (G:=0) hr.glob [c] c (by simp) _ h
 generalize hvc:a.eval c=vc at hcv
 cases hcv
 simp only [after,Exit.then]
 cases b with
 | true=>exact wp_cond_true hvc ((ht rfl).out γ a w hle hf' hr hb)
 | false=>exact wp_cond_false hvc ((hf rfl).out γ a w hle hf' hr hb)
theorem good_take {b:Bool} (c:Bool) (h:condOf P g=some (.v (.bool b))) (e:b=c) (hg:Good P B w0 γ0 nt Q (takeC c g)):Good P B w0 γ0 nt Q g:=
 good_cond h (fun e'=>by rw [show c=true from e ▸ e'] at hg;exact hg) (fun e'=>by rw [show c=false from e ▸ e'] at hg;exact hg)
theorem good_op {o:Oper} (h:hdOp P nt g=some o)
  (H:∀ γ a w (K:Act→World→Prop) (QQ:Exit→Act→World→Prop),Gm.le γ0 γ→FR γ nt g.s.T g.s.ds a→HR B P.globals.size γ g.s.h g.s.c w→Keep B w0 w→
   (∀ γ' v w' av h' c',Gm.le γ γ'→VR γ' av v→HR B P.globals.size γ' h' c' w'→Keep B w0 w'→Good P B w0 γ0 nt Q (nx g av h' c')→K (a.put o.dst v) w')→
   o.wp P a w K QQ):Good P B w0 γ0 nt Q g:=by
 obtain ⟨k,s⟩:=g
 unfold hdOp at h
 simp only at h
 split at h <;> first | (cases h;done) | skip
 rename_i arr o' l k'
 split at h <;> first | (cases h;done) | skip
 rename_i hw
 have hoo:o'=o∧∀ d,o'.dst=some d→d<nt:=by
  split at h
  · rename_i hd
    injection h with h
    exact ⟨h,fun d e=>by rw [hd] at e;cases e⟩
  · rename_i d hd
    split at h <;> first | (cases h;done) | skip
    rename_i hlt
    injection h with h
    exact ⟨h,fun d' e=>by rw [hd] at e;injection e with e;subst e;exact blt_lt hlt⟩
 obtain ⟨rfl,hd⟩:=hoo
 refine ⟨fun γ a w hle hf hr hb=>?_⟩
 simp only [after,Exit.then,wpL]
 have hw':=awanted_ok (a:=a) (fun j want p t av _ _ _ ht=>hf.tmps t av ht) hw
 rw [if_pos hw']
 left
 refine H γ a w _ _ hle hf hr hb (fun γ' v w' av h' c' h1 h2 h3 h4 hg=>?_)
 refine hg.out γ' _ w' (hle.trans h1) ?_ h3 h4
 simp only [nx]
 have hput:tput nt s.T o'.dst av=some (match o'.dst with
  | none=>s.T
  | some d=>s.T.put d (some av)):=by
  unfold tput
  cases hdd:o'.dst with
  | none=>rfl
  | some d=>
    simp only
    have:Nat.blt d nt=true:=Nat.ble_eq_true_of_le (hd d hdd)
    rw [this]
 exact hf.put h1 h2 hput
theorem semV_run {ρ:Operand→Value} {o:Oper} {S:Sem Value} {v:Value} {w w':World} (h:semV ρ o.op=some S) (hr:S.run P w = .ok v w'):(execOp ρ o).run P w = .ok (.value v) w':=by
 unfold semV at h
 unfold execOp
 split at h <;> first | (cases h;done) | skip
 all_goals
  rename_i hop
  rw [hop]
  injection h with h
  subst h
  exact run_v hr
theorem good_val {S:Sem Value} (x:Value) (h:hdSem P nt g=some S) (hrun:∀ w,Keep B w0 w→S.run P w = .ok x w) (hg:Good P B w0 γ0 nt Q (nx0 g (norm x))):Good P B w0 γ0 nt Q g:=by
 unfold hdSem at h
 split at h
 · cases h
 rename_i o ho
 split at h <;> first | (cases h;done) | skip
 rename_i hcl
 refine good_op ho (fun γ a w K QQ hle hf hr hb hK=>?_)
 have hok:=hf.ok (P:=P) (B:=B) (G:=0) hr.glob o.op.operands.toList
 have hns:∀ cs b,o.op = .select cs b→False:=fun cs b e=>by rw [e] at h;cases h
 have hcong:=execOp_congr (ρ:=arho P g.s.T) (ρ':=a.eval) o (fun cs b e=>(hns cs b e).elim) (fun x hx=>arho_ok hok hcl x (by simpa using hx))
 exact wp_val (by rw [← hcong];exact semV_run h (hrun w hb)) (hK γ x w _ _ _ (Gm.le.refl _) (norm_VR x) hr hb hg)
theorem good_call (cx:Cx P I B w0) {f:FuncId} {args:List AV} (h:hdCall P nt g=some (f,args)) (hbod:bodied P f=some true)
  (H:∀ γ w vs,Gm.le γ0 γ→HR B P.globals.size γ g.s.h g.s.c w→Keep B w0 w→LR γ args vs→Calls P f vs.toArray w fun e w'=>
   ∃ v γ' av h' c',e = .returned v∧Gm.le γ γ'∧VR γ' av v∧HR B P.globals.size γ' h' c' w'∧Keep B w0 w'∧Good P B w0 γ0 nt Q (nx g av h' c')):Good P B w0 γ0 nt Q g:=by
 unfold hdCall at h
 split at h
 · cases h
 rename_i o ho
 refine good_op ho (fun γ a w K QQ hle hf hr hb hK=>?_)
 have hok:=hf.ok (P:=P) (B:=B) (G:=0) hr.glob o.op.operands.toList
 obtain ⟨fn,code,hfn,hbd⟩:=bodied_true hbod
 have henter:∀ (vs:Array Value),(callFunc f vs).run P w = .ok (.enter f vs) w:=fun vs=>enter_ok cx.hn hfn hbd vs w
 have fin:∀ vs:List Value,LR γ args vs→(∀ w,(execOp a.eval o).run P w=(callFunc f vs.toArray).run P w)→o.wp P a w K QQ:=by
  intro vs hl hrun
  unfold Oper.wp
  rw [hrun,henter]
  refine (H γ w vs hle hr hb hl).mono fun e w' hR=>?_
  obtain ⟨v,γ',av,h',c',rfl,h1,h2,h3,h4,h5⟩:=hR
  exact hK γ' v w' av h' c' h1 h2 h3 h4 h5
 unfold callOf at h
 split at h <;> first | (cases h;done) | skip
 rename_i k hop
 split at h <;> first | (cases h;done) | skip
 · rename_i x hce
   split at h <;> first | (cases h;done) | skip
   rename_i f' first cap l hx hl
   injection h with h
   injection h with e1 e2
   subst e1 e2
   have hmem:o.op.operands.toList=x::k.args.toList:=by rw [hop];simp [Op.operands,Call.operands,hce]
   have hxv:=hok x (by rw [hmem];simp) _ hx
   have hlv:=aevs_ok (a:=a) (fun y hy=>hok y (by rw [hmem];exact List.mem_cons_of_mem _ hy)) hl
   generalize hvx:a.eval x=vx at hxv
   cases hxv with
   | fn hl1 hh1 hl2 hh2=>
     rename_i vs ws
     have r1:LR γ first vs.toList:=⟨by simpa using hl1,fun i b y e1 e2=>hh1 i b y e1 (by simpa using e2)⟩
     have r2:LR γ cap ws.toList:=⟨by simpa using hl2,fun i b y e1 e2=>hh2 i b y e1 (by simpa using e2)⟩
     refine fin _ ((r1.append hlv).append r2) (fun w=>?_)
     unfold execOp
     rw [hop]
     simp only [resolve,hce,hvx,Deferred.ofValue,Sem.run_bind,Sem.run_pure,Result.andThen_ok,invoke]
     congr 2
     apply Array.ext'
     simp
 · rename_i x name hce
   split at h <;> first | (cases h;done) | skip
   rename_i t b l hx hl
   split at h <;> first | (cases h;done) | skip
   rename_i f' hf'
   injection h with h
   injection h with e1 e2
   subst e1 e2
   have hmem:o.op.operands.toList=x::k.args.toList:=by rw [hop];simp [Op.operands,Call.operands,hce]
   have hxv:=hok x (by rw [hmem];simp) _ hx
   have hlv:=aevs_ok (a:=a) (fun y hy=>hok y (by rw [hmem];exact List.mem_cons_of_mem _ hy)) hl
   generalize hvx:a.eval x=vx at hxv
   cases hxv with
   | ifc hxv=>
     rename_i vv
     refine fin (vv::k.args.toList.map a.eval) (LR.cons hxv hlv) (fun w=>?_)
     unfold execOp
     rw [hop]
     simp only [resolve,hce,hvx,Sem.run_bind,Sem.run_pure,Result.andThen_ok,invoke]
     have hex:(#[Value.iface t vv]++k.args.map a.eval).extract 1 (#[Value.iface t vv]++k.args.map a.eval).size=k.args.map a.eval:=by
      apply Array.ext'
      simp
      exact List.take_of_length_le (by simp)
     have hget:(#[Value.iface t vv]++k.args.map a.eval)[0]?=some (.iface t vv):=by
      rw [Array.getElem?_append_left (by simp)]
      rfl
     rw [hget,hex]
     simp only [aMethod_ok hf']
     congr 2
     apply Array.ext'
     simp
def closeLL:List AV→Option (List Value)
 | []=>some []
 | a::l=>match a.close with
   | none=>none
   | some x=>match closeLL l with
     | none=>none
     | some r=>some (x::r)
def closeT:AV→Option Value
 | .tup l=>match closeLL l with
   | none=>none
   | some r=>some (.tuple r.toArray)
 | a=>a.close
theorem closeLL_eq {γ:Gm}:∀ {aS:List AV} {vs ws:List Value},closeLL aS=some ws→LR γ aS vs→vs=ws
 | [],vs,ws,h,hr=>by
   simp [closeLL] at h
   subst h
   exact List.eq_nil_of_length_eq_zero hr.1.symm
 | a::aS,vs,ws,h,hr=>by
   cases vs with
   | nil=>have:=hr.1;simp at this
   | cons x vs=>
     have h0:=hr.2 0 a x rfl rfl
     have ht:LR γ aS vs:=⟨by have:=hr.1;simpa using this,fun i b y h1 h2=>hr.2 (i+1) b y (by simpa using h1) (by simpa using h2)⟩
     simp only [closeLL] at h
     split at h
     · cases h
     rename_i y hy
     split at h
     · cases h
     rename_i r hrr
     injection h with h
     subst h
     rw [close_eq hy h0,closeLL_eq hrr ht]
theorem closeT_eq {γ:Gm} {a:AV} {x y:Value} (h:closeT a=some y) (hr:VR γ a x):x=y:=by
 unfold closeT at h
 split at h
 · split at h
   · cases h
   rename_i r hrr
   injection h with h
   subst h
   cases hr with
   | tup hl hh=>
     rename_i vs
     have:=closeLL_eq (γ:=γ) (vs:=vs.toList) hrr ⟨by simpa using hl,fun i a x h1 h2=>hh i a x h1 (by simpa using h2)⟩
     rw [← this]
 · exact close_eq h hr
theorem good_callV (cx:Cx P I B w0) {f:FuncId} {args:List AV} (xs:List Value) {Pr:Value→World→Prop} (h:hdCall P nt g=some (f,args)) (hbod:bodied P f=some true) (hx:∀ γ vs,LR γ args vs→vs=xs)
  (hc:∀ w,Keep B w0 w→Calls P f xs.toArray w fun e w'=>∃ r,e = .returned r∧Pr r w'∧Below w.heap.size w w')
  (hg:∀ r w',Pr r w'→Keep B w0 w'→Good P B w0 γ0 nt Q (nx0 g (norm r))):Good P B w0 γ0 nt Q g:=by
 refine good_call cx h hbod (fun γ w vs hle hr hb hl=>?_)
 obtain rfl:=hx γ vs hl
 refine (hc w hb).mono fun e w' hR=>?_
 obtain ⟨r,rfl,h1,h2⟩:=hR
 have hk:=hb.trans (Keep.of_below h2 hr.base)
 exact ⟨r,γ,norm r,_,_,rfl,Gm.le.refl _,norm_VR r,hr.kept h2.size h2.block,hk,hg r w' h1 hk⟩
theorem good_callB (cx:Cx P I B w0) {f:FuncId} (xs:List Value) (r:Value) (h:hdCall P nt g=some (f,xs.map norm)) (hbod:bodied P f=some true) (hx:closeLL (xs.map norm)=some xs)
  (hc:∀ w,Keep B w0 w→Calls P f xs.toArray w fun e w'=>e = .returned r∧Below w.heap.size w w') (hg:Good P B w0 γ0 nt Q (nx0 g (norm r))):Good P B w0 γ0 nt Q g:=
 good_callV cx xs (Pr:=fun r' _=>r'=r) h hbod (fun γ vs hl=>closeLL_eq hx hl) (fun w hk=>(hc w hk).mono fun e w' hR=>⟨r,hR.1,rfl,hR.2⟩) (fun r' w' e _=>by subst e;exact hg)
theorem good_callP (cx:Cx P I B w0) {f:FuncId} (xs:List Value) (r:Value) (h:hdCall P nt g=some (f,xs.map norm)) (hbod:bodied P f=some true) (hx:closeLL (xs.map norm)=some xs)
  (hc:∀ w,Keep B w0 w→Calls P f xs.toArray w fun e w'=>e = .returned r∧w=w') (hg:Good P B w0 γ0 nt Q (nx0 g (norm r))):Good P B w0 γ0 nt Q g:=
 good_callB cx xs r h hbod hx (fun w hk=>(hc w hk).mono fun e w' hR=>⟨hR.1,by rw [← hR.2];exact Below.refl _ _⟩) hg
def setT (g:Cfg) (t:Nat) (av:AV):Cfg:=⟨g.k,⟨g.s.T.put t (some av),g.s.h,g.s.c,g.s.ds⟩⟩
theorem good_set (t:Nat) {x:Value} (y:Value) (h:g.s.T.get t=some (.v x)) (e:x=y) (hg:Good P B w0 γ0 nt Q (setT g t (norm y))):Good P B w0 γ0 nt Q g:=by
 subst e
 refine ⟨fun γ a w hle hf hr hb=>?_⟩
 refine hg.out γ a w hle ⟨hf.size,fun t' av ht=>?_,hf.defs⟩ hr hb
 simp only [setT] at ht
 rw [Tr.get_put] at ht
 split at ht
 · rename_i e
   subst e
   injection ht with ht
   subst ht
   obtain ⟨v,h1,h2⟩:=hf.tmps _ _ h
   cases h2
   exact ⟨_,h1,norm_VR _⟩
 · exact hf.tmps t' av ht
theorem good_loop (h:isLp g=true) (hg:Good P B w0 γ0 nt Q (rnd g)):Good P B w0 γ0 nt Q g:=by
 obtain ⟨k,s⟩:=g
 unfold isLp at h
 split at h <;> first | (cases h;done) | skip
 rename_i c k' hk
 simp only at hk
 subst hk
 exact ⟨fun γ a w hle hf hr hb=>loopBody_of (hg.out γ a w hle hf hr hb)⟩
theorem good_toLp (hg:Good P B w0 γ0 nt Q (toLp g)):Good P B w0 γ0 nt Q g:=by
 obtain ⟨k,s⟩:=g
 unfold toLp at hg
 split at hg
 · rename_i c k' hk
   simp only at hk
   subst hk
   exact ⟨fun γ a w hle hf hr hb=>loop_of (hg.out γ a w hle hf hr hb)⟩
 · exact hg
theorem good_end {fn:Func} {R:Ending→World→Prop} {av:AV} (h:endOf P fn g=some av)
  (hR:∀ γ w v,Gm.le γ0 γ→VR γ av v→HR B P.globals.size γ g.s.h g.s.c w→Keep B w0 w→R (.returned v) w):Good P B w0 γ0 nt (bodyPostD P fn R) g:=by
 obtain ⟨k,⟨T,h',c,ds⟩⟩:=g
 unfold endOf at h
 simp only at h
 split at h
 · cases h
 refine ⟨fun γ a w hle hf hr hb=>?_⟩
 have key:aResults P fn T h'=some av→bodyPostD P fn R .normal a w:=by
  intro ha
  obtain ⟨v,h1,h2⟩:=aResults_ok hr hf.tmps ha
  have hd:a.defers=[]:=DR_nil hf.defs
  show Leaves P fn a.tmps R a.defers .returning w
  rw [hd]
  exact ⟨v,h2,hR γ w v hle h1 hr hb⟩
 split at h
 · exact key h
 · simp only [after,Exit.then]
   exact wp_ret (after_ret (key h))
 · cases h
def endV (P:Program) (fn:Func) (g:Cfg):Option Value:=match endOf P fn g with
 | none=>none
 | some av=>closeT av
theorem good_endV {fn:Func} {R:Ending→World→Prop} (r:Value) (h:endV P fn g=some r) (hR:∀ w,Keep B w0 w→R (.returned r) w):Good P B w0 γ0 nt (bodyPostD P fn R) g:=by
 unfold endV at h
 split at h
 · cases h
 rename_i av hav
 exact good_end hav (fun γ w v _ hv _ hk=>by rw [closeT_eq h hv];exact hR w hk)
def start (P:Program) (fn:Func) (args:List AV):Cfg:=⟨[.code (fn.body.getD .skip)],⟨putL .leaf 0 args,.leaf,P.globals.size,[]⟩⟩
theorem enter (hn:Fine P I) {f:FuncId} {fn:Func} (hf:P.funcs[f]?=some fn) (hb':fn.body.isSome=true) {args:List AV} {vs:List Value} (hl:∀ γ,LR γ args vs) (hle:Nat.ble args.length fn.ntmps=true) {w:World} {R:Ending→World→Prop}
  (hg:∀ γ0,(∀ b,P.globals.size≤b→γ0 b=none)→Good P (·<w.heap.size) w γ0 fn.ntmps (bodyPostD P fn R) (start P fn args)):Calls P f vs.toArray w R:=by
 obtain ⟨code,hb⟩:=Option.isSome_iff_exists.1 hb'
 have hle:args.length≤fn.ntmps:=Nat.le_of_ble_eq_true hle
 refine calls_of_wp_defers hf hb ?_
 obtain ⟨γ0,hγ0,hfr,hr⟩:∃ γ0:Gm,(∀ b,P.globals.size≤b→γ0 b=none)∧FR γ0 fn.ntmps (putL .leaf 0 args) [] { tmps:=vs.toArray++Array.replicate (fn.ntmps - vs.toArray.size) undef,defers:=[] }∧
   HR (·<w.heap.size) P.globals.size γ0 .leaf P.globals.size w:=by
  refine ⟨fun g=>if g<P.globals.size then some (g,0) else none,fun b hb=>?_,⟨?_,putL_TR (by simpa using hl _) _,trivial⟩,?_⟩
  · show (if b<P.globals.size then _ else _)=_;rw [if_neg (by omega)]
  · have:=(hl (fun _=>none)).1
    simp
    omega
  · exact ⟨fun b blk hb=>(by rw [Tr.get_leaf] at hb;cases hb),fun b b' blk blk' p p' hb=>(by rw [Tr.get_leaf] at hb;cases hb),fun b hb=>by show (if b<P.globals.size then _ else _)=_;rw [if_neg (by omega)],fun g hg=>⟨0,by show (if g<P.globals.size then _ else _)=_;rw [if_pos hg]⟩,fun k hk=>hk⟩
 have:=(hg γ0 hγ0).out γ0 _ w (Gm.le.refl _) hfr hr (Keep.refl _ _)
 simp only [after,start,hb,Option.getD_some] at this
 exact wp_mono this fun e a w h=>by cases e <;> exact h
mutual
def avLt (n:Nat):AV→Bool
 | .v _=>true
 | .ptr b _=>Nat.blt b n
 | .sl b _ _ _=>Nat.blt b n
 | .slg b _ _ _=>Nat.blt b n
 | .agg l=>avLtL n l
 | .tup l=>avLtL n l
 | .ifc _ a=>avLt n a
 | .fn _ l r=>match avLtL n l with
   | true=>avLtL n r
   | false=>false
 | .map b=>Nat.blt b n
def avLtL (n:Nat):List AV→Bool
 | []=>true
 | a::l=>match avLt n a with
   | true=>avLtL n l
   | false=>false
end
theorem avLtL_get {n:Nat}:∀ {l:List AV},avLtL n l=true→∀ (i:Nat) (a:AV),l[i]?=some a→avLt n a=true
 | [],_,i,a,hi=>by simp at hi
 | b::l,h,i,a,hi=>by
   simp only [avLtL] at h
   split at h
   · rename_i hb
     cases i with
     | zero=>simp at hi;subst hi;exact hb
     | succ i=>exact avLtL_get h i a (by simpa using hi)
   · cases h
def Gm.res (γ:Gm) (n:Nat):Gm:=fun b=>if b<n then γ b else none
theorem Gm.res_some {γ:Gm} {n b:Nat} {p:Nat×Nat} (h:γ b=some p) (hb:b<n):γ.res n b=some p:=by unfold Gm.res;rw [if_pos hb];exact h
theorem VR.res {γ:Gm} {n:Nat} {a:AV} {x:Value} (h:VR γ a x):avLt n a=true→VR (γ.res n) a x:=by
 induction h with
 | v x=>exact fun _ => .v x
 | ptr h=>exact fun hb => .ptr (Gm.res_some h (blt_lt hb))
 | sl h hl=>exact fun hb => .sl (Gm.res_some h (blt_lt hb)) hl
 | slg h hl hm ho=>exact fun hb => .slg (Gm.res_some h (blt_lt hb)) hl hm ho
 | agg hl _ ih=>exact fun hb => .agg hl (fun i a x h1 h2=>ih i a x h1 h2 (avLtL_get hb i a h1))
 | tup hl _ ih=>exact fun hb => .tup hl (fun i a x h1 h2=>ih i a x h1 h2 (avLtL_get hb i a h1))
 | ifc _ ih=>exact fun hb => .ifc (ih hb)
 | fn hl _ hl' _ ih ih'=>
   intro hb
   simp only [avLt] at hb
   split at hb
   · rename_i h1
     exact .fn hl (fun i a x h2 h3=>ih i a x h2 h3 (avLtL_get h1 i a h2)) hl' (fun i a x h2 h3=>ih' i a x h2 h3 (avLtL_get hb i a h2))
   · cases hb
 | map h=>exact fun hb => .map (Gm.res_some h (blt_lt hb))
def mkT:List (Nat×AV)→Tr AV
 | [] => .leaf
 | p::l=>(mkT l).put p.1 (some p.2)
def mkH:List (Nat×Option Blk)→Hp
 | [] => .leaf
 | p::l=>(mkH l).put p.1 p.2
theorem mkT_get:∀ {l:List (Nat×AV)} {t:Nat} {a:AV},(mkT l).get t=some a→(t,a)∈l
 | [],t,a,h=>by simp only [mkT] at h;rw [Tr.get_leaf] at h;cases h
 | p::l,t,a,h=>by
   simp only [mkT] at h
   rw [Tr.get_put] at h
   split at h
   · rename_i e;injection h with h;subst h e;simp
   · exact List.mem_cons_of_mem _ (mkT_get h)
theorem mkH_get:∀ {l:List (Nat×Option Blk)} {t:Nat} {a:Blk},(mkH l).get t=some a→(t,some a)∈l
 | [],t,a,h=>by simp only [mkH] at h;rw [Tr.get_leaf] at h;cases h
 | p::l,t,a,h=>by
   simp only [mkH] at h
   rw [Tr.get_put] at h
   split at h
   · rename_i e;subst e;rw [← h];simp
   · exact List.mem_cons_of_mem _ (mkH_get h)
def trAll {α:Type} (p:α→Bool):Tr α→Bool
 | .leaf=>true
 | .node x l r=>match (match x with | none=>true | some a=>p a) with
   | true=>match trAll p l with
     | true=>trAll p r
     | false=>false
   | false=>false
theorem trAll_get {α:Type} {p:α→Bool}:∀ {t:Tr α},trAll p t=true→∀ (k:Nat) (a:α),t.get k=some a→p a=true:=by
 intro t
 induction t with
 | leaf=>intro _ k a h;rw [Tr.get_leaf] at h;cases h
 | node x l r ihl ihr=>
   intro h k a hk
   rw [Tr.get_eq] at hk
   simp only [trAll] at h
   split at h <;> first | (cases h;done) | skip
   rename_i hx
   split at h <;> first | (cases h;done) | skip
   rename_i hl
   cases k with
   | zero=>simp only [Tr.get0] at hk;subst hk;exact hx
   | succ k=>
     simp only [Tr.get0] at hk
     split at hk
     · exact ihl hl _ a (by rw [Tr.get_eq];exact hk)
     · exact ihr h _ a (by rw [Tr.get_eq];exact hk)
def esLt (n:Nat):List (AV×AV×Nat)→Bool
 | []=>true
 | e::l=>match avLt n e.1,avLt n e.2.1 with
   | true,true=>esLt n l
   | _,_=>false
theorem esLt_get {n:Nat}:∀ {l:List (AV×AV×Nat)},esLt n l=true→∀ (i:Nat) (e:AV×AV×Nat),l[i]?=some e→avLt n e.1=true∧avLt n e.2.1=true
 | [],_,i,e,h=>by simp at h
 | x::l,h,i,e,hi=>by
   simp only [esLt] at h
   split at h <;> first | (cases h;done) | skip
   rename_i h1 h2
   cases i with
   | zero=>simp at hi;subst hi;exact ⟨h1,h2⟩
   | succ i=>exact esLt_get h i e (by simpa using hi)
def blkLt (n:Nat):Blk→Bool
 | .cells _ _ _ _ _ cs=>trAll (avLt n) cs
 | .map es _=>esLt n es
 | .row _ _=>true
theorem BR.res {γ:Gm} {n:Nat} {blk:Blk} {p:Nat×Nat} {w:World} (h:BR B γ blk p w) (hb:blkLt n blk=true):BR B (γ.res n) blk p w:=by
 cases blk with
 | cells ty own clean ex lim cs=>
   obtain ⟨h0,c,ty',fz,h1,h2,h3,h4⟩:=h
   exact ⟨h0,c,ty',fz,h1,h2,h3,fun i a hl hi=>let ⟨x,h5,h6⟩:=h4 i a hl hi;⟨x,h5,h6.res (trAll_get hb i a hi)⟩⟩
 | map es clock=>
   obtain ⟨h0,l,h1,h2,h3⟩:=h
   exact ⟨h0,l,h1,h2,fun i e m he hm=>let ⟨a,b,c⟩:=h3 i e m he hm;⟨a.res (esLt_get hb i e he).1,b.res (esLt_get hb i e he).2,c⟩⟩
 | row e xs=>exact h
def allLtT (n:Nat):List (Nat×AV)→Bool
 | []=>true
 | p::l=>match avLt n p.2 with
   | true=>allLtT n l
   | false=>false
def allLtH (n:Nat):List (Nat×Option Blk)→Bool
 | []=>true
 | p::l=>match Nat.blt p.1 n,(match p.2 with | none=>true | some b=>blkLt n b) with
   | true,true=>allLtH n l
   | _,_=>false
theorem allLtT_mem {n:Nat}:∀ {l:List (Nat×AV)},allLtT n l=true→∀ p∈l,avLt n p.2=true
 | [],_,p,h=>by simp at h
 | q::l,h,p,hp=>by
   simp only [allLtT] at h
   split at h <;> first | (cases h;done) | skip
   rename_i h1
   rcases List.mem_cons.1 hp with rfl | hp
   · exact h1
   · exact allLtT_mem h p hp
theorem allLtH_mem {n:Nat}:∀ {l:List (Nat×Option Blk)},allLtH n l=true→∀ t b,(t,some b)∈l→t<n∧blkLt n b=true
 | [],_,p,_,h=>by simp at h
 | q::l,h,t,b,hp=>by
   simp only [allLtH] at h
   split at h <;> first | (cases h;done) | skip
   rename_i h1 h2
   rcases List.mem_cons.1 hp with e | hp
   · subst e;exact ⟨blt_lt h1,h2⟩
   · exact allLtH_mem h t b hp
theorem map_all {α β:Type} {f:Nat×α→Option β} {q:Nat×α→Option β}:∀ {l:List (Nat×α)},l.map f=l.map q→∀ p∈l,f p=q p
 | [],_,p,h=>by simp at h
 | x::l,h,p,hp=>by
   simp only [List.map_cons,List.cons.injEq] at h
   rcases List.mem_cons.1 hp with rfl | hp
   · exact h.1
   · exact map_all h.2 p hp
theorem good_sub (K:List It) (lT:List (Nat×AV)) (lH:List (Nat×Option Blk)) (c2:Nat) (hk:g.k=K) (hds:g.s.ds=[])
  (hT:lT.map (fun p=>g.s.T.get p.1)=lT.map (fun p=>some p.2)) (hTl:allLtT c2 lT=true) (hH:lH.map (fun p=>g.s.h.get p.1)=lH.map (fun p=>p.2)) (hHl:allLtH c2 lH=true)
  (hγ:∀ b,c2≤b→γ0 b=none) (hG:Nat.ble P.globals.size c2=true) (hg:Good P B w0 γ0 nt Q ⟨K,⟨mkT lT,mkH lH,c2,[]⟩⟩):Good P B w0 γ0 nt Q g:=by
 subst hk
 obtain ⟨k,⟨T,h,c,ds⟩⟩:=g
 simp only at hds hT hH hg
 subst hds
 have hG:P.globals.size≤c2:=Nat.le_of_ble_eq_true hG
 refine ⟨fun γ a w hle hf hr hb=>?_⟩
 have hT':=map_all hT
 have hH':=map_all hH
 refine hg.out (γ.res c2) a w (fun b p hp=>?_) ⟨hf.size,fun t av ht=>?_,?_⟩ ⟨fun b blk hb'=>?_,fun b b' blk blk' p p' h1 h2 g1 g2 e=>?_,fun b hb'=>?_,fun x hx=>?_,hr.base⟩ hb
 · rcases Nat.lt_or_ge b c2 with hlt | hge
   · exact Gm.res_some (hle b p hp) hlt
   · rw [hγ b hge] at hp;cases hp
 · have hm:=mkT_get ht
   obtain ⟨v,h1,h2⟩:=hf.tmps t av (hT' _ hm)
   exact ⟨v,h1,h2.res (allLtT_mem hTl _ hm)⟩
 · have:=hf.defs
   revert this
   cases a.defers with
   | nil=>exact fun _=>trivial
   | cons d l=>exact fun h=>h.elim
 · have hm:=mkH_get hb'
   obtain ⟨h1,h2⟩:=allLtH_mem hHl _ _ hm
   obtain ⟨p,hp,hbr⟩:=hr.live b blk (hH' _ hm)
   exact ⟨p,Gm.res_some hp h1,hbr.res h2⟩
 · have m1:=mkH_get h1
   have m2:=mkH_get h2
   have k1:=(allLtH_mem hHl _ _ m1).1
   have k2:=(allLtH_mem hHl _ _ m2).1
   simp only [Gm.res,if_pos k1] at g1
   simp only [Gm.res,if_pos k2] at g2
   exact hr.inj _ _ _ _ _ _ (hH' _ m1) (hH' _ m2) g1 g2 e
 · show (if b<c2 then _ else _)=_
   have hb':c2≤b:=hb'
   rw [if_neg (by omega)]
 · obtain ⟨N,hN⟩:=hr.glob x hx
   exact ⟨N,Gm.res_some hN (by omega)⟩
end
end Go.Sy
end
end
section
noncomputable section
namespace Go.Sy
open Go Go.RowKit
def RowAt (e esz b n:Nat) (xs:List Value) (X:AV) (ob:Option Blk):Prop:=
 xs.length=n*esz∧((X = .v (.slice none 0 0)∧ob=none∧n=0)∨(X = .slg b 0 n esz∧ob=some (.row e xs)))
theorem RowAt.nil (e esz b:Nat):RowAt e esz b 0 [] (.v (.slice none 0 0)) none:=⟨by simp,.inl ⟨rfl,rfl,rfl⟩⟩
theorem RowAt.lt {e esz b n c:Nat} {xs:List Value} {X:AV} {ob:Option Blk} (h:RowAt e esz b n xs X ob) (hb:b<c):avLt c X=true:=by
 rcases h.2 with ⟨rfl,_⟩ | ⟨rfl,_⟩
 · rfl
 · exact Nat.ble_eq_true_of_le hb
mutual
def avNo (n:Nat):AV→Bool
 | .v _=>true
 | .ptr b _=>not (Nat.beq b n)
 | .sl b _ _ _=>not (Nat.beq b n)
 | .slg b _ _ _=>not (Nat.beq b n)
 | .agg l=>avNoL n l
 | .tup l=>avNoL n l
 | .ifc _ a=>avNo n a
 | .fn _ l r=>match avNoL n l with
   | true=>avNoL n r
   | false=>false
 | .map b=>not (Nat.beq b n)
def avNoL (n:Nat):List AV→Bool
 | []=>true
 | a::l=>match avNo n a with
   | true=>avNoL n l
   | false=>false
end
theorem avNoL_get {n:Nat}:∀ {l:List AV},avNoL n l=true→∀ (i:Nat) (a:AV),l[i]?=some a→avNo n a=true
 | [],_,i,a,hi=>by simp at hi
 | b::l,h,i,a,hi=>by
   simp only [avNoL] at h
   split at h
   · rename_i hb
     cases i with
     | zero=>simp at hi;subst hi;exact hb
     | succ i=>exact avNoL_get h i a (by simpa using hi)
   · cases h
theorem beq_no {b n:Nat} (h:(!(Nat.beq b n))=true):b≠n:=fun e=>by subst e;simp at h
theorem Gm.upd_ne {γ:Gm} {b c:Nat} {q p:Nat×Nat} (h:γ c=some p) (hne:c≠b):γ.upd b q c=some p:=by unfold Gm.upd;rw [if_neg hne];exact h
theorem VR.upd {γ:Gm} {b:Nat} {q:Nat×Nat} {a:AV} {x:Value} (h:VR γ a x):avNo b a=true→VR (γ.upd b q) a x:=by
 induction h with
 | v x=>exact fun _ => .v x
 | ptr h=>exact fun hb => .ptr (Gm.upd_ne h (beq_no hb))
 | sl h hl=>exact fun hb => .sl (Gm.upd_ne h (beq_no hb)) hl
 | slg h hl hm ho=>exact fun hb => .slg (Gm.upd_ne h (beq_no hb)) hl hm ho
 | agg hl _ ih=>exact fun hb => .agg hl (fun i a x h1 h2=>ih i a x h1 h2 (avNoL_get hb i a h1))
 | tup hl _ ih=>exact fun hb => .tup hl (fun i a x h1 h2=>ih i a x h1 h2 (avNoL_get hb i a h1))
 | ifc _ ih=>exact fun hb => .ifc (ih hb)
 | fn hl _ hl' _ ih ih'=>
   intro hb
   simp only [avNo] at hb
   split at hb
   · rename_i h1
     exact .fn hl (fun i a x h2 h3=>ih i a x h2 h3 (avNoL_get h1 i a h2)) hl' (fun i a x h2 h3=>ih' i a x h2 h3 (avNoL_get hb i a h2))
   · cases hb
 | map h=>exact fun hb => .map (Gm.upd_ne h (beq_no hb))
def esNo (n:Nat):List (AV×AV×Nat)→Bool
 | []=>true
 | e::l=>match avNo n e.1,avNo n e.2.1 with
   | true,true=>esNo n l
   | _,_=>false
theorem esNo_get {n:Nat}:∀ {l:List (AV×AV×Nat)},esNo n l=true→∀ (i:Nat) (e:AV×AV×Nat),l[i]?=some e→avNo n e.1=true∧avNo n e.2.1=true
 | [],_,i,e,h=>by simp at h
 | x::l,h,i,e,hi=>by
   simp only [esNo] at h
   split at h <;> first | (cases h;done) | skip
   rename_i h1 h2
   cases i with
   | zero=>simp at hi;subst hi;exact ⟨h1,h2⟩
   | succ i=>exact esNo_get h i e (by simpa using hi)
def blkNo (n:Nat):Blk→Bool
 | .cells _ _ _ _ _ cs=>trAll (avNo n) cs
 | .map es _=>esNo n es
 | .row _ _=>true
theorem BR.upd {B:Nat→Prop} {γ:Gm} {b:Nat} {q:Nat×Nat} {blk:Blk} {p:Nat×Nat} {w:World} (h:BR B γ blk p w) (hb:blkNo b blk=true):BR B (γ.upd b q) blk p w:=by
 cases blk with
 | cells ty own clean ex lim cs=>
   obtain ⟨h0,c,ty',fz,h1,h2,h3,h4⟩:=h
   exact ⟨h0,c,ty',fz,h1,h2,h3,fun i a hl hi=>let ⟨x,h5,h6⟩:=h4 i a hl hi;⟨x,h5,h6.upd (trAll_get hb i a hi)⟩⟩
 | map es clock=>
   obtain ⟨h0,l,h1,h2,h3⟩:=h
   exact ⟨h0,l,h1,h2,fun i e m he hm=>let ⟨a,b,c⟩:=h3 i e m he hm;⟨a.upd (esNo_get hb i e he).1,b.upd (esNo_get hb i e he).2,c⟩⟩
 | row e xs=>exact h
def eraseL:List Nat→Tr AV→Tr AV
 | [],T=>T
 | t::l,T=>(eraseL l T).put t none
theorem eraseL_get:∀ {l:List Nat} {T:Tr AV} {t:Nat} {a:AV},(eraseL l T).get t=some a→T.get t=some a
 | [],T,t,a,h=>h
 | x::l,T,t,a,h=>by
   simp only [eraseL] at h
   rw [Tr.get_put] at h
   split at h
   · cases h
   · exact eraseL_get h
def restK (g:Cfg):List It:=match g.k with
 | .ops arr (_::l)::k => .ops arr l::k
 | k=>k
def dstOf (g:Cfg):Option Nat:=match g.k with
 | .ops _ (o::_)::_=>o.dst
 | _=>none
def putD (d:Option Nat) (T:Tr AV) (av:AV):Tr AV:=match d with
 | none=>T
 | some d=>T.put d (some av)
def hdApp (P:Program) (nt:Nat) (g:Cfg):Option (List TypeId×AV×AV):=match hdOp P nt g with
 | none=>none
 | some o=>match o.op with
   | .call k=>match k.callee,k.args.toList with
     | .builtin .append,[s,x]=>match aev P g.s.T s,aev P g.s.T x with
       | some a,some b=>some (k.argTypes.toList,a,b)
       | _,_=>none
     | _,_=>none
   | _=>none
def srcOf (h:Hp) (esz:Nat) (x:AV):Option (Nat×List Value):=match aSource h esz x with
 | none=>none
 | some (m,l)=>match closeL l with
   | none=>none
   | some vs=>some (m,vs)
section
variable {P:Program} {I:Aux} {B:Nat→Prop} {w0:World} {γ0:Gm} {nt:Nat} {Q:Exit→Act→World→Prop} {g:Cfg}
theorem good_opA {o:Oper} (h:hdOp P nt g=some o)
  (H:∀ γ a w (K:Act→World→Prop) (QQ:Exit→Act→World→Prop),Gm.le γ0 γ→FR γ nt g.s.T g.s.ds a→HR B P.globals.size γ g.s.h g.s.c w→Keep B w0 w→dstOf g=o.dst→(∀ d,o.dst=some d→d<nt)→
   (∀ a' w',after P Q (restK g) .normal a' w'→K a' w')→o.wp P a w K QQ):Good P B w0 γ0 nt Q g:=by
 obtain ⟨k,s⟩:=g
 unfold hdOp at h
 simp only at h
 split at h <;> first | (cases h;done) | skip
 rename_i arr o' l k'
 split at h <;> first | (cases h;done) | skip
 rename_i hw
 have hoo:o'=o∧∀ d,o'.dst=some d→d<nt:=by
  split at h
  · rename_i hd
    injection h with h
    exact ⟨h,fun d e=>by rw [hd] at e;cases e⟩
  · rename_i d hd
    split at h <;> first | (cases h;done) | skip
    rename_i hlt
    injection h with h
    exact ⟨h,fun d' e=>by rw [hd] at e;injection e with e;subst e;exact blt_lt hlt⟩
 obtain ⟨rfl,hd⟩:=hoo
 refine ⟨fun γ a w hle hf hr hb=>?_⟩
 simp only [after,Exit.then,wpL]
 have hw':=awanted_ok (a:=a) (fun j want p t av _ _ _ ht=>hf.tmps t av ht) hw
 rw [if_pos hw']
 left
 exact H γ a w _ _ hle hf hr hb rfl hd (fun a' w' h=>h)
theorem good_opF {o:Oper} (h:hdOp P nt g=some o)
  (H:∀ γ a w (K:Act→World→Prop) (QQ:Exit→Act→World→Prop),Gm.le γ0 γ→FR γ nt g.s.T g.s.ds a→HR B P.globals.size γ g.s.h g.s.c w→Keep B w0 w→dstOf g=o.dst→(∀ d,o.dst=some d→d<nt)→
   (∀ γ' v w' T2 h' c',Gm.le γ0 γ'→FR γ' nt T2 g.s.ds (a.put o.dst v)→HR B P.globals.size γ' h' c' w'→Keep B w0 w'→Good P B w0 γ0 nt Q ⟨restK g,⟨T2,h',c',g.s.ds⟩⟩→K (a.put o.dst v) w')→
   o.wp P a w K QQ):Good P B w0 γ0 nt Q g:=
 good_opA h (fun γ a w K QQ hle hf hr hb hdst hd hK=>H γ a w K QQ hle hf hr hb hdst hd (fun γ' v w' T2 h' c' h1 h2 h3 h4 hg=>hK _ _ (hg.out γ' _ w' h1 h2 h3 h4)))
theorem callOf_ok {γ:Gm} {a:Act} {T:Tr AV} {o:Oper} {f:FuncId} {args:List AV} (hok:Ok P γ T a o.op.operands.toList) (h:callOf P T o=some (f,args)):
  ∃ vs,LR γ args vs∧∀ w,(execOp a.eval o).run P w=(callFunc f vs.toArray).run P w:=by
 unfold callOf at h
 split at h <;> first | (cases h;done) | skip
 rename_i k hop
 split at h <;> first | (cases h;done) | skip
 · rename_i x hce
   split at h <;> first | (cases h;done) | skip
   rename_i f' first cap l hx hl
   injection h with h
   injection h with e1 e2
   subst e1 e2
   have hmem:o.op.operands.toList=x::k.args.toList:=by rw [hop];simp [Op.operands,Call.operands,hce]
   have hxv:=hok x (by rw [hmem];simp) _ hx
   have hlv:=aevs_ok (a:=a) (fun y hy=>hok y (by rw [hmem];exact List.mem_cons_of_mem _ hy)) hl
   generalize hvx:a.eval x=vx at hxv
   cases hxv with
   | fn hl1 hh1 hl2 hh2=>
     rename_i vs ws
     have r1:LR γ first vs.toList:=⟨by simpa using hl1,fun i b y e1 e2=>hh1 i b y e1 (by simpa using e2)⟩
     have r2:LR γ cap ws.toList:=⟨by simpa using hl2,fun i b y e1 e2=>hh2 i b y e1 (by simpa using e2)⟩
     refine ⟨_,(r1.append hlv).append r2,fun w=>?_⟩
     unfold execOp
     rw [hop]
     simp only [resolve,hce,hvx,Deferred.ofValue,Sem.run_bind,Sem.run_pure,Result.andThen_ok,invoke]
     congr 2
     apply Array.ext'
     simp
 · rename_i x name hce
   split at h <;> first | (cases h;done) | skip
   rename_i t b l hx hl
   split at h <;> first | (cases h;done) | skip
   rename_i f' hf'
   injection h with h
   injection h with e1 e2
   subst e1 e2
   have hmem:o.op.operands.toList=x::k.args.toList:=by rw [hop];simp [Op.operands,Call.operands,hce]
   have hxv:=hok x (by rw [hmem];simp) _ hx
   have hlv:=aevs_ok (a:=a) (fun y hy=>hok y (by rw [hmem];exact List.mem_cons_of_mem _ hy)) hl
   generalize hvx:a.eval x=vx at hxv
   cases hxv with
   | ifc hxv=>
     rename_i vv
     refine ⟨vv::k.args.toList.map a.eval,LR.cons hxv hlv,fun w=>?_⟩
     unfold execOp
     rw [hop]
     simp only [resolve,hce,hvx,Sem.run_bind,Sem.run_pure,Result.andThen_ok,invoke]
     have hex:(#[Value.iface t vv]++k.args.map a.eval).extract 1 (#[Value.iface t vv]++k.args.map a.eval).size=k.args.map a.eval:=by
      apply Array.ext'
      simp
      exact List.take_of_length_le (by simp)
     have hget:(#[Value.iface t vv]++k.args.map a.eval)[0]?=some (.iface t vv):=by
      rw [Array.getElem?_append_left (by simp)]
      rfl
     rw [hget,hex]
     simp only [aMethod_ok hf']
     congr 2
     apply Array.ext'
     simp
theorem row_own {e esz b n:Nat} {xs:List Value} {X:AV} {ob:Option Blk} {γ:Gm} {h:Hp} {c G:Nat} {w:World} {x:Value} {base:Nat} (hrow:RowAt e esz b n xs X ob) (hob:h.get b=ob) (hr:HR B G γ h c w) (hv:VR γ X x) (hbase:∀ k,¬ B k→base≤k):
  w.ownsRow base e esz x n xs∧(∀ k,x.ownBlock=some k→¬ B k∧γ b=some (k,(γ b).getD (0,0) |>.2)):=by
 obtain ⟨hlen,⟨rfl,rfl,rfl⟩ | ⟨rfl,rfl⟩⟩:=hrow
 · cases hv
   exact ⟨⟨hlen,.inl ⟨rfl,rfl⟩⟩,fun k hk=>by simp [Value.ownBlock] at hk⟩
 · cases hv with
   | slg hbp hl hm ho=>
     rename_i n1 N o cap
     obtain ⟨rfl,ho2⟩:=ho (.inl rfl)
     obtain ⟨p,hp,hbr⟩:=hr.live b _ hob
     rw [hbp] at hp
     injection hp with hp
     subst hp
     obtain ⟨h0,cc,k1,k2,k3⟩:=hbr
     simp only at k1 k2 h0
     refine ⟨⟨hlen,.inr ⟨n1,cap,cc,rfl,hbase _ h0,k1,hl,hm,by omega,by rw [← hlen];exact k3⟩⟩,fun k hk=>?_⟩
     simp only [Value.ownBlock,Option.some.injEq] at hk
     subst hk
     exact ⟨h0,by rw [hbp];rfl⟩
theorem good_append {t e:Nat} {i:TypeInfo} {z:Value} {y:AV} {m:Nat} (esz b n:Nat) (xs:List Value) (X:AV) (ob:Option Blk) (news:List Value) (E:List Nat)
  (h:hdApp P nt g=some ([t,t],X,y)) (hu:P.underlying t=some (.slice e)) (hi:P.info? e=some i) (hz:i.zero=some z) (hzs:z.cells.size=i.size) (hes:i.size=esz) (hpos:0<esz)
  (hrow:RowAt e esz b n xs X ob) (hob:g.s.h.get b=ob) (hsrc:srcOf g.s.h esz y=some (m+1,news)) (hone:news.all (fun v=>v.oneCell')=true) (h63:n+(m+1)≤maxLen) (hby:(n+(m+1))*i.bytes≤140737488355328)
  (hγb:γ0 b=none) (hbc:Nat.blt b g.s.c=true) (hGb:Nat.ble P.globals.size b=true) (hds:g.s.ds=[]) (hE:trAll (avNo b) (eraseL E g.s.T)=true) (hH:trAll (blkNo b) (g.s.h.put b none)=true)
  (hg:∀ X' ob',RowAt e esz b (n+(m+1)) (xs++news) X' ob'→Good P B w0 γ0 nt Q ⟨restK g,⟨putD (dstOf g) (eraseL E g.s.T) X',g.s.h.put b ob',g.s.c,[]⟩⟩):Good P B w0 γ0 nt Q g:=by
 have hbc:=blt_lt hbc
 have hGb:P.globals.size≤b:=Nat.le_of_ble_eq_true hGb
 unfold hdApp at h
 split at h
 · cases h
 rename_i o ho
 split at h <;> first | (cases h;done) | skip
 rename_i k hop
 split at h <;> first | (cases h;done) | skip
 rename_i s x hce hargs
 split at h <;> first | (cases h;done) | skip
 rename_i aS aX hs hx
 injection h with h
 injection h with e1 h
 injection h with e2 e3
 subst e2 e3
 have hargs':k.args=#[s,x]:=by apply Array.ext';simpa using hargs
 have hts:k.argTypes=#[t,t]:=by apply Array.ext';simpa using e1
 have hop':o.op = .call { callee := .builtin .append,args:=#[s,x],argTypes:=#[t,t] }:=by rw [hop,← hce,← hargs',← hts]
 refine good_opF ho (fun γ a w K QQ hle hf hr hb hdst hdlt hK=>?_)
 have hok:=hf.ok (P:=P) (B:=B) (G:=0) hr.glob o.op.operands.toList
 have hmem:o.op.operands.toList=[s,x]:=by rw [hop'];simp [Op.operands,Call.operands]
 have hs':=hok s (by simp [hmem]) _ hs
 have hx':=hok x (by simp [hmem]) _ hx
 obtain ⟨hown,hoB⟩:=row_own (base:=0) hrow hob hr hs' (fun k _=>Nat.zero_le _)
 unfold srcOf at hsrc
 split at hsrc
 · cases hsrc
 rename_i m' l hsr
 split at hsrc <;> first | (cases hsrc;done) | skip
 rename_i vs' hcl
 injection hsrc with hsrc
 injection hsrc with e4 e5
 subst e4 e5
 obtain ⟨A,kk,news',⟨hxe,hl,hln,hA⟩ | ⟨_,_,hm0,_⟩⟩:=aSource_ok hr hx' hsr
 case inr=>omega
 have hnn:=closeL_eq hcl hl
 subst hnn
 have hpos':0<(m+1)*esz:=Nat.mul_pos (by omega) hpos
 obtain ⟨ad,rfl,hcell⟩:=hA hpos'
 obtain ⟨v',w',hrun,hown',hgr,_,hsame⟩:=run_append_own_at (P:=P) w 0 t o.type e i z esz i.bytes hu hi hz hes rfl (hzs.trans hes) hpos (a.eval s) n xs hown ad (m+1) kk news' hln hcell (fun u hu=>List.all_eq_true.1 hone u hu) h63 hby (Nat.zero_le _)
 have hopr:(execOp a.eval o).run P w = .ok (.value v') w':=by
  unfold execOp
  simp only [hop',resolve,invoke,builtin,Sem.run_bind,Sem.run_pure,Result.andThen_ok,List.map_toArray,List.map_cons,List.map_nil,hxe,hrun]
 rcases hown'.2 with ⟨_,h0⟩ | ⟨gg,cap,cur,rfl,_,hheap,hnc,hcm,hcs,htake⟩
 · omega
 have hBg:¬ B gg:=by
  have hsame':some gg=(a.eval s).ownBlock∨some gg=some w.heap.size:=hsame
  rcases hsame' with h5 | h5
  · exact (hoB gg h5.symm).1
  · injection h5 with h5;rw [h5];exact hr.new
 have hbd:∀ b1 blk p,b1≠b→g.s.h.get b1=some blk→γ b1=some p→w'.heap[p.1]?=w.heap[p.1]?∧p.1≠gg:=by
  intro b1 blk p hne h1 h2
  obtain ⟨q,hq,hbr⟩:=hr.live b1 _ h1
  obtain rfl:q=p:=by rw [hq] at h2;injection h2
  have hno:∀ j,(a.eval s).ownBlock=some j→q.1≠j:=by
   intro j hj e
   obtain ⟨_,hγ⟩:=hoB j hj
   have hobs:∃ blk2,g.s.h.get b=some blk2:=by
    rcases hrow.2 with ⟨hX,_,_⟩ | ⟨_,hob2⟩
    · subst hX
      generalize hvs:a.eval s=vS at hs' hj
      cases hs'
      simp [Value.ownBlock] at hj
    · exact ⟨_,hob.trans hob2⟩
   obtain ⟨blk2,hblk2⟩:=hobs
   exact hne (hr.inj _ _ _ _ _ _ h1 hblk2 hq hγ e)
  refine ⟨hgr.block _ hbr.lt (fun e=>hno _ e.symm rfl),fun e=>?_⟩
  have hsame':some gg=(a.eval s).ownBlock∨some gg=some w.heap.size:=hsame
  rcases hsame' with h5 | h5
  · exact hno gg h5.symm e
  · injection h5 with h5
    have:=hbr.lt
    omega
 have hrow':RowAt e esz b (n+(m+1)) (xs++news') (.slg b 0 (n+(m+1)) esz) (some (.row e (xs++news'))):=⟨hown'.1,.inr ⟨rfl,rfl⟩⟩
 have hupd:∀ {b1:Nat} {p:Nat×Nat},b1≠b→γ b1=some p→(γ.upd b (gg,cap*esz)) b1=some p:=fun hne h1=>Gm.upd_ne h1 hne
 refine wp_val hopr (hK (γ.upd b (gg,cap*esz)) _ w' (putD (dstOf g) (eraseL E g.s.T) (.slg b 0 (n+(m+1)) esz)) (g.s.h.put b (some (.row e (xs++news')))) g.s.c (fun b1 p hp=>?_) ⟨?_,?_,?_⟩ ⟨fun b1 blk hb1=>?_,fun b1 b2 blk1 blk2 p1 p2 h1 h2 g1 g2 e=>?_,fun b1 hb1=>?_,fun x hx=>?_,fun k hk=>Nat.lt_of_lt_of_le (hr.base k hk) hgr.size⟩
  (hb.grown hgr hr.base (fun k hk=>(hoB k hk).1)) (by have:=hg _ _ hrow';rw [hds];exact this))
 · refine hupd (fun e=>?_) (hle b1 p hp)
   subst e
   rw [hγb] at hp
   cases hp
 · have:=hf.size
   cases o.dst with
   | none=>exact this
   | some d=>simp [Act.put,this]
 · intro t' av ht
   have hold:∀ {t'':Nat} {av':AV},(eraseL E g.s.T).get t''=some av'→(∀ d,o.dst=some d→t''≠d)→∃ v,(a.put o.dst (.slice (some ⟨gg,0,none⟩) (n+(m+1)) cap)).tmps[t'']?=some v∧VR (γ.upd b (gg,cap*esz)) av' v:=by
    intro t'' av' h1 hne
    obtain ⟨v,h2,h3⟩:=hf.tmps t'' av' (eraseL_get h1)
    refine ⟨v,?_,h3.upd (trAll_get hE t'' av' h1)⟩
    cases hd:o.dst with
    | none=>simpa [Act.put,hd] using h2
    | some d=>simp only [Act.put,hd];rw [Array.getElem?_setIfInBounds_ne (fun e=>hne d hd e.symm)];exact h2
   rw [hdst] at ht
   cases hd:o.dst with
   | none=>
     rw [hd] at ht hold
     exact hold ht (fun d e=>by cases e)
   | some d=>
     rw [hd] at ht hold
     simp only [putD] at ht
     rw [Tr.get_put] at ht
     split at ht
     · rename_i e
       subst e
       injection ht with ht
       subst ht
       refine ⟨_,?_,.slg (Gm.upd_same _ _ _) hnc hcm (fun _=>⟨rfl,by simp⟩)⟩
       simp [Act.put,hf.size,hdlt _ hd]
     · rename_i hne
       exact hold ht (fun d' e=>by injection e with e;subst e;exact hne)
 · have:=hf.defs
   rw [hds] at this ⊢
   have h2:(a.put o.dst (.slice (some ⟨gg,0,none⟩) (n+(m+1)) cap)).defers=a.defers:=by cases o.dst <;> rfl
   rw [h2]
   revert this
   cases a.defers with
   | nil=>exact fun _=>trivial
   | cons d l=>exact fun h=>h.elim
 · rw [Tr.get_put] at hb1
   split at hb1
   · rename_i e
     subst e
     injection hb1 with hb1
     subst hb1
     refine ⟨_,Gm.upd_same _ _ _,hBg,cur,hheap,hcs,?_⟩
     rw [hown'.1]
     exact htake
   · rename_i hne
     obtain ⟨p,hp,hbr⟩:=hr.live b1 blk hb1
     refine ⟨p,hupd hne hp,(hbr.upd ?_).kept (hbd b1 blk p hne hb1 hp).1⟩
     exact trAll_get hH b1 blk (by rw [Tr.get_put,if_neg hne];exact hb1)
 · rw [Tr.get_put] at h1 h2
   split at h1 <;> split at h2
   · rename_i e1 e2;exact e1.trans e2.symm
   · rename_i e1 e2
     subst e1
     rw [Gm.upd_same] at g1
     injection g1 with g1
     subst g1
     obtain ⟨q,hq,_⟩:=hr.live b2 _ h2
     have:q=p2:=by have:=hupd e2 hq;rw [this] at g2;injection g2
     subst this
     exact absurd e.symm (hbd b2 blk2 q e2 h2 hq).2
   · rename_i e1 e2
     subst e2
     rw [Gm.upd_same] at g2
     injection g2 with g2
     subst g2
     obtain ⟨q,hq,_⟩:=hr.live b1 _ h1
     have:q=p1:=by have:=hupd e1 hq;rw [this] at g1;injection g1
     subst this
     exact absurd e (hbd b1 blk1 q e1 h1 hq).2
   · rename_i e1 e2
     obtain ⟨q,hq,_⟩:=hr.live b1 _ h1
     obtain ⟨q',hq',_⟩:=hr.live b2 _ h2
     have k1:q=p1:=by have:=hupd e1 hq;rw [this] at g1;injection g1
     have k2:q'=p2:=by have:=hupd e2 hq';rw [this] at g2;injection g2
     subst k1 k2
     exact hr.inj _ _ _ _ _ _ h1 h2 hq hq' e
 · unfold Gm.upd
   have hb1:g.s.c≤b1:=hb1
   rw [if_neg (by omega)]
   exact hr.fresh b1 hb1
 · obtain ⟨N,hN⟩:=hr.glob x hx
   exact ⟨N,hupd (by omega) hN⟩
def infoOf (P:Program) (e:TypeId):Option (Nat×Nat):=match P.info? e with
 | some i=>match i.zero with
   | some z=>match Nat.beq z.cells.size i.size with
     | true=>some (i.size,i.bytes)
     | false=>none
   | none=>none
 | none=>none
def elemOf (P:Program) (t:TypeId):Option TypeId:=match P.underlying t with
 | some (.slice e)=>some e
 | _=>none
theorem good_app {t e:Nat} (y:AV) (esz bytes b n m:Nat) (xs:List Value) (X:AV) (ob:Option Blk) (news:List Value) (E:List Nat)
  (h:hdApp P nt g=some ([t,t],X,y)) (hu:elemOf P t=some e) (hi:infoOf P e=some (esz,bytes)) (hpos:Nat.blt 0 esz=true)
  (hrow:RowAt e esz b n xs X ob) (hob:g.s.h.get b=ob) (hsrc:srcOf g.s.h esz y=some (m+1,news)) (hone:news.all (fun v=>v.oneCell')=true) (h63:n+(m+1)≤maxLen) (hby:(n+(m+1))*bytes≤140737488355328)
  (hγb:γ0 b=none) (hbc:Nat.blt b g.s.c=true) (hGb:Nat.ble P.globals.size b=true) (hds:g.s.ds=[]) (hE:trAll (avNo b) (eraseL E g.s.T)=true) (hH:trAll (blkNo b) (g.s.h.put b none)=true)
  (hg:∀ X' ob',RowAt e esz b (n+(m+1)) (xs++news) X' ob'→Good P B w0 γ0 nt Q ⟨restK g,⟨putD (dstOf g) (eraseL E g.s.T) X',g.s.h.put b ob',g.s.c,[]⟩⟩):Good P B w0 γ0 nt Q g:=by
 unfold elemOf at hu
 split at hu <;> first | (cases hu;done) | skip
 rename_i e' hu'
 injection hu with hu
 subst hu
 unfold infoOf at hi
 split at hi <;> first | (cases hi;done) | skip
 rename_i i hi'
 split at hi <;> first | (cases hi;done) | skip
 rename_i z hz
 split at hi <;> first | (cases hi;done) | skip
 rename_i hzs
 injection hi with hi
 injection hi with e1 e2
 subst e1 e2
 exact good_append i.size b n xs X ob news E h hu' hi' hz (Nat.eq_of_beq_eq_true hzs) rfl (blt_lt hpos) hrow hob hsrc hone h63 hby hγb hbc hGb hds hE hH hg
theorem good_callM (cx:Cx P I B w0) {f:FuncId} (xs:List Value) {Pr:World→Value→World→Prop} (h:hdCall P nt g=some (f,xs.map norm)) (hbod:bodied P f=some true) (hx:closeLL (xs.map norm)=some xs)
  (hc:∀ w,Keep B w0 w→Calls P f xs.toArray w fun e w'=>∃ r,e = .returned r∧Pr w r w'∧Below w.heap.size w w')
  (hg:∀ w r w' B',Keep B w0 w→Pr w r w'→Below w.heap.size w w'→Keep B w0 w'→(∀ k,B k→B' k)→(∀ k,w.heap.size≤k→k<w'.heap.size→B' k)→(∀ k,B' k→k<w'.heap.size)→Good P B' w' γ0 nt Q (nx0 g (norm r))):Good P B w0 γ0 nt Q g:=by
 unfold hdCall at h
 split at h
 · cases h
 rename_i o ho
 refine good_opA ho (fun γ a w K QQ hle hf hr hb hdst hdlt hK=>?_)
 have hok:=hf.ok (P:=P) (B:=B) (G:=0) hr.glob o.op.operands.toList
 obtain ⟨fn,code,hfn,hbd⟩:=bodied_true hbod
 obtain ⟨vs,hl,hrun⟩:=callOf_ok hok h
 obtain rfl:=closeLL_eq hx hl
 unfold Oper.wp
 rw [hrun,enter_ok cx.hn hfn hbd]
 refine (hc w hb).mono fun e w' hR=>?_
 obtain ⟨r,rfl,h1,h2⟩:=hR
 have hk:=hb.trans (Keep.of_below h2 hr.base)
 have hr':=hr.kept h2.size h2.block
 refine hK _ _ ?_
 have hlt:∀ {b blk k N},g.s.h.get b=some blk→γ b=some (k,N)→k<w.heap.size:=by
  intro b blk k N hb1 hγ
  obtain ⟨p,hp,hbr⟩:=hr.live b blk hb1
  rw [hγ] at hp
  injection hp with hp
  subst hp
  exact hbr.lt
 have hg':=hg w r w' (fun k=>B k∨(k<w'.heap.size∧∀ b blk N,g.s.h.get b=some blk→γ b≠some (k,N))) hb h1 h2 hk (fun k => .inl)
  (fun k h3 h4 => .inr ⟨h4,fun b blk N hb1 hγ=>by have:=hlt hb1 hγ;omega⟩)
  (fun k hkk=>hkk.elim (fun h3=>hr'.base k h3) (fun h3=>h3.1))
 have hB:∀ b blk p,g.s.h.get b=some blk→γ b=some p→¬ B p.1→¬ (B p.1∨(p.1<w'.heap.size∧∀ b blk N,g.s.h.get b=some blk→γ b≠some (p.1,N))):=by
  intro b blk p hb1 hγ hnB hor
  rcases hor with h3 | h3
  · exact hnB h3
  · exact h3.2 b blk p.2 hb1 hγ
 have key1:FR γ nt (nx0 g (norm r)).s.T (nx0 g (norm r)).s.ds (a.put o.dst r):=by
  have hf':=hf.put (dst:=o.dst) (av:=norm r) (v:=r) (T':=putD o.dst g.s.T (norm r)) (Gm.le.refl γ) (norm_VR r) (by
   unfold tput putD
   cases hd:o.dst with
   | none=>rfl
   | some d=>
     have:Nat.blt d nt=true:=Nat.ble_eq_true_of_le (hdlt d hd)
     simp only [this])
  have e:(nx0 g (norm r)).s.T=putD o.dst g.s.T (norm r)∧(nx0 g (norm r)).s.ds=g.s.ds:=by
   rw [← hdst]
   obtain ⟨k,s⟩:=g
   unfold nx0 nx dstOf putD
   unfold hdOp at ho
   simp only at ho
   split at ho <;> first | (cases ho;done) | skip
   exact ⟨rfl,rfl⟩
  rw [e.1,e.2]
  exact hf'
 have key2:HR (fun k=>B k∨(k<w'.heap.size∧∀ b blk N,g.s.h.get b=some blk→γ b≠some (k,N))) P.globals.size γ (nx0 g (norm r)).s.h (nx0 g (norm r)).s.c w':=by
  have e:(nx0 g (norm r)).s.h=g.s.h∧(nx0 g (norm r)).s.c=g.s.c:=by
   obtain ⟨k,s⟩:=g
   unfold nx0 nx
   unfold hdOp at ho
   simp only at ho
   split at ho <;> first | (cases ho;done) | skip
   exact ⟨rfl,rfl⟩
  rw [e.1,e.2]
  refine ⟨fun b blk hb1=>?_,hr'.inj,hr'.fresh,hr'.glob,fun k hkk=>hkk.elim (fun h3=>hr'.base k h3) (fun h3=>h3.1)⟩
  obtain ⟨p,hp,hbr⟩:=hr'.live b blk hb1
  refine ⟨p,hp,?_⟩
  have hBp:=hB b blk p hb1 hp
  cases blk with
  | cells ty own clean ex lim cs=>
    obtain ⟨h0,h5⟩:=hbr
    exact ⟨fun ho=>hBp (h0 ho),h5⟩
  | map es clock=>
    obtain ⟨h0,h5⟩:=hbr
    exact ⟨hBp h0,h5⟩
  | row e xs=>
    obtain ⟨h0,h5⟩:=hbr
    exact ⟨hBp h0,h5⟩
 have hfin:=hg'.out γ (a.put o.dst r) w' hle key1 key2 (Keep.refl _ _)
 have e:(nx0 g (norm r)).k=restK g:=by
  obtain ⟨k,s⟩:=g
  unfold nx0 nx restK
  unfold hdOp at ho
  simp only at ho
  split at ho <;> first | (cases ho;done) | skip
  rfl
 rw [e] at hfin
 exact hfin
theorem good_loopI {ι:Type} (μ:ι→Nat) (Inv:ι→Prop) (st:ι→St) (i0:ι) (h0:Inv i0) (hlp:isLp g=true) (hin:Good P B w0 γ0 nt Q ⟨g.k,st i0⟩→Good P B w0 γ0 nt Q g)
  (step:∀ i,Inv i→(∀ j,Inv j→μ j<μ i→Good P B w0 γ0 nt Q ⟨g.k,st j⟩)→Good P B w0 γ0 nt Q (rnd ⟨g.k,st i⟩)):Good P B w0 γ0 nt Q g:=by
 have hl:∀ i,isLp ⟨g.k,st i⟩=true:=fun i=>hlp
 have key:∀ n i,μ i=n→Inv i→Good P B w0 γ0 nt Q ⟨g.k,st i⟩:=by
  intro n
  induction n using Nat.strongRecOn with
  | _ n ih=>
    intro i hi hI
    exact good_loop (hl i) (step i hI (fun j hj hlt=>ih (μ j) (hi ▸ hlt) j rfl hj))
 exact hin (key _ i0 rfl h0)
theorem good_loopB {ι:Type} (μ:ι→Nat) (Inv:ι→(Nat→Prop)→World→Prop) (st:ι→St) (i0:ι) (h0:Inv i0 B w0) (hlp:isLp g=true) (hin:Good P B w0 γ0 nt Q ⟨g.k,st i0⟩→Good P B w0 γ0 nt Q g)
  (step:∀ i B w0,Inv i B w0→(∀ j B' w',Inv j B' w'→μ j<μ i→Good P B' w' γ0 nt Q ⟨g.k,st j⟩)→Good P B w0 γ0 nt Q (rnd ⟨g.k,st i⟩)):Good P B w0 γ0 nt Q g:=by
 have hl:∀ i,isLp ⟨g.k,st i⟩=true:=fun i=>hlp
 have key:∀ n i B' w',μ i=n→Inv i B' w'→Good P B' w' γ0 nt Q ⟨g.k,st i⟩:=by
  intro n
  induction n using Nat.strongRecOn with
  | _ n ih=>
    intro i B' w' hi hI
    exact good_loop (hl i) (step i B' w' hI (fun j B2 w2 hj hlt=>ih (μ j) (hi ▸ hlt) j B2 w2 rfl hj))
 exact hin (key _ i0 B w0 rfl h0)
end
end Go.Sy
end
end
