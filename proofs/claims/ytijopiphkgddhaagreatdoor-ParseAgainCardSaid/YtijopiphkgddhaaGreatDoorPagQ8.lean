/- Texts of this proof, one behind the other. Conditions: those in each theorem. -/
import Derived.Test.YtijopiphkgddhaaGreatDoorPagQ1
import Derived.Test.YtijopiphkgddhaaGreatDoorPagQ7
import Derived.Scope
import Derived.Test.YtijopiphkgddhaaGreatDoorPagQ2
import Derived.Deep.Quiet
set_option linter.unusedVariables false
set_option linter.unusedSimpArgs false
section
noncomputable section
namespace Go.Sy
open Go Go.RowKit
def rT (P:Program) (T:Tr AV) (h:Hp):List ResultVar→Option (List AV)
 | []=>some []
 | .tmp t::l=>match T.get t with
   | none=>none
   | some a=>match rT P T h l with
     | none=>none
     | some r=>some (a::r)
 | .cell t ty::l=>match T.get t with
   | some (.ptr b off)=>match lA P ty (.ptr b off) h with
     | none=>none
     | some a=>match rT P T h l with
       | none=>none
       | some r=>some (a::r)
   | _=>none
def jX (P:Program) (fn:Func) (T:Tr AV) (h:Hp):Option AV:=match rT P T h fn.results.toList with
 | none=>none
 | some [a]=>some a
 | some l=>some (.tup l)
def aDd (tmps:Array Value):ResultVar→Sem Value
 | .tmp t=>pure (tmps.getD t undef)
 | .cell a t=>do loadVar t (← asAddr (tmps.getD a undef))
theorem aBi {P:Program} {B:Nat→Prop} {G:Nat} {γ:Gm} {T:Tr AV} {h:Hp} {c:Nat} {w:World} {tmps:Array Value} (hr:HR B G γ h c w) (ht:TR γ T tmps):∀ {l:List ResultVar} {r:List AV},rT P T h l=some r→
  ∃ vs,LR γ r vs∧(l.mapM (aDd tmps)).run P w = .ok vs w
 | [],r,hh=>by simp [rT] at hh;subst hh;exact ⟨[],LR.nil,rfl⟩
 | .tmp t::l,r,hh=>by
   simp only [rT] at hh
   split at hh
   · cases hh
   rename_i a ha
   split at hh
   · cases hh
   rename_i r' hr'
   injection hh with hh
   subst hh
   obtain ⟨v,h1,h2⟩:=ht t a ha
   obtain ⟨vs,h3,h4⟩:=aBi hr ht hr'
   refine ⟨v::vs,LR.cons h2 h3,?_⟩
   have h0:(aDd tmps (.tmp t)).run P w = .ok v w:=by simp only [aDd,yS h1,Sem.run_pure]
   rw [List.mapM_cons]
   simp only [Sem.run_bind,Sem.run_pure,Result.andThen_ok,h0,h4]
 | .cell t ty::l,r,hh=>by
   simp only [rT] at hh
   split at hh <;> first | (cases hh;done) | skip
   rename_i b off ha
   split at hh
   · cases hh
   rename_i av hav
   split at hh
   · cases hh
   rename_i r' hr'
   injection hh with hh
   subst hh
   obtain ⟨v,h1,h2⟩:=ht t _ ha
   obtain ⟨vs,h3,h4⟩:=aBi hr ht hr'
   obtain ⟨x,h5,h6⟩:=nQ hr h2 hav
   refine ⟨x::vs,LR.cons h5 h3,?_⟩
   have h0:(aDd tmps (.cell t ty)).run P w = .ok x w:=by
    cases h2 with
    | ptr hb=>
      simp only [Instr.loadAt,Instr.sureAddr,Sem.run_bind,Sem.run_pure,Result.andThen_ok] at h6
      simp only [aDd,Sem.run_bind,Sem.run_pure,Result.andThen_ok,yS h1,asAddr,h6]
   rw [List.mapM_cons]
   simp only [Sem.run_bind,Sem.run_pure,Result.andThen_ok,h0,h4]
theorem oH {P:Program} {B:Nat→Prop} {G:Nat} {γ:Gm} {fn:Func} {T:Tr AV} {h:Hp} {c:Nat} {w:World} {tmps:Array Value} {av:AV} (hr:HR B G γ h c w) (ht:TR γ T tmps) (hh:jX P fn T h=some av):
  ∃ v,VR γ av v∧(results fn tmps).run P w = .ok v w:=by
 unfold jX at hh
 have key:∀ {r:List AV},rT P T h fn.results.toList=some r→∃ vs:List Value,LR γ r vs∧(results fn tmps).run P w = .ok (if h:vs.toArray.size=1 then vs.toArray[0] else .tuple vs.toArray) w:=by
  intro r hr'
  obtain ⟨vs,h1,h2⟩:=aBi hr ht hr'
  refine ⟨vs,h1,?_⟩
  have e:results fn tmps=(do let vs ← fn.results.mapM (aDd tmps);pure (if h:vs.size=1 then vs[0] else .tuple vs)):=by
   unfold results
   congr 2
  rw [e,Array.mapM_eq_mapM_toList,Sem.run_bind,Sem.run_map,h2]
  rfl
 split at hh
 · cases hh
 · rename_i a ha
   injection hh with hh
   subst hh
   obtain ⟨vs,h1,h2⟩:=key ha
   have hl:=h1.1
   match vs,hl with
   | [x],_=>exact ⟨x,h1.2 0 _ x rfl rfl,by rw [h2];rfl⟩
 · rename_i l hnl ha
   injection hh with hh
   subst hh
   obtain ⟨vs,h1,h2⟩:=key ha
   have hl:=h1.1
   refine ⟨.tuple vs.toArray,VR.tupL h1,?_⟩
   rw [h2,dif_neg]
   intro he
   simp at he
   match l,hl.trans he with
   | [x],_=>exact hnl x rfl
abbrev IH:=Code→Nat→St→R2
inductive AMode where
 | ret
 | pan (v:AV)
 | recd (v:AV)
def MR (γ:Gm):AMode→FrameMode→Prop
 | .ret,u=>u = .returning
 | .pan a,u=>∃ v,VR γ a v∧u = .panicking [{ v,recovered:=false }]
 | .recd a,u=>∃ v,VR γ a v∧u = .panicking [{ v,recovered:=true }]
def aKa:AMode→AMode
 | .recd _ => .ret
 | m=>m
def aEd (ops:Array Oper):Option (Option Tmp):=match ops.toList with
 | [o]=>match o.guard,o.op with
   | none,.call k=>match k.callee,k.args.toList with
     | .builtin .recover,[]=>some o.dst
     | _,_=>none
   | _,_=>none
 | _=>none
def vW:AMode→Option (AV×AMode)
 | .pan v=>some (v,.recd v)
 | .ret=>some (.v .nilIface,.ret)
 | .recd _=>none
def yQ (P:Program) (fn:Func) (m:AMode):R2→Option (AMode×Hp×Nat)
 | .ok .normal ⟨T,h,c,[]⟩=>match jX P fn T h with
   | some _=>some (m,h,c)
   | none=>none
 | .ok .ret ⟨T,h,c,[]⟩=>match jX P fn T h with
   | some _=>some (m,h,c)
   | none=>none
 | _=>none
def sV (code:Code):Option (Option Tmp×Code):=match code with
 | .seq (.region _ ops false) y=>match aEd ops with
   | some dst=>some (dst,y)
   | none=>none
 | _=>none
def xQ (P:Program) (ih:IH) (d:ADef) (m:AMode) (h:Hp) (c:Nat):Option (AMode×Hp×Nat):=match P.funcs[d.f]? with
 | none=>none
 | some fn=>match fn.body with
   | none=>none
   | some code=>match Nat.ble (d.args++d.cap).length fn.ntmps with
     | false=>none
     | true=>match sV code with
       | some (dst,y)=>match vW m with
         | none=>none
         | some (v,m')=>match dK fn.ntmps (d6 .leaf 0 (d.args++d.cap)) dst v with
           | none=>none
           | some T=>yQ P fn m' (ih y fn.ntmps ⟨T,h,c,[]⟩)
       | none=>yQ P fn m (ih code fn.ntmps ⟨d6 .leaf 0 (d.args++d.cap),h,c,[]⟩)
def iF (P:Program) (ih:IH) (fn:Func) (T:Tr AV):List ADef→AMode→Hp→Nat→R1
 | [],.ret,h,c=>match jX P fn T h with
   | some av => .val av h c
   | none => .fail
 | [],.pan v,h,c => .pan v h c
 | [],.recd _,_,_ => .fail
 | d::ds,m,h,c=>match xQ P ih d m h c with
   | some (m',h',c')=>iF P ih fn T ds (aKa m') h' c'
   | none => .fail
def aCt (P:Program) (ih:IH):dH:=fun f args h c=>match P.funcs[f]? with
 | none => .fail
 | some fn=>match fn.body with
   | none => .fail
   | some code=>match Nat.ble args.length fn.ntmps with
     | false => .fail
     | true=>match ih code fn.ntmps ⟨d6 .leaf 0 args,h,c,[]⟩ with
       | .ok .normal s=>iF P ih fn s.T s.ds .ret s.h s.c
       | .ok .ret s=>iF P ih fn s.T s.ds .ret s.h s.c
       | .ok (.pan av) s=>iF P ih fn s.T s.ds (.pan av) s.h s.c
       | _ => .fail
def jE (P:Program) (I:Aux) (ih:IH):dH:=fun f args h c=>match I.K f args with
 | some av => .val av h c
 | none=>aCt P ih f args h c
def nO (P:Program) (I:Aux) (ih:IH):IH:=fun code nt s=>match code with
 | .skip => .ok .normal s
 | .region _ ops draw=>match draw with
   | false=>qA P I (jE P I ih) nt ops ops.toList s.T s.h s.c s.ds
   | true=>nW P I (jE P I ih) nt ops s
 | .seq x y=>match ih x nt s with
   | .ok .normal s'=>ih y nt s'
   | r=>r
 | .cond c x y=>match aev P s.T c with
   | some (.v (.bool true))=>ih x nt s
   | some (.v (.bool false))=>ih y nt s
   | _ => .fail
 | .block id x=>match ih x nt s with
   | .ok (.exit j) s'=>match Nat.beq j id with
     | true => .ok .normal s'
     | false => .ok (.exit j) s'
   | r=>r
 | .loop x=>match ih x nt s with
   | .ok .normal s'=>ih (.loop x) nt s'
   | r=>r
 | .exit id => .ok (.exit id) s
 | .label _ => .ok .normal s
 | .scope x=>ih x nt s
 | .ret => .ok .ret s
 | _ => .fail
def aT2 (code:Code):Program→Aux→IH→Nat→St→R2:=by
 induction code
 case skip=>exact fun P I ih nt s => .ok .normal s
 case region _ ops draw=>
  induction draw
  · exact fun P I ih nt s=>qA P I (jE P I ih) nt ops ops.toList s.T s.h s.c s.ds
  · exact fun P I ih nt s=>nW P I (jE P I ih) nt ops s
 case seq x y _ _=>exact fun P I ih nt s=>match ih x nt s with
  | .ok .normal s'=>ih y nt s'
  | r=>r
 case cond c x y _ _=>exact fun P I ih nt s=>match aev P s.T c with
  | some (.v (.bool true))=>ih x nt s
  | some (.v (.bool false))=>ih y nt s
  | _ => .fail
 case block id x _=>exact fun P I ih nt s=>match ih x nt s with
  | .ok (.exit j) s'=>match Nat.beq j id with
    | true => .ok .normal s'
    | false => .ok (.exit j) s'
  | r=>r
 case loop x _=>exact fun P I ih nt s=>match ih x nt s with
  | .ok .normal s'=>ih (.loop x) nt s'
  | r=>r
 case exit id=>exact fun P I ih nt s => .ok (.exit id) s
 case label _=>exact fun P I ih nt s => .ok .normal s
 case scope x _=>exact fun P I ih nt s=>ih x nt s
 case ret=>exact fun P I ih nt s => .ok .ret s
 all_goals exact fun _ _ _ _ _ => .fail
def aGv (P:Program) (I:Aux) (ih:IH):IH:=fun code nt s=>aT2 code P I ih nt s
theorem aMs (P:Program) (I:Aux) (ih:IH):aGv P I ih=nO P I ih:=by
 funext code nt s
 cases code <;> first | rfl | (rename_i d;cases d <;> rfl)
noncomputable def ev (P:Program) (I:Aux) (n:Nat):IH:=Nat.rec (motive:=fun _=>IH) (fun _ _ _ => .fail) (fun _ ih=>aGv P I ih) n
def nD (P:Program) (c:Code) (Q:Exit→Act→World→Prop) (a:Act) (w:World):Prop:=
 ∀ (b:Frame) (k:List Item) (cs:List Frame),∃ e a' w',Q e a' w'∧Arrives P (lone (b.at a (.code c :: .inLoop c::k)) cs w) b k cs e a' w'
theorem aKp {P:Program} {c:Code} {Q:Exit→Act→World→Prop} {a:Act} {w:World} (h:nD P c Q a w):(Code.loop c).wp P Q a w:=by
 intro b k cs
 obtain ⟨e,a',w',hq,harr⟩:=h b k cs
 exact ⟨e,a',w',hq,.of_steps (.one step_loop) harr⟩
theorem zU {P:Program} {c:Code} {Q:Exit→Act→World→Prop} {a:Act} {w:World} (h:c.wp P (Exit.then (nD P c Q) Q) a w):nD P c Q a w:=by
 intro b k cs
 obtain ⟨e,a₁,w₁,hq,harr⟩:=h b (.inLoop c::k) cs
 cases e with
 | normal=>
   obtain ⟨e₂,a₂,w₂,hq₂,harr₂⟩:=hq b k cs
   exact ⟨e₂,a₂,w₂,hq₂,.of_steps (Steps.trans harr (.one step_inLoop)) harr₂⟩
 | exit id=>exact ⟨_,a₁,w₁,hq,.pass (x := .inLoop c) rfl (fun _ _ => .inl (by simp)) harr⟩
 | goto l=>exact ⟨_,a₁,w₁,hq,.pass (x := .inLoop c) rfl (fun _ _ => .inl (by simp)) harr⟩
 | ret=>exact ⟨_,a₁,w₁,hq,.pass (x := .inLoop c) rfl (fun _ _ => .inl (by simp)) harr⟩
 | panic ch=>exact ⟨_,a₁,w₁,hq,.pass (x := .inLoop c) rfl (fun _ _ => .inl (by simp)) harr⟩
 | outgrown=>exact ⟨_,a₁,w₁,hq,.pass (x := .inLoop c) rfl (fun _ _ => .inl (by simp)) harr⟩
section
variable {P:Program} {B:Nat→Prop} {w0:World} {I:Aux}
def aAe (P:Program) (B:Nat→Prop) (w0:World) (ih:IH):Prop:=
 (∀ (code:Code) (nt:Nat) (s:St) (γ:Gm) (a:Act) (w:World) (Q:Exit→Act→World→Prop),FR γ nt s.T s.ds a→HR B P.globals.size γ s.h s.c w→Keep B w0 w→KOk2 B P.globals.size γ w0 nt Q (ih code nt s)→code.wp P Q a w)∧
 (∀ (code:Code) (nt:Nat) (s:St) (γ:Gm) (a:Act) (w:World) (Q:Exit→Act→World→Prop),FR γ nt s.T s.ds a→HR B P.globals.size γ s.h s.c w→Keep B w0 w→KOk2 B P.globals.size γ w0 nt Q (ih (.loop code) nt s)→nD P code Q a w)
theorem iB {fn:Func} {tmps:Array Value} {R R':Ending→World→Prop} (hR:∀ e w,R e w→R' e w):∀ {ds:List Deferred} {u:FrameMode} {w:World},Leaves P fn tmps R ds u w→Leaves P fn tmps R' ds u w
 | [],.returning,w,h=>let ⟨v,h1,h2⟩:=h;⟨v,h1,hR _ _ h2⟩
 | [],.panicking ch,w,h=>hR _ _ h
 | [],.run,w,h=>h.elim
 | d::ds,u,w,h=>by
   obtain ⟨hu,fv,cap,f,args,h1,h2,h3⟩:=h
   refine ⟨hu,fv,cap,f,args,h1,h2,h3.mono (fun e u' w' hh=>?_)⟩
   cases e with
   | returned v=>exact iB hR hh
   | panicked ch=>exact iB hR hh
   | outgrown=>exact hR _ _ hh
theorem KOk2.le {G:Nat} {γ γ':Gm} {nt:Nat} {Q:Exit→Act→World→Prop} {r:R2} (hle:Gm.le γ γ') (h:KOk2 B G γ w0 nt Q r):KOk2 B G γ' w0 nt Q r:=by
 cases r with
 | fail=>exact h
 | ok e s=>exact fun γ'' e' a' w'' k1=>h γ'' e' a' w'' (hle.trans k1)
theorem yN {γ:Gm} {aS:List AV} {vs:Array Value} (h:LR γ aS vs.toList) (n:Nat):TR γ (d6 .leaf 0 aS) (vs++Array.replicate n undef):=by
 intro t av ht
 rw [f0] at ht
 split at ht
 · rename_i hin
   obtain ⟨x,h1,h2⟩:=h.get ht
   have hl:=h.1
   simp at hl
   refine ⟨x,?_,h2⟩
   rw [Array.getElem?_append_left (by omega)]
   simpa using h1
 · cases ht
theorem MR.mono {γ γ':Gm} (hle:Gm.le γ γ') {m:AMode} {u:FrameMode} (h:MR γ m u):MR γ' m u:=by
 cases m with
 | ret=>exact h
 | pan a=>obtain ⟨v,h1,h2⟩:=h;exact ⟨v,h1.mono hle,h2⟩
 | recd a=>obtain ⟨v,h1,h2⟩:=h;exact ⟨v,h1.mono hle,h2⟩
theorem Ret.le {G:Nat} {γ0 γ:Gm} (hle:Gm.le γ0 γ) {r:R1} {e:Ending} {w:World} (h:Ret B G γ w0 r e w):Ret B G γ0 w0 r e w:=by
 cases r with
 | fail=>exact h
 | val av h' c'=>obtain ⟨γ',v,h1,h2,h3⟩:=h;exact ⟨γ',v,h1,hle.trans h2,h3⟩
 | pan av h' c'=>obtain ⟨γ',v,h1,h2,h3⟩:=h;exact ⟨γ',v,h1,hle.trans h2,h3⟩
theorem aN8 {γ:Gm} {m:AMode} {u:FrameMode} (h:MR γ m u):MR γ (aKa m) (settle u):=by
 cases m with
 | ret=>simp only [MR] at h;subst h;rfl
 | pan a=>obtain ⟨v,h1,rfl⟩:=h;exact ⟨v,h1,rfl⟩
 | recd a=>obtain ⟨v,h1,rfl⟩:=h;rfl
theorem nA (hn:Fine P I) {f:FuncId} {fn:Func} {code:Code} (hf:P.funcs[f]?=some fn) (hb:fn.body=some code) (args:Array Value) (w:World):(callFunc f args).run P w = .ok (.enter f args) w:=by
 have h3:fn.name ≠ "runtime.NumGoroutine" := by simpa using hn.names f fn hf (by rw [hb];rfl)
 simp [callFunc,hf,hb,h3]
theorem tC {γ':Gm} {l:List Deferred} (h:DR γ' [] l):l=[]:=by
 cases l with
 | nil=>rfl
 | cons d l=>exact h.elim
def p9 (P:Program) (B:Nat→Prop) (γ:Gm) (w0:World) (m:AMode) (h:Hp) (c:Nat):Ending→FrameMode→World→Prop
 | .returned _,u,w=>∃ γ',Gm.le γ γ'∧MR γ' m u∧HR B P.globals.size γ' h c w∧Keep B w0 w
 | _,_,_=>False
theorem aCr {fn:Func} {m m':AMode} {r:R2} {h:Hp} {c:Nat} (hh:yQ P fn m r=some (m',h,c)):m'=m∧∃ T e av,r = .ok e ⟨T,h,c,[]⟩∧(e = .normal∨e = .ret)∧jX P fn T h=some av:=by
 unfold yQ at hh
 split at hh <;> first | (cases hh;done) | skip
 · rename_i T h' c'
   split at hh <;> first | (cases hh;done) | skip
   rename_i av hav
   injection hh with hh
   injection hh with e1 hh
   injection hh with e2 e3
   subst e1 e2 e3
   exact ⟨rfl,T,_,av,rfl,.inl rfl,hav⟩
 · rename_i T h' c'
   split at hh <;> first | (cases hh;done) | skip
   rename_i av hav
   injection hh with hh
   injection hh with e1 hh
   injection hh with e2 e3
   subst e1 e2 e3
   exact ⟨rfl,T,_,av,rfl,.inr rfl,hav⟩
theorem aDs {code:Code} {dst:Option Tmp} {y:Code} (h:sV code=some (dst,y)):∃ id o k,code = .seq (.region id #[o] false) y∧o.dst=dst∧o.guard=none∧o.op = .call k∧k.callee = .builtin .recover∧k.args=#[]:=by
 unfold sV at h
 split at h <;> first | (cases h;done) | skip
 rename_i id ops y'
 split at h <;> first | (cases h;done) | skip
 rename_i dst' hr
 injection h with h
 injection h with e1 e2
 subst e1 e2
 unfold aEd at hr
 split at hr <;> first | (cases hr;done) | skip
 rename_i o hops
 split at hr <;> first | (cases hr;done) | skip
 rename_i k hg hop
 split at hr <;> first | (cases hr;done) | skip
 rename_i hce hca
 injection hr with hr
 have e1:ops=#[o]:=by apply Array.ext';simpa using hops
 have e2:k.args=#[]:=by apply Array.ext';simpa using hca
 subst e1
 exact ⟨id,o,k,rfl,hr,hg,hop,hce,e2⟩
theorem aHh {ih:IH} (hih:aAe P B w0 ih) {d:ADef} {dd:Deferred} {m m':AMode} {u:FrameMode} {h h':Hp} {c c':Nat} {γ:Gm} {w:World} (hd:DefR γ d dd) (hm:MR γ m u) (hr:HR B P.globals.size γ h c w) (hb:Keep B w0 w)
  (hh:xQ P ih d m h c=some (m',h',c')):∃ fn code vs ws,P.funcs[d.f]?=some fn∧fn.body=some code∧dd={ target := .fn (.func d.f) ws,args:=vs }∧CallsD P d.f (vs++ws) u w (p9 P B γ w0 m' h' c'):=by
 obtain ⟨vs,ws,hdd,hl1,hl2⟩:=hd
 unfold xQ at hh
 split at hh
 · cases hh
 rename_i fn hf
 split at hh
 · cases hh
 rename_i code hbd
 split at hh
 · cases hh
 rename_i hle
 have hle:(d.args++d.cap).length≤fn.ntmps:=aN hle
 refine ⟨fn,code,vs,ws,hf,hbd,hdd,?_⟩
 have hl:LR γ (d.args++d.cap) (vs++ws).toList:=by simpa using hl1.append hl2
 have hlv:=hl.1
 have hfr:FR γ fn.ntmps (d6 .leaf 0 (d.args++d.cap)) [] { tmps:=(vs++ws)++Array.replicate (fn.ntmps - (vs++ws).size) undef,defers:=[] }:=
  ⟨by simp at hlv hle ⊢;omega,yN hl _,trivial⟩
 split at hh
 · rename_i dst y hhr
   split at hh
   · cases hh
   rename_i v m1 hrec
   split at hh
   · cases hh
   rename_i T hT
   obtain ⟨rfl,Te,e,av,hres,hee,hav⟩:=aCr hh
   obtain ⟨id,o,k,rfl,rfl,hg,hop,hce,hca⟩:=aDs hhr
   refine callsD_of_wpS hf hbd (fun c₀ cs hu=>wpS_seq (wpS_region ?_))
   have hex:(execOp ({ tmps:=(vs++ws)++Array.replicate (fn.ntmps - (vs++ws).size) undef,defers:=[] }:Act).eval o).run P w = .ok .recover w:=by
    unfold execOp
    rw [hop]
    simp only [resolve,hce,hca,Sem.run_bind,Sem.run_pure,Result.andThen_ok,invoke,builtin]
   have hwant:Region.wanted o (yielded #[o] ({ tmps:=(vs++ws)++Array.replicate (fn.ntmps - (vs++ws).size) undef,defers:=[] }:Act).tmps)=true:=by
    unfold Region.wanted
    rw [hg]
   obtain ⟨v',u',hv',hm',hrun⟩:∃ v' u',VR γ v v'∧MR γ m' u'∧∀ (K:Act→List Frame→World→Prop) (a:Act),K (a.put o.dst v') ({ c₀ with mode:=u' }::cs) w→(match recoverD (c₀::cs) with
     | some (x,cs')=>K (a.put o.dst x) cs' w
     | none=>K (a.put o.dst .nilIface) (c₀::cs) w):=by
    cases m with
    | ret=>
      simp only [vW,Option.some.injEq,Prod.mk.injEq] at hrec
      obtain ⟨rfl,rfl⟩:=hrec
      simp only [MR] at hm
      subst hm
      refine ⟨.nilIface,.returning,.v _,rfl,fun K a hK=>?_⟩
      have:recoverD (c₀::cs)=none:=by simp [recoverD,hu]
      rw [this]
      have e:({ c₀ with mode := .returning }:Frame)=c₀:=by rw [← hu]
      rw [e] at hK
      exact hK
    | pan a0=>
      simp only [vW,Option.some.injEq,Prod.mk.injEq] at hrec
      obtain ⟨rfl,rfl⟩:=hrec
      obtain ⟨x,hx,rfl⟩:=hm
      refine ⟨x,.panicking [{ v:=x,recovered:=true }],hx,⟨x,hx,rfl⟩,fun K a hK=>?_⟩
      have:recoverD (c₀::cs)=some (x,{ c₀ with mode := .panicking [{ v:=x,recovered:=true }] }::cs):=by simp [recoverD,hu]
      rw [this]
      exact hK
    | recd a0=>simp [vW] at hrec
   have hgoal:wpOpsS P #[o] (Exit.thenS (y.wpS P (bodyPostS P fn c₀ cs (p9 P B γ w0 m' h' c'))) (bodyPostS P fn c₀ cs (p9 P B γ w0 m' h' c'))) [0]
     { tmps:=(vs++ws)++Array.replicate (fn.ntmps - (vs++ws).size) undef,defers:=[] } (c₀::cs) w:=by
    simp only [wpOpsS]
    have ho:(#[o]:Array Oper)[0]?=some o:=rfl
    simp only [ho,hwant,if_true,hex]
    have hK:=hrun (fun a cs' w'=>Exit.thenS (y.wpS P (bodyPostS P fn c₀ cs (p9 P B γ w0 m' h' c'))) (bodyPostS P fn c₀ cs (p9 P B γ w0 m' h' c')) .normal a cs' w')
     { tmps:=(vs++ws)++Array.replicate (fn.ntmps - (vs++ws).size) undef,defers:=[] } (wpS_of_wp ?_)
    · revert hK
      cases recoverD (c₀::cs) with
      | none=>exact fun hq=>hq
      | some x=>exact fun hq=>hq
    · refine hih.1 y fn.ntmps ⟨T,h,c,[]⟩ γ _ w _ (hfr.put (Gm.le.refl _) hv' hT) hr hb ?_
      rw [hres]
      intro γ' e' a' w' h1 h2 h3 h4 h5
      obtain ⟨rv,hrv,hrr⟩:=oH h4 h3.tmps hav
      rcases hee with rfl | rfl
      · cases e' <;> first | exact h2.elim | skip
        exact ⟨tC h3.defs,u',rfl,rv,hrr,γ',h1,hm'.mono h1,h4,h5⟩
      · cases e' <;> first | exact h2.elim | skip
        exact ⟨tC h3.defs,u',rfl,rv,hrr,γ',h1,hm'.mono h1,h4,h5⟩
   exact hgoal
 · obtain ⟨rfl,Te,e,av,hres,hee,hav⟩:=aCr hh
   refine (callsD_of_wp (R:=fun e w'=>p9 P B γ w0 m' h' c' e u w') hf hbd (hih.1 code fn.ntmps ⟨d6 .leaf 0 (d.args++d.cap),h,c,[]⟩ γ _ w _ hfr hr hb ?_)).mono (fun e u' w' hR=>by
    obtain ⟨rfl,hR⟩:=hR
    exact hR)
   rw [hres]
   intro γ' e' a' w' h1 h2 h3 h4 h5
   obtain ⟨rv,hrv,hrr⟩:=oH h4 h3.tmps hav
   rcases hee with rfl | rfl
   · cases e' <;> first | exact h2.elim | skip
     exact ⟨tC h3.defs,rv,hrr,γ',h1,hm.mono h1,h4,h5⟩
   · cases e' <;> first | exact h2.elim | skip
     exact ⟨tC h3.defs,rv,hrr,γ',h1,hm.mono h1,h4,h5⟩
theorem kW (hn:Fine P I) {ih:IH} (hih:aAe P B w0 ih) {fn:Func} {T:Tr AV} {tmps:Array Value}:∀ {ds:List ADef} {dl:List Deferred} {m:AMode} {u:FrameMode} {h:Hp} {c:Nat} {γ:Gm} {w:World},DR γ ds dl→MR γ m u→TR γ T tmps→
  HR B P.globals.size γ h c w→Keep B w0 w→iF P ih fn T ds m h c ≠ .fail→Leaves P fn tmps (Ret B P.globals.size γ w0 (iF P ih fn T ds m h c)) dl u w
 | [],[],m,u,h,c,γ,w,hd,hm,ht,hr,hb,hne=>by
   cases m with
   | ret=>
     simp only [MR] at hm
     subst hm
     simp only [iF] at hne ⊢
     split at hne
     · rename_i av hav
       obtain ⟨v,h1,h2⟩:=oH hr ht hav
       exact ⟨v,h2,γ,v,rfl,Gm.le.refl _,h1,hr,hb⟩
     · exact (hne rfl).elim
   | pan a=>
     obtain ⟨v,h1,rfl⟩:=hm
     exact ⟨γ,v,rfl,Gm.le.refl _,h1,hr,hb⟩
   | recd a=>exact (hne rfl).elim
 | d::ds,dd::dl,m,u,h,c,γ,w,hd,hm,ht,hr,hb,hne=>by
   simp only [iF] at hne ⊢
   split at hne
   · rename_i m' h' c' hdc
     obtain ⟨fn',code,vs,ws,hf,hbd,hdd,hcall⟩:=aHh hih hd.1 hm hr hb hdc
     subst hdd
     refine leaves_cons ?_ ?_ ((hcall).mono (fun e u' w' hR=>?_))
     · cases m with
       | ret=>simp only [MR] at hm;subst hm;simp
       | pan a=>obtain ⟨v,_,rfl⟩:=hm;simp
       | recd a=>obtain ⟨v,_,rfl⟩:=hm;simp
     · simp only [invoke]
       exact nA hn hf hbd _ w
     · cases e with
       | returned v=>
         obtain ⟨γ',h1,h2,h3,h4⟩:=hR
         have:=kW hn hih (hd.2.mono h1) (aN8 h2) (ht.mono h1) h3 h4 hne
         exact iB (fun e w hR=>hR.le h1) this
       | panicked ch=>exact hR.elim
       | outgrown=>exact hR.elim
   · exact (hne rfl).elim
 | [],_::_,_,_,_,_,_,_,hd,_,_,_,_,_=>hd.elim
 | _::_,[],_,_,_,_,_,_,hd,_,_,_,_,_=>hd.elim
theorem aOp (hn:Fine P I) {ih:IH} (hih:aAe P B w0 ih):iJ P B P.globals.size w0 (aCt P ih):=by
 intro f fn code args h c γ w vs hf hbd hr hb hl hne
 refine calls_of_wp_defers hf hbd ?_
 have hcall:aCt P ih f args h c=(match Nat.ble args.length fn.ntmps with
   | false => .fail
   | true=>match ih code fn.ntmps ⟨d6 .leaf 0 args,h,c,[]⟩ with
     | .ok .normal s=>iF P ih fn s.T s.ds .ret s.h s.c
     | .ok .ret s=>iF P ih fn s.T s.ds .ret s.h s.c
     | .ok (.pan av) s=>iF P ih fn s.T s.ds (.pan av) s.h s.c
     | _ => .fail):=by
  unfold aCt
  simp only [hf,hbd]
 rw [hcall] at hne ⊢
 clear hcall
 split at hne
 · exact (hne rfl).elim
 rename_i hle
 have hle:args.length≤fn.ntmps:=aN hle
 have hlv:=hl.1
 have hfr:FR γ fn.ntmps (d6 .leaf 0 args) [] { tmps:=vs.toArray++Array.replicate (fn.ntmps - vs.toArray.size) undef,defers:=[] }:=
  ⟨by simp;omega,yN (by simpa using hl) _,trivial⟩
 refine hih.1 code fn.ntmps ⟨d6 .leaf 0 args,h,c,[]⟩ γ _ w _ hfr hr hb ?_
 split at hne
 · rename_i s hres
   rw [hres]
   intro γ' e' a w' h1 h2 h3 h4 h5
   cases e' <;> first | exact h2.elim | skip
   exact iB (fun e w hR=>hR.le h1) (kW (m := .ret) hn hih h3.defs rfl h3.tmps h4 h5 hne)
 · rename_i s hres
   rw [hres]
   intro γ' e' a w' h1 h2 h3 h4 h5
   cases e' <;> first | exact h2.elim | skip
   exact iB (fun e w hR=>hR.le h1) (kW (m := .ret) hn hih h3.defs rfl h3.tmps h4 h5 hne)
 · rename_i av s hres
   rw [hres]
   intro γ' e' a w' h1 h2 h3 h4 h5
   cases e' <;> first | exact h2.elim | skip
   obtain ⟨v,h6,h7⟩:=h2
   subst h7
   exact iB (fun e w hR=>hR.le h1) (kW (m := .pan av) hn hih h3.defs ⟨v,h6,rfl⟩ h3.tmps h4 h5 hne)
 · exact (hne rfl).elim
theorem yE (hn:Fine P I) (hW:∀ w,Keep B w0 w→I.W w) {ih:IH} (hih:aAe P B w0 ih):iJ P B P.globals.size w0 (jE P I ih):=by
 intro f fn code args h c γ w vs hf hbd hr hb hl hne
 have hbody:=aOp hn hih f fn code args h c γ w vs hf hbd hr hb hl
 unfold jE at hne ⊢
 split at hne
 · rename_i av hk
   have hWw:I.W w:=hW w hb
   refine (hn.known f args av hk γ vs w hl hWw).mono fun e w' hR=>?_
   obtain ⟨v,rfl,h1,h2⟩:=hR
   refine ⟨γ,v,rfl,Gm.le.refl _,h1,hr.kept h2.size h2.block,hb.trans (Keep.of_below h2 hr.base)⟩
 · exact hbody hne
theorem aM4 (hm:P.follows .mixedOrders=true) (hn:Fine P I) (hW:∀ w,Keep B w0 w→I.W w) {ih:IH} (hih:aAe P B w0 ih):aAe P B w0 (aGv P I ih):=by
 rw [aMs]
 have hcall:=yE (I:=I) hn hW hih
 have hloop:∀ (code:Code) (nt:Nat) (s:St) (γ:Gm) (a:Act) (w:World) (Q:Exit→Act→World→Prop),FR γ nt s.T s.ds a→HR B P.globals.size γ s.h s.c w→Keep B w0 w→KOk2 B P.globals.size γ w0 nt Q (nO P I ih (.loop code) nt s)→nD P code Q a w:=by
  intro code nt s γ a w Q hf hr hb hk
  refine zU (hih.1 code nt s γ a w _ hf hr hb ?_)
  simp only [nO] at hk
  cases hc:ih code nt s with
  | fail=>rw [hc] at hk;exact hk
  | ok e s'=>
    rw [hc] at hk
    intro γ' e' a' w' h1 h2 h3 h4 h5
    cases e with
    | normal=>
      cases e' <;> first | exact h2.elim | skip
      exact hih.2 code nt s' γ' a' w' Q h3 h4 h5 (hk.le h1)
    | exit id=>
      cases e' <;> first | exact h2.elim | skip
      exact hk γ' _ a' w' h1 h2 h3 h4 h5
    | ret=>
      cases e' <;> first | exact h2.elim | skip
      exact hk γ' _ a' w' h1 h2 h3 h4 h5
    | pan av=>
      cases e' <;> first | exact h2.elim | skip
      exact hk γ' _ a' w' h1 h2 h3 h4 h5
 refine ⟨fun code nt s γ a w Q hf hr hb hk=>?_,hloop⟩
 cases code with
 | skip=>exact wp_skip (hk γ .normal a w (Gm.le.refl _) trivial hf hr hb)
 | region id ops draw=>
   cases draw with
   | false=>
     refine wp_region ?_
     have:=pQ (Q:=Q) hn hcall ops.toList 0 s.T s.h s.c s.ds γ a w (fun j o hj=>by rw [bH];simpa using hj) hf hr hb hk
     rw [List.range_eq_range']
     simpa using this
   | true=>exact zX hm hn hcall hf hr hb hk
 | seq x y=>
   refine wp_seq (hih.1 x nt s γ a w _ hf hr hb ?_)
   simp only [nO] at hk
   cases hc:ih x nt s with
   | fail=>rw [hc] at hk;exact hk
   | ok e s'=>
     rw [hc] at hk
     intro γ' e' a' w' h1 h2 h3 h4 h5
     cases e with
     | normal=>
       cases e' <;> first | exact h2.elim | skip
       exact hih.1 y nt s' γ' a' w' Q h3 h4 h5 (hk.le h1)
     | exit id=>
       cases e' <;> first | exact h2.elim | skip
       exact hk γ' _ a' w' h1 h2 h3 h4 h5
     | ret=>
       cases e' <;> first | exact h2.elim | skip
       exact hk γ' _ a' w' h1 h2 h3 h4 h5
     | pan av=>
       cases e' <;> first | exact h2.elim | skip
       exact hk γ' _ a' w' h1 h2 h3 h4 h5
 | cond c x y=>
   simp only [nO] at hk
   split at hk <;> first | exact hk.elim | skip
   all_goals
    rename_i hc
    have hcv:=hf.ok (P:=P) (B:=B) (G:=0) hr.glob [c] c (by simp) _ hc
    generalize hvc:a.eval c=vc at hcv
    cases hcv
   · exact wp_cond_true hvc (hih.1 x nt s γ a w Q hf hr hb hk)
   · exact wp_cond_false hvc (hih.1 y nt s γ a w Q hf hr hb hk)
 | block id x=>
   refine wp_block (hih.1 x nt s γ a w _ hf hr hb ?_)
   simp only [nO] at hk
   cases hc:ih x nt s with
   | fail=>rw [hc] at hk;exact hk
   | ok e s'=>
     rw [hc] at hk
     intro γ' e' a' w' h1 h2 h3 h4 h5
     cases e with
     | normal=>
       cases e' <;> first | exact h2.elim | skip
       exact hk γ' _ a' w' h1 h2 h3 h4 h5
     | exit j=>
       cases e' <;> first | exact h2.elim | skip
       rename_i j'
       have hj:j=j':=h2
       subst hj
       simp only at hk
       split at hk
       · rename_i hji
         have hji:=aV hji
         simp only [Exit.inBlock,hji,if_true]
         exact hk γ' .normal a' w' h1 trivial h3 h4 h5
       · rename_i hji
         have hji:=Nat.ne_of_beq_eq_false hji
         simp only [Exit.inBlock,if_neg hji]
         exact hk γ' (.exit j) a' w' h1 rfl h3 h4 h5
     | ret=>
       cases e' <;> first | exact h2.elim | skip
       exact hk γ' _ a' w' h1 h2 h3 h4 h5
     | pan av=>
       cases e' <;> first | exact h2.elim | skip
       exact hk γ' _ a' w' h1 h2 h3 h4 h5
 | loop x=>exact aKp (hloop x nt s γ a w Q hf hr hb hk)
 | exit id=>exact wp_exit (hk γ (.exit id) a w (Gm.le.refl _) rfl hf hr hb)
 | label l=>exact wp_label (hk γ .normal a w (Gm.le.refl _) trivial hf hr hb)
 | ret=>exact wp_ret (hk γ .ret a w (Gm.le.refl _) trivial hf hr hb)
 | rangeFunc f ps aS b=>exact hk.elim
 | scope x=>
   refine wp_scope_straight (hih.1 x nt s γ a w _ hf hr hb ?_)
   simp only [nO] at hk
   cases hc:ih x nt s with
   | fail=>rw [hc] at hk;exact hk
   | ok e s'=>
     rw [hc] at hk
     intro γ' e' a' w' h1 h2 h3 h4 h5
     cases e with
     | normal=>
       cases e' <;> first | exact h2.elim | skip
       exact hk γ' _ a' w' h1 h2 h3 h4 h5
     | exit id=>
       cases e' <;> first | exact h2.elim | skip
       exact hk γ' _ a' w' h1 h2 h3 h4 h5
     | ret=>
       cases e' <;> first | exact h2.elim | skip
       exact hk γ' _ a' w' h1 h2 h3 h4 h5
     | pan av=>
       cases e' <;> first | exact h2.elim | skip
       exact hk γ' _ a' w' h1 h2 h3 h4 h5
 | goto l=>exact hk.elim
 | refuse y=>exact hk.elim
theorem aBs (hm:P.follows .mixedOrders=true) (hn:Fine P I) (hW:∀ w,Keep B w0 w→I.W w):∀ n,aAe P B w0 (ev P I n)
 | 0=>⟨fun _ _ _ _ _ _ _ _ _ _ hk=>hk.elim,fun _ _ _ _ _ _ _ _ _ _ hk=>hk.elim⟩
 | n+1=>aM4 hm hn hW (aBs hm hn hW n)
theorem fine_of {P:Program} {I:Aux} (hi:∀ (f:Nat),I.I f=true→∀ (x:Value) (w:World),(callFunc f #[x]).run P w = .ok (.value x) w)
  (hk:∀ (f:Nat) (args:List AV) (av:AV),I.K f args=some av→∀ (γ:Gm) (vs:List Value) (w:World),LR γ args vs→I.W w→Calls P f vs.toArray w fun e w'=>∃ v,e = .returned v∧VR γ av v∧Below w.heap.size w w')
  (hs:∀ (w w':World),I.W w→Below w.heap.size w w'→I.W w') (h:(P.funcs.toList.all fun fn=>fn.body.isNone || !(fn.name == "runtime.NumGoroutine"))=true):Fine P I:=by
 refine ⟨fun f fn hf hb=>?_,hi,hk,hs⟩
 have:=bE h fn (by simpa using Array.mem_of_getElem? hf)
 rw [Bool.or_eq_true] at this
 rcases this with h1 | h1
 · cases hbd:fn.body with
   | none=>rw [hbd] at hb;cases hb
   | some c=>rw [hbd] at h1;cases h1
 · simpa using h1
def okTrue:R1→Bool
 | .val (.v (.bool true)) _ _=>true
 | _=>false
theorem ret_true {B:Nat→Prop} {G:Nat} {γ:Gm} {w:World} {r:R1} {e:Ending} {w':World} (h:okTrue r=true) (hR:Ret B G γ w r e w'):e = .returned (.bool true)∧Keep B w w':=by
 unfold okTrue at h
 split at h
 · rename_i h' c' hres
   obtain ⟨γ',v,rfl,_,hv,_,hb'⟩:=hR
   cases hv
   exact ⟨rfl,hb'⟩
 · cases h
def yF:List Nat→List AV
 | []=>[]
 | n::l => .v (.int .u64 (.ofNat n))::yF l
theorem wV {γ:Gm}:∀ (l:List Nat),LR γ (yF l) (l.map fun (n:Nat)=>Value.int .u64 (n:Int))
 | []=>LR.nil
 | n::l=>LR.cons (.v _) (wV l)
def pK (g:Nat) (zs:List Nat):Hp:=Tr.leaf.put g (some (.cells 0 false false false zs.length (d6 .leaf 0 (yF zs))))
noncomputable def reckonT (P:Program) (I:Aux) (n:Nat) (g:Nat) (zs:List Nat) (f:FuncId) (args:List AV):R1:=jE P I (ev P I n) f args (pK g zs) P.globals.size
def TabAt (g:Nat) (zs:List Nat) (w:World):Prop:=∃ ty fz,w.heap[g]?=some (.cells (zs.map fun (n:Nat)=>Value.int .u64 (n:Int)).toArray ty fz)
theorem reckonT_ret (hm:P.follows .mixedOrders=true) (hn:Fine P I) {n g:Nat} {zs:List Nat} (hg:g<P.globals.size) {f:FuncId} {fn:Func} (hf:P.funcs[f]?=some fn) (hb:fn.body.isSome=true)
  {args:List AV} {vs:List Value} (w:World) (hl:∀ γ,LR γ args vs) (hne:reckonT P I n g zs f args ≠ .fail) (ht:TabAt g zs w) (hW:I.W w):
  ∃ γ,Calls P f vs.toArray w (Ret (·<w.heap.size) P.globals.size γ w (reckonT P I n g zs f args)):=by
 obtain ⟨code,hb⟩:=aQ hb
 have hWW:∀ w',Keep (·<w.heap.size) w w'→I.W w':=fun w' hk=>hn.stays w w' hW hk.below
 have hcall:=yE (I:=I) (B:=(·<w.heap.size)) (w0:=w) hn hWW (aBs (P:=P) (B:=(·<w.heap.size)) (w0:=w) hm hn hWW n)
 obtain ⟨ty,fz,hheap⟩:=ht
 have hget:∀ b blk,(pK g zs).get b=some blk→b=g∧blk = .cells 0 false false false zs.length (d6 .leaf 0 (yF zs)):=by
  intro b blk hb'
  unfold pK at hb'
  rw [Tr.get_put] at hb'
  split at hb'
  · rename_i e
    injection hb' with hb'
    exact ⟨e,hb'.symm⟩
  · rw [Tr.get_leaf] at hb';cases hb'
 have hr:HR (·<w.heap.size) P.globals.size (fun x=>if x<P.globals.size then some (x,if x=g then zs.length else 0) else none) (pK g zs) P.globals.size w:=by
  refine ⟨fun b blk hb'=>?_,fun b b' blk blk' p p' h1 h2 _ _ _=>(hget _ _ h1).1.trans (hget _ _ h2).1.symm,fun b hb=>by show (if b<P.globals.size then _ else _)=_;rw [if_neg (by omega)],
   fun x hx=>⟨_,by show (if x<P.globals.size then _ else _)=_;rw [if_pos hx]⟩,fun k hk=>hk⟩
  obtain ⟨rfl,rfl⟩:=hget b blk hb'
  refine ⟨(b,zs.length),by show (if b<P.globals.size then _ else _)=_;rw [if_pos hg,if_pos rfl],fun e=>(by cases e),_,ty,fz,hheap,by simp,⟨fun e=>(by cases e),fun e=>(by cases e)⟩,fun i av hlt hi=>?_⟩
  have hl:=wV (γ:=fun x=>if x<P.globals.size then some (x,if x=b then zs.length else 0) else none) zs
  have hll:=hl.1
  simp only [List.length_map] at hll
  rw [f0,if_pos ⟨by omega,by omega⟩] at hi
  obtain ⟨v,h1,h2⟩:=hl.get (by simpa using hi)
  exact ⟨v,by simpa using h1,h2⟩
 exact ⟨_,hcall f fn code args (pK g zs) P.globals.size _ w vs hf hb hr (Keep.refl _ _) (hl _) hne⟩
end
end Go.Sy
end
end
section
noncomputable section
namespace Go.Sy
open Go Go.RowKit
inductive It where
 | code (c:Code)
 | ops (arr:Array Oper) (l:List Oper)
 | blk (id:Nat)
 | lp (c:Code)
 | sc
 | np
 | pl (arr:Array Oper) (p:Go.As.Plan) (S:World→Prop)
structure Cfg where
 k:List It
 s:St
def wpL (P:Program) (arr:Array Oper) (Q:Exit→Act→World→Prop):List Oper→Act→World→Prop
 | [],a,w=>Q .normal a w
 | o::l,a,w=>if Region.wanted o (yielded arr a.tmps) then o.wp P a w (wpL P arr Q l) Q∨(o.asks P a w∧LetsOut Q) else wpL P arr Q l (a.put o.dst undef) w
theorem xH {P:Program} {arr:Array Oper} {Q:Exit→Act→World→Prop}:∀ {l:List Oper} {n:Nat},(∀ j o,l[j]?=some o→arr[n+j]?=some o)→wpOps P arr Q (List.range' n l.length)=wpL P arr Q l
 | [],n,_=>by funext a w;rfl
 | o::l,n,h=>by
   have ho:arr[n]?=some o:=by simpa using h 0 o rfl
   have ih:=xH (P:=P) (arr:=arr) (Q:=Q) (l:=l) (n:=n+1) (fun j o' hj=>by
    have:=h (j+1) o' (by simpa using hj)
    rw [show n+1+j=n+(j+1) by omega];exact this)
   funext a w
   simp only [aB,List.range'_succ,wpOps,ho,wpL,ih]
theorem aIj {P:Program} {Q:Exit→Act→World→Prop} {a:Act} {w:World} {id:Nat} {arr:Array Oper} (h:wpL P arr Q arr.toList a w):(Code.region id arr false).wp P Q a w:=by
 refine wp_region ?_
 have:=xH (P:=P) (arr:=arr) (Q:=Q) (l:=arr.toList) (n:=0) (fun j o hj=>by rw [bH];simpa using hj)
 rw [List.range_eq_range',show arr.size=arr.toList.length from Array.length_toList.symm,this]
 exact h
def aJi (P:Program) (arr:Array Oper) (p:Go.As.Plan) (S:World→Prop) (Q:Exit→Act→World→Prop):Exit→Act→World→Prop
 | .normal,a,w=>S w∧Go.As.wpPlanH P arr (Go.As.NoPan Q) S p a w
 | .exit i,a,w=>Q (.exit i) a w
 | .goto i,a,w=>Q (.goto i) a w
 | .ret,a,w=>Q .ret a w
 | .panic c,a,w=>a.defers=[]∧∀ a':Act,a'.defers=[]→Q (.panic c) a' w
 | .outgrown,a,w=>Q .outgrown a w
def after (P:Program) (Q:Exit→Act→World→Prop):List It→Exit→Act→World→Prop
 | []=>Q
 | .code c::k=>Exit.then (c.wp P (after P Q k)) (after P Q k)
 | .ops arr l::k=>Exit.then (wpL P arr (after P Q k) l) (after P Q k)
 | .blk id::k=>Exit.inBlock id (after P Q k)
 | .lp c::k=>Exit.then (nD P c (after P Q k)) (after P Q k)
 | .sc::k=>Exit.noGoto (after P Q k)
 | .np::k=>Go.As.NoPan (after P Q k)
 | .pl arr p S::k=>aJi P arr p S (after P Q k)
def unw (id:Nat):List It→Option (List It)
 | []=>none
 | .blk j::k=>match Nat.beq j id with
   | true=>some k
   | false=>unw id k
 | .code _::k=>unw id k
 | .ops _ _::k=>unw id k
 | .lp _::k=>unw id k
 | .sc::k=>unw id k
 | .np::k=>unw id k
 | .pl _ _ _::k=>unw id k
theorem oT {P:Program} {Q:Exit→Act→World→Prop} {id:Nat} {a:Act} {w:World}:∀ {k k':List It},unw id k=some k'→after P Q k' .normal a w→after P Q k (.exit id) a w
 | [],k',h,_=>by cases h
 | .blk j::k,k',h,hq=>by
   simp only [unw] at h
   split at h
   · rename_i hj
     have hj:=aV hj
     injection h with h
     subst h hj
     simp only [after,Exit.inBlock,if_true]
     exact hq
   · rename_i hj
     have hj:=Nat.ne_of_beq_eq_false hj
     show (if id=j then _ else _)
     rw [if_neg (show ¬ id=j from fun e=>hj e.symm)]
     exact oT h hq
 | .code _::k,k',h,hq=>oT (k:=k) h hq
 | .ops _ _::k,k',h,hq=>oT (k:=k) h hq
 | .lp _::k,k',h,hq=>oT (k:=k) h hq
 | .sc::k,k',h,hq=>oT (k:=k) h hq
 | .np::k,k',h,hq=>oT (k:=k) h hq
 | .pl _ _ _::k,k',h,hq=>oT (k:=k) h hq
theorem iV {P:Program} {Q:Exit→Act→World→Prop} {a:Act} {w:World} (hq:Q .ret a w):∀ {k:List It},after P Q k .ret a w
 | []=>hq
 | .blk j::k=>iV (k:=k) hq
 | .code _::k=>iV (k:=k) hq
 | .ops _ _::k=>iV (k:=k) hq
 | .lp _::k=>iV (k:=k) hq
 | .sc::k=>iV (k:=k) hq
 | .np::k=>iV (k:=k) hq
 | .pl _ _ _::k=>iV (k:=k) hq
structure Good (P:Program) (B:Nat→Prop) (w0:World) (γ0:Gm) (nt:Nat) (Q:Exit→Act→World→Prop) (g:Cfg):Prop where
 out:∀ γ a w,Gm.le γ0 γ→FR γ nt g.s.T g.s.ds a→HR B P.globals.size γ g.s.h g.s.c w→Keep B w0 w→after P Q g.k .normal a w
def aMq (dst:Option Tmp) (cX:List Nat):Bool:=match dst with
 | none=>false
 | some d=>b6 d cX
def aGn (P:Program) (I:Aux) (call:dH) (nt:Nat) (arr:Array Oper) (o:Oper) (l:List Oper) (k:List It) (s:St):Option Cfg:=match eE arr s.T o with
 | none=>none
 | some false=>match dK nt s.T o.dst (.tup []) with
   | none=>none
   | some T'=>some ⟨.ops arr l::k,⟨T',s.h,s.c,s.ds⟩⟩
 | some true=>match qX P I call s.T s.h s.c o with
   | .val av h' c'=>match dK nt s.T o.dst av with
     | none=>none
     | some T'=>some ⟨.ops arr l::k,⟨T',h',c',s.ds⟩⟩
   | .pan _ _ _=>none
   | .fail=>match aCy P s.T o with
     | none=>none
     | some d=>match dK nt s.T o.dst (.tup []) with
       | none=>none
       | some T'=>some ⟨.ops arr l::k,⟨T',s.h,s.c,d::s.ds⟩⟩
def aEk (P:Program) (I:Aux) (call:dH) (nt:Nat) (k:List It) (s:St) (c:Code):Option Cfg:=match c with
 | .skip=>some ⟨k,s⟩
 | .label _=>some ⟨k,s⟩
 | .region _ ops draw=>match draw with
   | false=>some ⟨.ops ops ops.toList::k,s⟩
   | true=>match nW P I call nt ops s with
     | .ok .normal s'=>some ⟨k,s'⟩
     | _=>none
 | .seq x y=>some ⟨.code x :: .code y::k,s⟩
 | .block id x=>some ⟨.code x :: .blk id::k,s⟩
 | .scope x=>some ⟨.code x :: .sc::k,s⟩
 | .exit id=>match unw id k with
   | none=>none
   | some k'=>some ⟨k',s⟩
 | _=>none
def aN2 (c:Code):Program→Aux→dH→Nat→List It→St→Option Cfg:=by
 induction c
 case skip=>exact fun _ _ _ _ k s=>some ⟨k,s⟩
 case label _=>exact fun _ _ _ _ k s=>some ⟨k,s⟩
 case region _ ops draw=>
  induction draw
  · exact fun _ _ _ _ k s=>some ⟨.ops ops ops.toList::k,s⟩
  · exact fun P I call nt k s=>match nW P I call nt ops s with
     | .ok .normal s'=>some ⟨k,s'⟩
     | _=>none
 case seq x y _ _=>exact fun _ _ _ _ k s=>some ⟨.code x :: .code y::k,s⟩
 case block id x _=>exact fun _ _ _ _ k s=>some ⟨.code x :: .blk id::k,s⟩
 case scope x _=>exact fun _ _ _ _ k s=>some ⟨.code x :: .sc::k,s⟩
 case exit id=>exact fun _ _ _ _ k s=>match unw id k with
  | none=>none
  | some k'=>some ⟨k',s⟩
 all_goals exact fun _ _ _ _ _ _=>none
def aAr (P:Program) (I:Aux) (call:dH) (nt:Nat) (k:List It) (s:St) (c:Code):Option Cfg:=aN2 c P I call nt k s
theorem aIi (P:Program) (I:Aux) (call:dH) (nt:Nat) (k:List It) (s:St) (c:Code):aAr P I call nt k s c=aEk P I call nt k s c:=by
 cases c <;> first | rfl | (rename_i d;cases d <;> rfl)
def aFo (P:Program) (I:Aux) (call:dH) (nt:Nat) (cX:List Nat) (g:Cfg):Option Cfg:=match g.k with
 | []=>none
 | .code c::k=>aAr P I call nt k g.s c
 | .ops arr l::k=>match l with
   | []=>some ⟨k,g.s⟩
   | o::l=>match aMq o.dst cX with
     | true=>none
     | false=>aGn P I call nt arr o l k g.s
 | .blk _::k=>some ⟨k,g.s⟩
 | .sc::k=>some ⟨k,g.s⟩
 | .np::k=>some ⟨k,g.s⟩
 | .lp _::_=>none
 | .pl _ _ _::_=>none
def aFk (P:Program) (g:Cfg):Option Cfg:=match g.k with
 | .code (.cond c x y)::k=>match aev P g.s.T c with
   | some (.v (.bool true))=>some ⟨.code x::k,g.s⟩
   | some (.v (.bool false))=>some ⟨.code y::k,g.s⟩
   | _=>none
 | _=>none
noncomputable def run (P:Program) (I:Aux) (call:dH) (nt:Nat) (cX:List Nat) (n:Nat):Nat→Cfg→Cfg:=
 Nat.rec (motive:=fun _=>Nat→Cfg→Cfg) (fun _ g=>g) (fun _ ih au g=>match aFo P I call nt cX g with
  | some g'=>ih au g'
  | none=>match au with
    | 0=>g
    | au+1=>match aFk P g with
      | some g'=>ih au g'
      | none=>g) n
section
variable {P:Program} {I:Aux} {call:dH} {B:Nat→Prop} {w0:World} {γ0:Gm} {nt:Nat} {Q:Exit→Act→World→Prop} {g g':Cfg}
structure Cx (P:Program) (I:Aux) (B:Nat→Prop) (w0:World):Prop where
 hm:P.follows .mixedOrders=true
 hn:Fine P I
 hW:∀ w,Keep B w0 w→I.W w
theorem Cx.calls (cx:Cx P I B w0) (m:Nat):iJ P B P.globals.size w0 (jE P I (ev P I m)):=yE cx.hn cx.hW (aBs cx.hm cx.hn cx.hW m)
theorem KOk2.good {γ:Gm} {r:R2} {e:AExit} {s:St} (hle:Gm.le γ0 γ) (h:r = .ok e s) {QQ:Exit→Act→World→Prop} (hq:∀ γ' e' a w,Gm.le γ0 γ'→ER γ' e e'→FR γ' nt s.T s.ds a→HR B P.globals.size γ' s.h s.c w→Keep B w0 w→QQ e' a w):
  KOk2 B P.globals.size γ w0 nt QQ r:=by
 subst h
 exact fun γ' e' a w h1=>hq γ' e' a w (hle.trans h1)
theorem aNh (hn:Fine P I) (hcall:iJ P B P.globals.size w0 call) {arr:Array Oper} {o:Oper} {l:List Oper} {k:List It} {s:St} (h:aGn P I call nt arr o l k s=some g') (hg:Good P B w0 γ0 nt Q g'):
  Good P B w0 γ0 nt Q ⟨.ops arr (o::l)::k,s⟩:=by
 refine ⟨fun γ a w hle hf hr hb=>?_⟩
 simp only [after,Exit.then,wpL]
 have hok:=hf.ok (P:=P) (B:=B) (G:=0) hr.glob o.op.operands.toList
 unfold aGn at h
 split at h
 · cases h
 · rename_i hw
   have hw':=dX (a:=a) (fun j want p t av _ _ _ ht=>hf.tmps t av ht) hw
   rw [if_neg (by simp [hw'])]
   split at h
   · cases h
   rename_i T' hT'
   injection h with h
   subst h
   exact hg.out γ _ w hle (hf.put (Gm.le.refl _) (kP γ) hT') hr hb
 · rename_i hw
   have hw':=dX (a:=a) (fun j want p t av _ _ _ ht=>hf.tmps t av ht) hw
   rw [if_pos hw']
   left
   split at h
   · rename_i av h' c' hev
     split at h
     · cases h
     rename_i T' hT'
     injection h with h
     subst h
     refine rL hn hcall hr hb hok ?_
     rw [hev]
     intro γ' v w' h1 h2 h3 h4
     exact hg.out γ' _ w' (hle.trans h1) (hf.put h1 h2 hT') h3 h4
   · cases h
   · split at h
     · cases h
     rename_i d hd
     split at h
     · cases h
     rename_i T' hT'
     injection h with h
     subst h
     obtain ⟨x,hx1,hx2⟩:=aEp hok hd
     unfold Oper.wp
     rw [hx2 w]
     simp only [Oper.upon]
     have hf2:FR γ nt s.T (d::s.ds) { a with defers:=x::a.defers }:=⟨hf.size,hf.tmps,hx1,hf.defs⟩
     exact hg.out γ _ w hle (hf2.put (Gm.le.refl _) (kP γ) hT') hr hb
theorem aJc (hm:P.follows .mixedOrders=true) (hn:Fine P I) (hcall:iJ P B P.globals.size w0 call) {k:List It} {s:St} {c:Code} (h:aAr P I call nt k s c=some g') (hg:Good P B w0 γ0 nt Q g'):
  Good P B w0 γ0 nt Q ⟨.code c::k,s⟩:=by
 refine ⟨fun γ a w hle hf hr hb=>?_⟩
 simp only [after,Exit.then]
 rw [aIi] at h
 unfold aEk at h
 split at h
 · injection h with h;subst h
   exact wp_skip (hg.out γ a w hle hf hr hb)
 · injection h with h;subst h
   exact wp_label (hg.out γ a w hle hf hr hb)
 · split at h
   · injection h with h;subst h
     exact aIj (hg.out γ a w hle hf hr hb)
   · split at h
     · rename_i s' hev
       injection h with h;subst h
       refine zX hm hn hcall hf hr hb (KOk2.good (γ0:=γ0) hle hev ?_)
       intro γ' e' a' w' h1 h2 h3 h4 h5
       cases e' <;> first | exact h2.elim | skip
       exact hg.out γ' a' w' h1 h3 h4 h5
     · cases h
 · injection h with h;subst h
   exact wp_seq (hg.out γ a w hle hf hr hb)
 · injection h with h;subst h
   exact wp_block (hg.out γ a w hle hf hr hb)
 · injection h with h;subst h
   exact wp_scope_straight (hg.out γ a w hle hf hr hb)
 · split at h
   · cases h
   rename_i k' hk'
   injection h with h;subst h
   exact wp_exit (oT hk' (hg.out γ a w hle hf hr hb))
 · cases h
theorem aQ3 (hm:P.follows .mixedOrders=true) (hn:Fine P I) (hcall:iJ P B P.globals.size w0 call) {cX:List Nat} (h:aFo P I call nt cX g=some g') (hg:Good P B w0 γ0 nt Q g'):Good P B w0 γ0 nt Q g:=by
 obtain ⟨k,s⟩:=g
 unfold aFo at h
 simp only at h
 split at h
 · cases h
 · exact aJc hm hn hcall h hg
 · split at h
   · injection h with h;subst h
     exact ⟨fun γ a w hle hf hr hb=>hg.out γ a w hle hf hr hb⟩
   · split at h
     · cases h
     · exact aNh hn hcall h hg
 · injection h with h;subst h
   exact ⟨fun γ a w hle hf hr hb=>hg.out γ a w hle hf hr hb⟩
 · injection h with h;subst h
   exact ⟨fun γ a w hle hf hr hb=>hg.out γ a w hle hf hr hb⟩
 · injection h with h;subst h
   exact ⟨fun γ a w hle hf hr hb=>hg.out γ a w hle hf hr hb⟩
 · cases h
 · cases h
theorem aQh (h:aFk P g=some g') (hg:Good P B w0 γ0 nt Q g'):Good P B w0 γ0 nt Q g:=by
 obtain ⟨k,s⟩:=g
 unfold aFk at h
 simp only at h
 split at h
 · rename_i c x y k'
   refine ⟨fun γ a w hle hf hr hb=>?_⟩
   simp only [after,Exit.then]
   split at h <;> first | (cases h;done) | skip
   all_goals
    rename_i hc
    injection h with h;subst h
    have hcv:=hf.ok (P:=P) (B:=B) (G:=0) hr.glob [c] c (by simp) _ hc
    generalize hvc:a.eval c=vc at hcv
    cases hcv
   · exact wp_cond_true hvc (hg.out γ a w hle hf hr hb)
   · exact wp_cond_false hvc (hg.out γ a w hle hf hr hb)
 · cases h
theorem aPv (cX:List Nat) (n au:Nat) (g:Cfg):run P I call nt cX (n+1) au g=(match aFo P I call nt cX g with
 | some g'=>run P I call nt cX n au g'
 | none=>match au with
   | 0=>g
   | au+1=>match aFk P g with
     | some g'=>run P I call nt cX n au g'
     | none=>g):=rfl
theorem aDt (hm:P.follows .mixedOrders=true) (hn:Fine P I) (hcall:iJ P B P.globals.size w0 call) {cX:List Nat}:∀ (n au:Nat) (g:Cfg),Good P B w0 γ0 nt Q (run P I call nt cX n au g)→Good P B w0 γ0 nt Q g
 | 0,au,g,h=>h
 | n+1,au,g,h=>by
   rw [aPv] at h
   split at h
   · rename_i g' hg'
     exact aQ3 hm hn hcall hg' (aDt hm hn hcall n au g' h)
   · split at h
     · exact h
     · split at h
       · rename_i g' hg'
         exact aQh hg' (aDt hm hn hcall n _ g' h)
       · exact h
end
end Go.Sy
end
end
section
noncomputable section
namespace Go.Sy
open Go Go.RowKit
def oQ (P:Program) (g:Cfg):Option AV:=match g.k with
 | .code (.cond c _ _)::_=>aev P g.s.T c
 | _=>none
def sF (b:Bool) (g:Cfg):Cfg:=match g.k with
 | .code (.cond _ x y)::k=>⟨.code (match b with | true=>x | false=>y)::k,g.s⟩
 | _=>g
def eC (P:Program) (nt:Nat) (g:Cfg):Option Oper:=match g.k with
 | .ops arr (o::_)::_=>match eE arr g.s.T o with
   | some true=>match o.dst with
     | none=>some o
     | some d=>match Nat.blt d nt with
       | true=>some o
       | false=>none
   | _=>none
 | _=>none
def nx (g:Cfg) (av:AV) (h:Hp) (c:Nat):Cfg:=match g.k with
 | .ops arr (o::l)::k=>⟨.ops arr l::k,⟨match o.dst with
   | none=>g.s.T
   | some d=>g.s.T.put d (some av),h,c,g.s.ds⟩⟩
 | _=>g
def nx0 (g:Cfg) (av:AV):Cfg:=nx g av g.s.h g.s.c
def aHt (ρ:Operand→Value):Op→Option (Sem Value)
 | .load t a=>some (Instr.loadAt t (ρ a))
 | .binOp op xType x y _=>some (do eqGuard op xType x y (ρ x) (ρ y);binOp op xType (ρ x) (ρ y))
 | .unOp op _ x=>some (Op.unary op (ρ x))
 | .convert src dst x=>some (Go.convert src dst (ρ x))
 | .slice t x lo hi mx=>some (Instr.sliceAt t (ρ x) (lo.map ρ) (hi.map ρ) (mx.map ρ))
 | .fieldAddr s x f=>some (Instr.fieldAt s (ρ x) f)
 | .field xType x f=>some (Instr.field xType (ρ x) f)
 | .indexAddr t x ix=>some (Instr.indexAt t (ρ x) (ρ ix))
 | .index xType x ix=>some (Instr.index xType (ρ x) (ρ ix))
 | .lookup xType x ix ok=>some (Instr.lookup xType (ρ x) (ρ ix) ok)
 | .extract t ix=>some (Instr.extract (ρ t) ix)
 | _=>none
def uE (P:Program) (nt:Nat) (g:Cfg):Option (Sem Value):=match eC P nt g with
 | none=>none
 | some o=>match nB P g.s.T o.op.operands.toList with
   | true=>aHt (sN P g.s.T) o.op
   | false=>none
def wZ (P:Program) (T:Tr AV) (o:Oper):Option (FuncId×List AV):=match o.op with
 | .call k=>match k.callee with
   | .value x=>match aev P T x,kT P T k.args.toList with
     | some (.fn (.func f) first cap),some l=>some (f,first++l++cap)
     | _,_=>none
   | .invoke x name=>match aev P T x,kT P T k.args.toList with
     | some (.ifc t a),some l=>match tI P t name with
       | some f=>some (f,a::l)
       | none=>none
     | _,_=>none
   | _=>none
 | _=>none
def dR (P:Program) (nt:Nat) (g:Cfg):Option (FuncId×List AV):=match eC P nt g with
 | none=>none
 | some o=>wZ P g.s.T o
def aUp (g:Cfg):Cfg:=match g.k with
 | .code (.loop c)::k=>⟨.lp c::k,g.s⟩
 | _=>g
def aC8 (g:Cfg):Bool:=match g.k with
 | .lp _::_=>true
 | _=>false
def rnd (g:Cfg):Cfg:=match g.k with
 | .lp c::k=>⟨.code c :: .lp c::k,g.s⟩
 | _=>g
def aFu (P:Program) (fn:Func) (g:Cfg):Option AV:=match g.s.ds with
 | _::_=>none
 | []=>match g.k with
   | []=>jX P fn g.s.T g.s.h
   | .code .ret::_=>jX P fn g.s.T g.s.h
   | _=>none
section
variable {P:Program} {I:Aux} {call:dH} {B:Nat→Prop} {w0:World} {γ0:Gm} {nt:Nat} {Q:Exit→Act→World→Prop} {g g':Cfg}
theorem lQ (cx:Cx P I B w0) (m:Nat) (cX:List Nat) (n au:Nat) (h:Good P B w0 γ0 nt Q (run P I (jE P I (ev P I m)) nt cX n au g)):Good P B w0 γ0 nt Q g:=
 aDt cx.hm cx.hn (cx.calls m) n au g h
theorem cJ {b:Bool} (h:oQ P g=some (.v (.bool b))) (ht:b=true→Good P B w0 γ0 nt Q (sF true g)) (hf:b=false→Good P B w0 γ0 nt Q (sF false g)):Good P B w0 γ0 nt Q g:=by
 obtain ⟨k,s⟩:=g
 unfold oQ at h
 simp only at h
 split at h <;> first | (cases h;done) | skip
 rename_i c x y k'
 refine ⟨fun γ a w hle hf' hr hb=>?_⟩
 have hcv:=hf'.ok (P:=P) (B:=B) (G:=0) hr.glob [c] c (by simp) _ h
 generalize hvc:a.eval c=vc at hcv
 cases hcv
 simp only [after,Exit.then]
 cases b with
 | true=>exact wp_cond_true hvc ((ht rfl).out γ a w hle hf' hr hb)
 | false=>exact wp_cond_false hvc ((hf rfl).out γ a w hle hf' hr hb)
theorem oP {b:Bool} (c:Bool) (h:oQ P g=some (.v (.bool b))) (e:b=c) (hg:Good P B w0 γ0 nt Q (sF c g)):Good P B w0 γ0 nt Q g:=
 cJ h (fun e'=>by rw [show c=true from e ▸ e'] at hg;exact hg) (fun e'=>by rw [show c=false from e ▸ e'] at hg;exact hg)
theorem aJ2 {o:Oper} (h:eC P nt g=some o)
  (H:∀ γ a w (K:Act→World→Prop) (QQ:Exit→Act→World→Prop),Gm.le γ0 γ→FR γ nt g.s.T g.s.ds a→HR B P.globals.size γ g.s.h g.s.c w→Keep B w0 w→
   (∀ γ' v w' av h' c',Gm.le γ γ'→VR γ' av v→HR B P.globals.size γ' h' c' w'→Keep B w0 w'→Good P B w0 γ0 nt Q (nx g av h' c')→K (a.put o.dst v) w')→
   o.wp P a w K QQ):Good P B w0 γ0 nt Q g:=by
 obtain ⟨k,s⟩:=g
 unfold eC at h
 simp only at h
 split at h <;> first | (cases h;done) | skip
 rename_i arr o' l k'
 split at h <;> first | (cases h;done) | skip
 rename_i hw
 have hoo:o'=o∧∀ d,o'.dst=some d→d<nt:=by
  split at h
  · rename_i hd
    injection h with h
    exact ⟨h,fun d e=>by rw [hd] at e;cases e⟩
  · rename_i d hd
    split at h <;> first | (cases h;done) | skip
    rename_i hlt
    injection h with h
    exact ⟨h,fun d' e=>by rw [hd] at e;injection e with e;subst e;exact cI hlt⟩
 obtain ⟨rfl,hd⟩:=hoo
 refine ⟨fun γ a w hle hf hr hb=>?_⟩
 simp only [after,Exit.then,wpL]
 have hw':=dX (a:=a) (fun j want p t av _ _ _ ht=>hf.tmps t av ht) hw
 rw [if_pos hw']
 left
 refine H γ a w _ _ hle hf hr hb (fun γ' v w' av h' c' h1 h2 h3 h4 hg=>?_)
 refine hg.out γ' _ w' (hle.trans h1) ?_ h3 h4
 simp only [nx]
 have hput:dK nt s.T o'.dst av=some (match o'.dst with
  | none=>s.T
  | some d=>s.T.put d (some av)):=by
  unfold dK
  cases hdd:o'.dst with
  | none=>rfl
  | some d=>
    simp only
    have:Nat.blt d nt=true:=Nat.ble_eq_true_of_le (hd d hdd)
    rw [this]
 exact hf.put h1 h2 hput
theorem aBk {ρ:Operand→Value} {o:Oper} {S:Sem Value} {v:Value} {w w':World} (h:aHt ρ o.op=some S) (hr:S.run P w = .ok v w'):(execOp ρ o).run P w = .ok (.value v) w':=by
 unfold aHt at h
 unfold execOp
 split at h <;> first | (cases h;done) | skip
 all_goals
  rename_i hop
  rw [hop]
  injection h with h
  subst h
  exact f9 hr
theorem qG {S:Sem Value} (x:Value) (h:uE P nt g=some S) (hrun:∀ w,Keep B w0 w→S.run P w = .ok x w) (hg:Good P B w0 γ0 nt Q (nx0 g (bW x))):Good P B w0 γ0 nt Q g:=by
 unfold uE at h
 split at h
 · cases h
 rename_i o ho
 split at h <;> first | (cases h;done) | skip
 rename_i hcl
 refine aJ2 ho (fun γ a w K QQ hle hf hr hb hK=>?_)
 have hok:=hf.ok (P:=P) (B:=B) (G:=0) hr.glob o.op.operands.toList
 have hns:∀ cs b,o.op = .select cs b→False:=fun cs b e=>by rw [e] at h;cases h
 have hcong:=execOp_congr (ρ:=sN P g.s.T) (ρ':=a.eval) o (fun cs b e=>(hns cs b e).elim) (fun x hx=>tF hok hcl x (by simpa using hx))
 exact dM (by rw [← hcong];exact aBk h (hrun w hb)) (hK γ x w _ _ _ (Gm.le.refl _) (eP x) hr hb hg)
theorem aOn (cx:Cx P I B w0) {f:FuncId} {args:List AV} (h:dR P nt g=some (f,args)) (hbod:dJ P f=some true)
  (H:∀ γ w vs,Gm.le γ0 γ→HR B P.globals.size γ g.s.h g.s.c w→Keep B w0 w→LR γ args vs→Calls P f vs.toArray w fun e w'=>
   ∃ v γ' av h' c',e = .returned v∧Gm.le γ γ'∧VR γ' av v∧HR B P.globals.size γ' h' c' w'∧Keep B w0 w'∧Good P B w0 γ0 nt Q (nx g av h' c')):Good P B w0 γ0 nt Q g:=by
 unfold dR at h
 split at h
 · cases h
 rename_i o ho
 refine aJ2 ho (fun γ a w K QQ hle hf hr hb hK=>?_)
 have hok:=hf.ok (P:=P) (B:=B) (G:=0) hr.glob o.op.operands.toList
 obtain ⟨fn,code,hfn,hbd⟩:=iX hbod
 have henter:∀ (vs:Array Value),(callFunc f vs).run P w = .ok (.enter f vs) w:=fun vs=>nA cx.hn hfn hbd vs w
 have fin:∀ vs:List Value,LR γ args vs→(∀ w,(execOp a.eval o).run P w=(callFunc f vs.toArray).run P w)→o.wp P a w K QQ:=by
  intro vs hl hrun
  unfold Oper.wp
  rw [hrun,henter]
  refine (H γ w vs hle hr hb hl).mono fun e w' hR=>?_
  obtain ⟨v,γ',av,h',c',rfl,h1,h2,h3,h4,h5⟩:=hR
  exact hK γ' v w' av h' c' h1 h2 h3 h4 h5
 unfold wZ at h
 split at h <;> first | (cases h;done) | skip
 rename_i k hop
 split at h <;> first | (cases h;done) | skip
 · rename_i x hce
   split at h <;> first | (cases h;done) | skip
   rename_i f' first cap l hx hl
   injection h with h
   injection h with e1 e2
   subst e1 e2
   have hmem:o.op.operands.toList=x::k.args.toList:=by rw [hop];simp [Op.operands,Call.operands,hce]
   have hxv:=hok x (by rw [hmem];simp) _ hx
   have hlv:=jD (a:=a) (fun y hy=>hok y (by rw [hmem];exact bA _ hy)) hl
   generalize hvx:a.eval x=vx at hxv
   cases hxv with
   | fn hl1 hh1 hl2 hh2=>
     rename_i vs ws
     have r1:LR γ first vs.toList:=⟨by simpa using hl1,fun i b y e1 e2=>hh1 i b y e1 (by simpa using e2)⟩
     have r2:LR γ cap ws.toList:=⟨by simpa using hl2,fun i b y e1 e2=>hh2 i b y e1 (by simpa using e2)⟩
     refine fin _ ((r1.append hlv).append r2) (fun w=>?_)
     unfold execOp
     rw [hop]
     simp only [resolve,hce,hvx,Deferred.ofValue,Sem.run_bind,Sem.run_pure,Result.andThen_ok,invoke]
     congr 2
     apply Array.ext'
     simp
 · rename_i x name hce
   split at h <;> first | (cases h;done) | skip
   rename_i t b l hx hl
   split at h <;> first | (cases h;done) | skip
   rename_i f' hf'
   injection h with h
   injection h with e1 e2
   subst e1 e2
   have hmem:o.op.operands.toList=x::k.args.toList:=by rw [hop];simp [Op.operands,Call.operands,hce]
   have hxv:=hok x (by rw [hmem];simp) _ hx
   have hlv:=jD (a:=a) (fun y hy=>hok y (by rw [hmem];exact bA _ hy)) hl
   generalize hvx:a.eval x=vx at hxv
   cases hxv with
   | ifc hxv=>
     rename_i vv
     refine fin (vv::k.args.toList.map a.eval) (LR.cons hxv hlv) (fun w=>?_)
     unfold execOp
     rw [hop]
     simp only [resolve,hce,hvx,Sem.run_bind,Sem.run_pure,Result.andThen_ok,invoke]
     have hex:(#[Value.iface t vv]++k.args.map a.eval).extract 1 (#[Value.iface t vv]++k.args.map a.eval).size=k.args.map a.eval:=by
      apply Array.ext'
      simp
      exact List.take_of_length_le (by simp)
     have hget:(#[Value.iface t vv]++k.args.map a.eval)[0]?=some (.iface t vv):=by
      rw [Array.getElem?_append_left (by simp)]
      rfl
     rw [hget,hex]
     simp only [uS hf']
     congr 2
     apply Array.ext'
     simp
def d8:List AV→Option (List Value)
 | []=>some []
 | a::l=>match a.close with
   | none=>none
   | some x=>match d8 l with
     | none=>none
     | some r=>some (x::r)
def tU:AV→Option Value
 | .tup l=>match d8 l with
   | none=>none
   | some r=>some (.tuple r.toArray)
 | a=>a.close
theorem eY {γ:Gm}:∀ {aS:List AV} {vs ws:List Value},d8 aS=some ws→LR γ aS vs→vs=ws
 | [],vs,ws,h,hr=>by
   simp [d8] at h
   subst h
   exact aF hr.1.symm
 | a::aS,vs,ws,h,hr=>by
   cases vs with
   | nil=>have:=hr.1;simp at this
   | cons x vs=>
     have h0:=hr.2 0 a x rfl rfl
     have ht:LR γ aS vs:=⟨by have:=hr.1;simpa using this,fun i b y h1 h2=>hr.2 (i+1) b y (by simpa using h1) (by simpa using h2)⟩
     simp only [d8] at h
     split at h
     · cases h
     rename_i y hy
     split at h
     · cases h
     rename_i r hrr
     injection h with h
     subst h
     rw [jY hy h0,eY hrr ht]
theorem mC {γ:Gm} {a:AV} {x y:Value} (h:tU a=some y) (hr:VR γ a x):x=y:=by
 unfold tU at h
 split at h
 · split at h
   · cases h
   rename_i r hrr
   injection h with h
   subst h
   cases hr with
   | tup hl hh=>
     rename_i vs
     have:=eY (γ:=γ) (vs:=vs.toList) hrr ⟨by simpa using hl,fun i a x h1 h2=>hh i a x h1 (by simpa using h2)⟩
     rw [← this]
 · exact jY h hr
theorem uY (cx:Cx P I B w0) {f:FuncId} {args:List AV} (xs:List Value) {Pr:Value→World→Prop} (h:dR P nt g=some (f,args)) (hbod:dJ P f=some true) (hx:∀ γ vs,LR γ args vs→vs=xs)
  (hc:∀ w,Keep B w0 w→Calls P f xs.toArray w fun e w'=>∃ r,e = .returned r∧Pr r w'∧Below w.heap.size w w')
  (hg:∀ r w',Pr r w'→Keep B w0 w'→Good P B w0 γ0 nt Q (nx0 g (bW r))):Good P B w0 γ0 nt Q g:=by
 refine aOn cx h hbod (fun γ w vs hle hr hb hl=>?_)
 obtain rfl:=hx γ vs hl
 refine (hc w hb).mono fun e w' hR=>?_
 obtain ⟨r,rfl,h1,h2⟩:=hR
 have hk:=hb.trans (Keep.of_below h2 hr.base)
 exact ⟨r,γ,bW r,_,_,rfl,Gm.le.refl _,eP r,hr.kept h2.size h2.block,hk,hg r w' h1 hk⟩
theorem gO (cx:Cx P I B w0) {f:FuncId} (xs:List Value) (r:Value) (h:dR P nt g=some (f,xs.map bW)) (hbod:dJ P f=some true) (hx:d8 (xs.map bW)=some xs)
  (hc:∀ w,Keep B w0 w→Calls P f xs.toArray w fun e w'=>e = .returned r∧Below w.heap.size w w') (hg:Good P B w0 γ0 nt Q (nx0 g (bW r))):Good P B w0 γ0 nt Q g:=
 uY cx xs (Pr:=fun r' _=>r'=r) h hbod (fun γ vs hl=>eY hx hl) (fun w hk=>(hc w hk).mono fun e w' hR=>⟨r,hR.1,rfl,hR.2⟩) (fun r' w' e _=>by subst e;exact hg)
theorem aK4 (cx:Cx P I B w0) {f:FuncId} (xs:List Value) (r:Value) (h:dR P nt g=some (f,xs.map bW)) (hbod:dJ P f=some true) (hx:d8 (xs.map bW)=some xs)
  (hc:∀ w,Keep B w0 w→Calls P f xs.toArray w fun e w'=>e = .returned r∧w=w') (hg:Good P B w0 γ0 nt Q (nx0 g (bW r))):Good P B w0 γ0 nt Q g:=
 gO cx xs r h hbod hx (fun w hk=>(hc w hk).mono fun e w' hR=>⟨hR.1,by rw [← hR.2];exact Below.refl _ _⟩) hg
def yB (g:Cfg) (t:Nat) (av:AV):Cfg:=⟨g.k,⟨g.s.T.put t (some av),g.s.h,g.s.c,g.s.ds⟩⟩
theorem nC (t:Nat) {x:Value} (y:Value) (h:g.s.T.get t=some (.v x)) (e:x=y) (hg:Good P B w0 γ0 nt Q (yB g t (bW y))):Good P B w0 γ0 nt Q g:=by
 subst e
 refine ⟨fun γ a w hle hf hr hb=>?_⟩
 refine hg.out γ a w hle ⟨hf.size,fun t' av ht=>?_,hf.defs⟩ hr hb
 simp only [yB] at ht
 rw [Tr.get_put] at ht
 split at ht
 · rename_i e
   subst e
   injection ht with ht
   subst ht
   obtain ⟨v,h1,h2⟩:=hf.tmps _ _ h
   cases h2
   exact ⟨_,h1,eP _⟩
 · exact hf.tmps t' av ht
theorem aEg (h:aC8 g=true) (hg:Good P B w0 γ0 nt Q (rnd g)):Good P B w0 γ0 nt Q g:=by
 obtain ⟨k,s⟩:=g
 unfold aC8 at h
 split at h <;> first | (cases h;done) | skip
 rename_i c k' hk
 simp only at hk
 subst hk
 exact ⟨fun γ a w hle hf hr hb=>zU (hg.out γ a w hle hf hr hb)⟩
theorem cF (hg:Good P B w0 γ0 nt Q (aUp g)):Good P B w0 γ0 nt Q g:=by
 obtain ⟨k,s⟩:=g
 unfold aUp at hg
 split at hg
 · rename_i c k' hk
   simp only at hk
   subst hk
   exact ⟨fun γ a w hle hf hr hb=>aKp (hg.out γ a w hle hf hr hb)⟩
 · exact hg
theorem aBg {fn:Func} {R:Ending→World→Prop} {av:AV} (h:aFu P fn g=some av)
  (hR:∀ γ w v,Gm.le γ0 γ→VR γ av v→HR B P.globals.size γ g.s.h g.s.c w→Keep B w0 w→R (.returned v) w):Good P B w0 γ0 nt (bodyPostD P fn R) g:=by
 obtain ⟨k,⟨T,h',c,ds⟩⟩:=g
 unfold aFu at h
 simp only at h
 split at h
 · cases h
 refine ⟨fun γ a w hle hf hr hb=>?_⟩
 have key:jX P fn T h'=some av→bodyPostD P fn R .normal a w:=by
  intro ha
  obtain ⟨v,h1,h2⟩:=oH hr hf.tmps ha
  have hd:a.defers=[]:=tC hf.defs
  show Leaves P fn a.tmps R a.defers .returning w
  rw [hd]
  exact ⟨v,h2,hR γ w v hle h1 hr hb⟩
 split at h
 · exact key h
 · simp only [after,Exit.then]
   exact wp_ret (iV (key h))
 · cases h
def aRk (P:Program) (fn:Func) (g:Cfg):Option Value:=match aFu P fn g with
 | none=>none
 | some av=>tU av
theorem aMx {fn:Func} {R:Ending→World→Prop} (r:Value) (h:aRk P fn g=some r) (hR:∀ w,Keep B w0 w→R (.returned r) w):Good P B w0 γ0 nt (bodyPostD P fn R) g:=by
 unfold aRk at h
 split at h
 · cases h
 rename_i av hav
 exact aBg hav (fun γ w v _ hv _ hk=>by rw [mC h hv];exact hR w hk)
def start (P:Program) (fn:Func) (args:List AV):Cfg:=⟨[.code (fn.body.getD .skip)],⟨d6 .leaf 0 args,.leaf,P.globals.size,[]⟩⟩
theorem enter (hn:Fine P I) {f:FuncId} {fn:Func} (hf:P.funcs[f]?=some fn) (hb':fn.body.isSome=true) {args:List AV} {vs:List Value} (hl:∀ γ,LR γ args vs) (hle:Nat.ble args.length fn.ntmps=true) {w:World} {R:Ending→World→Prop}
  (hg:∀ γ0,(∀ b,P.globals.size≤b→γ0 b=none)→Good P (·<w.heap.size) w γ0 fn.ntmps (bodyPostD P fn R) (start P fn args)):Calls P f vs.toArray w R:=by
 obtain ⟨code,hb⟩:=aQ hb'
 have hle:args.length≤fn.ntmps:=aN hle
 refine calls_of_wp_defers hf hb ?_
 obtain ⟨γ0,hγ0,hfr,hr⟩:∃ γ0:Gm,(∀ b,P.globals.size≤b→γ0 b=none)∧FR γ0 fn.ntmps (d6 .leaf 0 args) [] { tmps:=vs.toArray++Array.replicate (fn.ntmps - vs.toArray.size) undef,defers:=[] }∧
   HR (·<w.heap.size) P.globals.size γ0 .leaf P.globals.size w:=by
  refine ⟨fun g=>if g<P.globals.size then some (g,0) else none,fun b hb=>?_,⟨?_,yN (by simpa using hl _) _,trivial⟩,?_⟩
  · show (if b<P.globals.size then _ else _)=_;rw [if_neg (by omega)]
  · have:=(hl (fun _=>none)).1
    simp
    omega
  · exact ⟨fun b blk hb=>(by rw [Tr.get_leaf] at hb;cases hb),fun b b' blk blk' p p' hb=>(by rw [Tr.get_leaf] at hb;cases hb),fun b hb=>by show (if b<P.globals.size then _ else _)=_;rw [if_neg (by omega)],fun g hg=>⟨0,by show (if g<P.globals.size then _ else _)=_;rw [if_pos hg]⟩,fun k hk=>hk⟩
 have:=(hg γ0 hγ0).out γ0 _ w (Gm.le.refl _) hfr hr (Keep.refl _ _)
 simp only [after,start,hb,bT] at this
 exact wp_mono this fun e a w h=>by cases e <;> exact h
mutual
def lF (n:Nat):AV→Bool
 | .v _=>true
 | .ptr b _=>Nat.blt b n
 | .sl b _ _ _=>Nat.blt b n
 | .slg b _ _ _=>Nat.blt b n
 | .agg l=>uD n l
 | .tup l=>uD n l
 | .ifc _ a=>lF n a
 | .fn _ l r=>match uD n l with
   | true=>uD n r
   | false=>false
 | .map b=>Nat.blt b n
def uD (n:Nat):List AV→Bool
 | []=>true
 | a::l=>match lF n a with
   | true=>uD n l
   | false=>false
end
theorem oY {n:Nat}:∀ {l:List AV},uD n l=true→∀ (i:Nat) (a:AV),l[i]?=some a→lF n a=true
 | [],_,i,a,hi=>by simp at hi
 | b::l,h,i,a,hi=>by
   simp only [uD] at h
   split at h
   · rename_i hb
     cases i with
     | zero=>simp at hi;subst hi;exact hb
     | succ i=>exact oY h i a (by simpa using hi)
   · cases h
def Gm.res (γ:Gm) (n:Nat):Gm:=fun b=>if b<n then γ b else none
theorem Gm.res_some {γ:Gm} {n b:Nat} {p:Nat×Nat} (h:γ b=some p) (hb:b<n):γ.res n b=some p:=by unfold Gm.res;rw [if_pos hb];exact h
theorem VR.res {γ:Gm} {n:Nat} {a:AV} {x:Value} (h:VR γ a x):lF n a=true→VR (γ.res n) a x:=by
 induction h with
 | v x=>exact fun _ => .v x
 | ptr h=>exact fun hb => .ptr (Gm.res_some h (cI hb))
 | sl h hl=>exact fun hb => .sl (Gm.res_some h (cI hb)) hl
 | slg h hl hm ho=>exact fun hb => .slg (Gm.res_some h (cI hb)) hl hm ho
 | agg hl _ ih=>exact fun hb => .agg hl (fun i a x h1 h2=>ih i a x h1 h2 (oY hb i a h1))
 | tup hl _ ih=>exact fun hb => .tup hl (fun i a x h1 h2=>ih i a x h1 h2 (oY hb i a h1))
 | ifc _ ih=>exact fun hb => .ifc (ih hb)
 | fn hl _ hl' _ ih ih'=>
   intro hb
   simp only [lF] at hb
   split at hb
   · rename_i h1
     exact .fn hl (fun i a x h2 h3=>ih i a x h2 h3 (oY h1 i a h2)) hl' (fun i a x h2 h3=>ih' i a x h2 h3 (oY hb i a h2))
   · cases hb
 | map h=>exact fun hb => .map (Gm.res_some h (cI hb))
def mkT:List (Nat×AV)→Tr AV
 | [] => .leaf
 | p::l=>(mkT l).put p.1 (some p.2)
def mkH:List (Nat×Option Blk)→Hp
 | [] => .leaf
 | p::l=>(mkH l).put p.1 p.2
theorem aJe:∀ {l:List (Nat×AV)} {t:Nat} {a:AV},(mkT l).get t=some a→(t,a)∈l
 | [],t,a,h=>by simp only [mkT] at h;rw [Tr.get_leaf] at h;cases h
 | p::l,t,a,h=>by
   simp only [mkT] at h
   rw [Tr.get_put] at h
   split at h
   · rename_i e;injection h with h;subst h e;simp
   · exact bA _ (aJe h)
theorem yU:∀ {l:List (Nat×Option Blk)} {t:Nat} {a:Blk},(mkH l).get t=some a→(t,some a)∈l
 | [],t,a,h=>by simp only [mkH] at h;rw [Tr.get_leaf] at h;cases h
 | p::l,t,a,h=>by
   simp only [mkH] at h
   rw [Tr.get_put] at h
   split at h
   · rename_i e;subst e;rw [← h];simp
   · exact bA _ (yU h)
def eL {α:Type} (p:α→Bool):Tr α→Bool
 | .leaf=>true
 | .node x l r=>match (match x with | none=>true | some a=>p a) with
   | true=>match eL p l with
     | true=>eL p r
     | false=>false
   | false=>false
theorem iD {α:Type} {p:α→Bool}:∀ {t:Tr α},eL p t=true→∀ (k:Nat) (a:α),t.get k=some a→p a=true:=by
 intro t
 induction t with
 | leaf=>intro _ k a h;rw [Tr.get_leaf] at h;cases h
 | node x l r ihl ihr=>
   intro h k a hk
   rw [Tr.get_eq] at hk
   simp only [eL] at h
   split at h <;> first | (cases h;done) | skip
   rename_i hx
   split at h <;> first | (cases h;done) | skip
   rename_i hl
   cases k with
   | zero=>simp only [Tr.get0] at hk;subst hk;exact hx
   | succ k=>
     simp only [Tr.get0] at hk
     split at hk
     · exact ihl hl _ a (by rw [Tr.get_eq];exact hk)
     · exact ihr h _ a (by rw [Tr.get_eq];exact hk)
def aL3 (n:Nat):List (AV×AV×Nat)→Bool
 | []=>true
 | e::l=>match lF n e.1,lF n e.2.1 with
   | true,true=>aL3 n l
   | _,_=>false
theorem aA2 {n:Nat}:∀ {l:List (AV×AV×Nat)},aL3 n l=true→∀ (i:Nat) (e:AV×AV×Nat),l[i]?=some e→lF n e.1=true∧lF n e.2.1=true
 | [],_,i,e,h=>by simp at h
 | x::l,h,i,e,hi=>by
   simp only [aL3] at h
   split at h <;> first | (cases h;done) | skip
   rename_i h1 h2
   cases i with
   | zero=>simp at hi;subst hi;exact ⟨h1,h2⟩
   | succ i=>exact aA2 h i e (by simpa using hi)
def aKz (n:Nat):Blk→Bool
 | .cells _ _ _ _ _ cs=>eL (lF n) cs
 | .map es _=>aL3 n es
 | .row _ _=>true
theorem BR.res {γ:Gm} {n:Nat} {blk:Blk} {p:Nat×Nat} {w:World} (h:BR B γ blk p w) (hb:aKz n blk=true):BR B (γ.res n) blk p w:=by
 cases blk with
 | cells ty own clean ex lim cs=>
   obtain ⟨h0,c,ty',fz,h1,h2,h3,h4⟩:=h
   exact ⟨h0,c,ty',fz,h1,h2,h3,fun i a hl hi=>let ⟨x,h5,h6⟩:=h4 i a hl hi;⟨x,h5,h6.res (iD hb i a hi)⟩⟩
 | map es clock=>
   obtain ⟨h0,l,h1,h2,h3⟩:=h
   exact ⟨h0,l,h1,h2,fun i e m he hm=>let ⟨a,b,c⟩:=h3 i e m he hm;⟨a.res (aA2 hb i e he).1,b.res (aA2 hb i e he).2,c⟩⟩
 | row e xs=>exact h
def yM (n:Nat):List (Nat×AV)→Bool
 | []=>true
 | p::l=>match lF n p.2 with
   | true=>yM n l
   | false=>false
def x0 (n:Nat):List (Nat×Option Blk)→Bool
 | []=>true
 | p::l=>match Nat.blt p.1 n,(match p.2 with | none=>true | some b=>aKz n b) with
   | true,true=>x0 n l
   | _,_=>false
theorem aCw {n:Nat}:∀ {l:List (Nat×AV)},yM n l=true→∀ p∈l,lF n p.2=true
 | [],_,p,h=>by simp at h
 | q::l,h,p,hp=>by
   simp only [yM] at h
   split at h <;> first | (cases h;done) | skip
   rename_i h1
   rcases bJ hp with rfl | hp
   · exact h1
   · exact aCw h p hp
theorem pG {n:Nat}:∀ {l:List (Nat×Option Blk)},x0 n l=true→∀ t b,(t,some b)∈l→t<n∧aKz n b=true
 | [],_,p,_,h=>by simp at h
 | q::l,h,t,b,hp=>by
   simp only [x0] at h
   split at h <;> first | (cases h;done) | skip
   rename_i h1 h2
   rcases bJ hp with e | hp
   · subst e;exact ⟨cI h1,h2⟩
   · exact pG h t b hp
theorem aDb {α β:Type} {f:Nat×α→Option β} {q:Nat×α→Option β}:∀ {l:List (Nat×α)},l.map f=l.map q→∀ p∈l,f p=q p
 | [],_,p,h=>by simp at h
 | x::l,h,p,hp=>by
   simp only [List.map_cons,List.cons.injEq] at h
   rcases bJ hp with rfl | hp
   · exact h.1
   · exact aDb h.2 p hp
theorem vC (K:List It) (lT:List (Nat×AV)) (lH:List (Nat×Option Blk)) (c2:Nat) (hk:g.k=K) (hds:g.s.ds=[])
  (hT:lT.map (fun p=>g.s.T.get p.1)=lT.map (fun p=>some p.2)) (hTl:yM c2 lT=true) (hH:lH.map (fun p=>g.s.h.get p.1)=lH.map (fun p=>p.2)) (hHl:x0 c2 lH=true)
  (hγ:∀ b,c2≤b→γ0 b=none) (hG:Nat.ble P.globals.size c2=true) (hg:Good P B w0 γ0 nt Q ⟨K,⟨mkT lT,mkH lH,c2,[]⟩⟩):Good P B w0 γ0 nt Q g:=by
 subst hk
 obtain ⟨k,⟨T,h,c,ds⟩⟩:=g
 simp only at hds hT hH hg
 subst hds
 have hG:P.globals.size≤c2:=aN hG
 refine ⟨fun γ a w hle hf hr hb=>?_⟩
 have hT':=aDb hT
 have hH':=aDb hH
 refine hg.out (γ.res c2) a w (fun b p hp=>?_) ⟨hf.size,fun t av ht=>?_,?_⟩ ⟨fun b blk hb'=>?_,fun b b' blk blk' p p' h1 h2 g1 g2 e=>?_,fun b hb'=>?_,fun x hx=>?_,hr.base⟩ hb
 · rcases aY b c2 with hlt | hge
   · exact Gm.res_some (hle b p hp) hlt
   · rw [hγ b hge] at hp;cases hp
 · have hm:=aJe ht
   obtain ⟨v,h1,h2⟩:=hf.tmps t av (hT' _ hm)
   exact ⟨v,h1,h2.res (aCw hTl _ hm)⟩
 · have:=hf.defs
   revert this
   cases a.defers with
   | nil=>exact fun _=>trivial
   | cons d l=>exact fun h=>h.elim
 · have hm:=yU hb'
   obtain ⟨h1,h2⟩:=pG hHl _ _ hm
   obtain ⟨p,hp,hbr⟩:=hr.live b blk (hH' _ hm)
   exact ⟨p,Gm.res_some hp h1,hbr.res h2⟩
 · have m1:=yU h1
   have m2:=yU h2
   have k1:=(pG hHl _ _ m1).1
   have k2:=(pG hHl _ _ m2).1
   simp only [Gm.res,if_pos k1] at g1
   simp only [Gm.res,if_pos k2] at g2
   exact hr.inj _ _ _ _ _ _ (hH' _ m1) (hH' _ m2) g1 g2 e
 · show (if b<c2 then _ else _)=_
   have hb':c2≤b:=hb'
   rw [if_neg (by omega)]
 · obtain ⟨N,hN⟩:=hr.glob x hx
   exact ⟨N,Gm.res_some hN (by omega)⟩
end
end Go.Sy
end
end
section
noncomputable section
namespace Go.Sy
open Go Go.RowKit
def RowAt (e esz b n:Nat) (xs:List Value) (X:AV) (ob:Option Blk):Prop:=
 xs.length=n*esz∧((X = .v (.slice none 0 0)∧ob=none∧n=0)∨(X = .slg b 0 n esz∧ob=some (.row e xs)))
theorem RowAt.nil (e esz b:Nat):RowAt e esz b 0 [] (.v (.slice none 0 0)) none:=⟨by simp,.inl ⟨rfl,rfl,rfl⟩⟩
theorem RowAt.lt {e esz b n c:Nat} {xs:List Value} {X:AV} {ob:Option Blk} (h:RowAt e esz b n xs X ob) (hb:b<c):lF c X=true:=by
 rcases h.2 with ⟨rfl,_⟩ | ⟨rfl,_⟩
 · rfl
 · exact Nat.ble_eq_true_of_le hb
mutual
def pD (n:Nat):AV→Bool
 | .v _=>true
 | .ptr b _=>not (Nat.beq b n)
 | .sl b _ _ _=>not (Nat.beq b n)
 | .slg b _ _ _=>not (Nat.beq b n)
 | .agg l=>vK n l
 | .tup l=>vK n l
 | .ifc _ a=>pD n a
 | .fn _ l r=>match vK n l with
   | true=>vK n r
   | false=>false
 | .map b=>not (Nat.beq b n)
def vK (n:Nat):List AV→Bool
 | []=>true
 | a::l=>match pD n a with
   | true=>vK n l
   | false=>false
end
theorem oV {n:Nat}:∀ {l:List AV},vK n l=true→∀ (i:Nat) (a:AV),l[i]?=some a→pD n a=true
 | [],_,i,a,hi=>by simp at hi
 | b::l,h,i,a,hi=>by
   simp only [vK] at h
   split at h
   · rename_i hb
     cases i with
     | zero=>simp at hi;subst hi;exact hb
     | succ i=>exact oV h i a (by simpa using hi)
   · cases h
theorem s6 {b n:Nat} (h:(!(Nat.beq b n))=true):b≠n:=fun e=>by subst e;simp at h
theorem Gm.upd_ne {γ:Gm} {b c:Nat} {q p:Nat×Nat} (h:γ c=some p) (hne:c≠b):γ.upd b q c=some p:=by unfold Gm.upd;rw [if_neg hne];exact h
theorem VR.upd {γ:Gm} {b:Nat} {q:Nat×Nat} {a:AV} {x:Value} (h:VR γ a x):pD b a=true→VR (γ.upd b q) a x:=by
 induction h with
 | v x=>exact fun _ => .v x
 | ptr h=>exact fun hb => .ptr (Gm.upd_ne h (s6 hb))
 | sl h hl=>exact fun hb => .sl (Gm.upd_ne h (s6 hb)) hl
 | slg h hl hm ho=>exact fun hb => .slg (Gm.upd_ne h (s6 hb)) hl hm ho
 | agg hl _ ih=>exact fun hb => .agg hl (fun i a x h1 h2=>ih i a x h1 h2 (oV hb i a h1))
 | tup hl _ ih=>exact fun hb => .tup hl (fun i a x h1 h2=>ih i a x h1 h2 (oV hb i a h1))
 | ifc _ ih=>exact fun hb => .ifc (ih hb)
 | fn hl _ hl' _ ih ih'=>
   intro hb
   simp only [pD] at hb
   split at hb
   · rename_i h1
     exact .fn hl (fun i a x h2 h3=>ih i a x h2 h3 (oV h1 i a h2)) hl' (fun i a x h2 h3=>ih' i a x h2 h3 (oV hb i a h2))
   · cases hb
 | map h=>exact fun hb => .map (Gm.upd_ne h (s6 hb))
def aLv (n:Nat):List (AV×AV×Nat)→Bool
 | []=>true
 | e::l=>match pD n e.1,pD n e.2.1 with
   | true,true=>aLv n l
   | _,_=>false
theorem aAs {n:Nat}:∀ {l:List (AV×AV×Nat)},aLv n l=true→∀ (i:Nat) (e:AV×AV×Nat),l[i]?=some e→pD n e.1=true∧pD n e.2.1=true
 | [],_,i,e,h=>by simp at h
 | x::l,h,i,e,hi=>by
   simp only [aLv] at h
   split at h <;> first | (cases h;done) | skip
   rename_i h1 h2
   cases i with
   | zero=>simp at hi;subst hi;exact ⟨h1,h2⟩
   | succ i=>exact aAs h i e (by simpa using hi)
def aLo (n:Nat):Blk→Bool
 | .cells _ _ _ _ _ cs=>eL (pD n) cs
 | .map es _=>aLv n es
 | .row _ _=>true
theorem BR.upd {B:Nat→Prop} {γ:Gm} {b:Nat} {q:Nat×Nat} {blk:Blk} {p:Nat×Nat} {w:World} (h:BR B γ blk p w) (hb:aLo b blk=true):BR B (γ.upd b q) blk p w:=by
 cases blk with
 | cells ty own clean ex lim cs=>
   obtain ⟨h0,c,ty',fz,h1,h2,h3,h4⟩:=h
   exact ⟨h0,c,ty',fz,h1,h2,h3,fun i a hl hi=>let ⟨x,h5,h6⟩:=h4 i a hl hi;⟨x,h5,h6.upd (iD hb i a hi)⟩⟩
 | map es clock=>
   obtain ⟨h0,l,h1,h2,h3⟩:=h
   exact ⟨h0,l,h1,h2,fun i e m he hm=>let ⟨a,b,c⟩:=h3 i e m he hm;⟨a.upd (aAs hb i e he).1,b.upd (aAs hb i e he).2,c⟩⟩
 | row e xs=>exact h
def mV:List Nat→Tr AV→Tr AV
 | [],T=>T
 | t::l,T=>(mV l T).put t none
theorem aCn:∀ {l:List Nat} {T:Tr AV} {t:Nat} {a:AV},(mV l T).get t=some a→T.get t=some a
 | [],T,t,a,h=>h
 | x::l,T,t,a,h=>by
   simp only [mV] at h
   rw [Tr.get_put] at h
   split at h
   · cases h
   · exact aCn h
def iM (g:Cfg):List It:=match g.k with
 | .ops arr (_::l)::k => .ops arr l::k
 | k=>k
def kV (g:Cfg):Option Nat:=match g.k with
 | .ops _ (o::_)::_=>o.dst
 | _=>none
def dP (d:Option Nat) (T:Tr AV) (av:AV):Tr AV:=match d with
 | none=>T
 | some d=>T.put d (some av)
def aLg (P:Program) (nt:Nat) (g:Cfg):Option (List TypeId×AV×AV):=match eC P nt g with
 | none=>none
 | some o=>match o.op with
   | .call k=>match k.callee,k.args.toList with
     | .builtin .append,[s,x]=>match aev P g.s.T s,aev P g.s.T x with
       | some a,some b=>some (k.argTypes.toList,a,b)
       | _,_=>none
     | _,_=>none
   | _=>none
def aK0 (h:Hp) (esz:Nat) (x:AV):Option (Nat×List Value):=match nS h esz x with
 | none=>none
 | some (m,l)=>match mO l with
   | none=>none
   | some vs=>some (m,vs)
section
variable {P:Program} {I:Aux} {B:Nat→Prop} {w0:World} {γ0:Gm} {nt:Nat} {Q:Exit→Act→World→Prop} {g:Cfg}
theorem m7 {o:Oper} (h:eC P nt g=some o)
  (H:∀ γ a w (K:Act→World→Prop) (QQ:Exit→Act→World→Prop),Gm.le γ0 γ→FR γ nt g.s.T g.s.ds a→HR B P.globals.size γ g.s.h g.s.c w→Keep B w0 w→kV g=o.dst→(∀ d,o.dst=some d→d<nt)→
   (∀ a' w',after P Q (iM g) .normal a' w'→K a' w')→o.wp P a w K QQ):Good P B w0 γ0 nt Q g:=by
 obtain ⟨k,s⟩:=g
 unfold eC at h
 simp only at h
 split at h <;> first | (cases h;done) | skip
 rename_i arr o' l k'
 split at h <;> first | (cases h;done) | skip
 rename_i hw
 have hoo:o'=o∧∀ d,o'.dst=some d→d<nt:=by
  split at h
  · rename_i hd
    injection h with h
    exact ⟨h,fun d e=>by rw [hd] at e;cases e⟩
  · rename_i d hd
    split at h <;> first | (cases h;done) | skip
    rename_i hlt
    injection h with h
    exact ⟨h,fun d' e=>by rw [hd] at e;injection e with e;subst e;exact cI hlt⟩
 obtain ⟨rfl,hd⟩:=hoo
 refine ⟨fun γ a w hle hf hr hb=>?_⟩
 simp only [after,Exit.then,wpL]
 have hw':=dX (a:=a) (fun j want p t av _ _ _ ht=>hf.tmps t av ht) hw
 rw [if_pos hw']
 left
 exact H γ a w _ _ hle hf hr hb rfl hd (fun a' w' h=>h)
theorem aRw {o:Oper} (h:eC P nt g=some o)
  (H:∀ γ a w (K:Act→World→Prop) (QQ:Exit→Act→World→Prop),Gm.le γ0 γ→FR γ nt g.s.T g.s.ds a→HR B P.globals.size γ g.s.h g.s.c w→Keep B w0 w→kV g=o.dst→(∀ d,o.dst=some d→d<nt)→
   (∀ γ' v w' T2 h' c',Gm.le γ0 γ'→FR γ' nt T2 g.s.ds (a.put o.dst v)→HR B P.globals.size γ' h' c' w'→Keep B w0 w'→Good P B w0 γ0 nt Q ⟨iM g,⟨T2,h',c',g.s.ds⟩⟩→K (a.put o.dst v) w')→
   o.wp P a w K QQ):Good P B w0 γ0 nt Q g:=
 m7 h (fun γ a w K QQ hle hf hr hb hdst hd hK=>H γ a w K QQ hle hf hr hb hdst hd (fun γ' v w' T2 h' c' h1 h2 h3 h4 hg=>hK _ _ (hg.out γ' _ w' h1 h2 h3 h4)))
theorem rK {γ:Gm} {a:Act} {T:Tr AV} {o:Oper} {f:FuncId} {args:List AV} (hok:Ok P γ T a o.op.operands.toList) (h:wZ P T o=some (f,args)):
  ∃ vs,LR γ args vs∧∀ w,(execOp a.eval o).run P w=(callFunc f vs.toArray).run P w:=by
 unfold wZ at h
 split at h <;> first | (cases h;done) | skip
 rename_i k hop
 split at h <;> first | (cases h;done) | skip
 · rename_i x hce
   split at h <;> first | (cases h;done) | skip
   rename_i f' first cap l hx hl
   injection h with h
   injection h with e1 e2
   subst e1 e2
   have hmem:o.op.operands.toList=x::k.args.toList:=by rw [hop];simp [Op.operands,Call.operands,hce]
   have hxv:=hok x (by rw [hmem];simp) _ hx
   have hlv:=jD (a:=a) (fun y hy=>hok y (by rw [hmem];exact bA _ hy)) hl
   generalize hvx:a.eval x=vx at hxv
   cases hxv with
   | fn hl1 hh1 hl2 hh2=>
     rename_i vs ws
     have r1:LR γ first vs.toList:=⟨by simpa using hl1,fun i b y e1 e2=>hh1 i b y e1 (by simpa using e2)⟩
     have r2:LR γ cap ws.toList:=⟨by simpa using hl2,fun i b y e1 e2=>hh2 i b y e1 (by simpa using e2)⟩
     refine ⟨_,(r1.append hlv).append r2,fun w=>?_⟩
     unfold execOp
     rw [hop]
     simp only [resolve,hce,hvx,Deferred.ofValue,Sem.run_bind,Sem.run_pure,Result.andThen_ok,invoke]
     congr 2
     apply Array.ext'
     simp
 · rename_i x name hce
   split at h <;> first | (cases h;done) | skip
   rename_i t b l hx hl
   split at h <;> first | (cases h;done) | skip
   rename_i f' hf'
   injection h with h
   injection h with e1 e2
   subst e1 e2
   have hmem:o.op.operands.toList=x::k.args.toList:=by rw [hop];simp [Op.operands,Call.operands,hce]
   have hxv:=hok x (by rw [hmem];simp) _ hx
   have hlv:=jD (a:=a) (fun y hy=>hok y (by rw [hmem];exact bA _ hy)) hl
   generalize hvx:a.eval x=vx at hxv
   cases hxv with
   | ifc hxv=>
     rename_i vv
     refine ⟨vv::k.args.toList.map a.eval,LR.cons hxv hlv,fun w=>?_⟩
     unfold execOp
     rw [hop]
     simp only [resolve,hce,hvx,Sem.run_bind,Sem.run_pure,Result.andThen_ok,invoke]
     have hex:(#[Value.iface t vv]++k.args.map a.eval).extract 1 (#[Value.iface t vv]++k.args.map a.eval).size=k.args.map a.eval:=by
      apply Array.ext'
      simp
      exact List.take_of_length_le (by simp)
     have hget:(#[Value.iface t vv]++k.args.map a.eval)[0]?=some (.iface t vv):=by
      rw [Array.getElem?_append_left (by simp)]
      rfl
     rw [hget,hex]
     simp only [uS hf']
     congr 2
     apply Array.ext'
     simp
theorem aC6 {e esz b n:Nat} {xs:List Value} {X:AV} {ob:Option Blk} {γ:Gm} {h:Hp} {c G:Nat} {w:World} {x:Value} {base:Nat} (hrow:RowAt e esz b n xs X ob) (hob:h.get b=ob) (hr:HR B G γ h c w) (hv:VR γ X x) (hbase:∀ k,¬ B k→base≤k):
  w.ownsRow base e esz x n xs∧(∀ k,x.ownBlock=some k→¬ B k∧γ b=some (k,(γ b).getD (0,0) |>.2)):=by
 obtain ⟨hlen,⟨rfl,rfl,rfl⟩ | ⟨rfl,rfl⟩⟩:=hrow
 · cases hv
   exact ⟨⟨hlen,.inl ⟨rfl,rfl⟩⟩,fun k hk=>by simp [Value.ownBlock] at hk⟩
 · cases hv with
   | slg hbp hl hm ho=>
     rename_i n1 N o cap
     obtain ⟨rfl,ho2⟩:=ho (.inl rfl)
     obtain ⟨p,hp,hbr⟩:=hr.live b _ hob
     rw [hbp] at hp
     injection hp with hp
     subst hp
     obtain ⟨h0,cc,k1,k2,k3⟩:=hbr
     simp only at k1 k2 h0
     refine ⟨⟨hlen,.inr ⟨n1,cap,cc,rfl,hbase _ h0,k1,hl,hm,by omega,by rw [← hlen];exact k3⟩⟩,fun k hk=>?_⟩
     simp only [Value.ownBlock,Option.some.injEq] at hk
     subst hk
     exact ⟨h0,by rw [hbp];rfl⟩
theorem aJa {t e:Nat} {i:TypeInfo} {z:Value} {y:AV} {m:Nat} (esz b n:Nat) (xs:List Value) (X:AV) (ob:Option Blk) (news:List Value) (E:List Nat)
  (h:aLg P nt g=some ([t,t],X,y)) (hu:P.underlying t=some (.slice e)) (hi:P.info? e=some i) (hz:i.zero=some z) (hzs:z.cells.size=i.size) (hes:i.size=esz) (hpos:0<esz)
  (hrow:RowAt e esz b n xs X ob) (hob:g.s.h.get b=ob) (hsrc:aK0 g.s.h esz y=some (m+1,news)) (hone:news.all (fun v=>v.oneCell')=true) (h63:n+(m+1)≤maxLen) (hby:(n+(m+1))*i.bytes≤140737488355328)
  (hγb:γ0 b=none) (hbc:Nat.blt b g.s.c=true) (hGb:Nat.ble P.globals.size b=true) (hds:g.s.ds=[]) (hE:eL (pD b) (mV E g.s.T)=true) (hH:eL (aLo b) (g.s.h.put b none)=true)
  (hg:∀ X' ob',RowAt e esz b (n+(m+1)) (xs++news) X' ob'→Good P B w0 γ0 nt Q ⟨iM g,⟨dP (kV g) (mV E g.s.T) X',g.s.h.put b ob',g.s.c,[]⟩⟩):Good P B w0 γ0 nt Q g:=by
 have hbc:=cI hbc
 have hGb:P.globals.size≤b:=aN hGb
 unfold aLg at h
 split at h
 · cases h
 rename_i o ho
 split at h <;> first | (cases h;done) | skip
 rename_i k hop
 split at h <;> first | (cases h;done) | skip
 rename_i s x hce hargs
 split at h <;> first | (cases h;done) | skip
 rename_i aS aX hs hx
 injection h with h
 injection h with e1 h
 injection h with e2 e3
 subst e2 e3
 have hargs':k.args=#[s,x]:=by apply Array.ext';simpa using hargs
 have hts:k.argTypes=#[t,t]:=by apply Array.ext';simpa using e1
 have hop':o.op = .call { callee := .builtin .append,args:=#[s,x],argTypes:=#[t,t] }:=by rw [hop,← hce,← hargs',← hts]
 refine aRw ho (fun γ a w K QQ hle hf hr hb hdst hdlt hK=>?_)
 have hok:=hf.ok (P:=P) (B:=B) (G:=0) hr.glob o.op.operands.toList
 have hmem:o.op.operands.toList=[s,x]:=by rw [hop'];simp [Op.operands,Call.operands]
 have hs':=hok s (by simp [hmem]) _ hs
 have hx':=hok x (by simp [hmem]) _ hx
 obtain ⟨hown,hoB⟩:=aC6 (base:=0) hrow hob hr hs' (fun k _=>Nat.zero_le _)
 unfold aK0 at hsrc
 split at hsrc
 · cases hsrc
 rename_i m' l hsr
 split at hsrc <;> first | (cases hsrc;done) | skip
 rename_i vs' hcl
 injection hsrc with hsrc
 injection hsrc with e4 e5
 subst e4 e5
 obtain ⟨A,kk,news',⟨hxe,hl,hln,hA⟩ | ⟨_,_,hm0,_⟩⟩:=kX hr hx' hsr
 case inr=>omega
 have hnn:=xB hcl hl
 subst hnn
 have hpos':0<(m+1)*esz:=Nat.mul_pos (by omega) hpos
 obtain ⟨ad,rfl,hcell⟩:=hA hpos'
 obtain ⟨v',w',hrun,hown',hgr,_,hsame⟩:=run_append_own_at (P:=P) w 0 t o.type e i z esz i.bytes hu hi hz hes rfl (hzs.trans hes) hpos (a.eval s) n xs hown ad (m+1) kk news' hln hcell (fun u hu=>bE hone u hu) h63 hby (Nat.zero_le _)
 have hopr:(execOp a.eval o).run P w = .ok (.value v') w':=by
  unfold execOp
  simp only [hop',resolve,invoke,builtin,Sem.run_bind,Sem.run_pure,Result.andThen_ok,List.map_toArray,List.map_cons,List.map_nil,hxe,hrun]
 rcases hown'.2 with ⟨_,h0⟩ | ⟨gg,cap,cur,rfl,_,hheap,hnc,hcm,hcs,htake⟩
 · omega
 have hBg:¬ B gg:=by
  have hsame':some gg=(a.eval s).ownBlock∨some gg=some w.heap.size:=hsame
  rcases hsame' with h5 | h5
  · exact (hoB gg h5.symm).1
  · injection h5 with h5;rw [h5];exact hr.new
 have hbd:∀ b1 blk p,b1≠b→g.s.h.get b1=some blk→γ b1=some p→w'.heap[p.1]?=w.heap[p.1]?∧p.1≠gg:=by
  intro b1 blk p hne h1 h2
  obtain ⟨q,hq,hbr⟩:=hr.live b1 _ h1
  obtain rfl:q=p:=by rw [hq] at h2;injection h2
  have hno:∀ j,(a.eval s).ownBlock=some j→q.1≠j:=by
   intro j hj e
   obtain ⟨_,hγ⟩:=hoB j hj
   have hobs:∃ blk2,g.s.h.get b=some blk2:=by
    rcases hrow.2 with ⟨hX,_,_⟩ | ⟨_,hob2⟩
    · subst hX
      generalize hvs:a.eval s=vS at hs' hj
      cases hs'
      simp [Value.ownBlock] at hj
    · exact ⟨_,hob.trans hob2⟩
   obtain ⟨blk2,hblk2⟩:=hobs
   exact hne (hr.inj _ _ _ _ _ _ h1 hblk2 hq hγ e)
  refine ⟨hgr.block _ hbr.lt (fun e=>hno _ e.symm rfl),fun e=>?_⟩
  have hsame':some gg=(a.eval s).ownBlock∨some gg=some w.heap.size:=hsame
  rcases hsame' with h5 | h5
  · exact hno gg h5.symm e
  · injection h5 with h5
    have:=hbr.lt
    omega
 have hrow':RowAt e esz b (n+(m+1)) (xs++news') (.slg b 0 (n+(m+1)) esz) (some (.row e (xs++news'))):=⟨hown'.1,.inr ⟨rfl,rfl⟩⟩
 have hupd:∀ {b1:Nat} {p:Nat×Nat},b1≠b→γ b1=some p→(γ.upd b (gg,cap*esz)) b1=some p:=fun hne h1=>Gm.upd_ne h1 hne
 refine dM hopr (hK (γ.upd b (gg,cap*esz)) _ w' (dP (kV g) (mV E g.s.T) (.slg b 0 (n+(m+1)) esz)) (g.s.h.put b (some (.row e (xs++news')))) g.s.c (fun b1 p hp=>?_) ⟨?_,?_,?_⟩ ⟨fun b1 blk hb1=>?_,fun b1 b2 blk1 blk2 p1 p2 h1 h2 g1 g2 e=>?_,fun b1 hb1=>?_,fun x hx=>?_,fun k hk=>aE (hr.base k hk) hgr.size⟩
  (hb.grown hgr hr.base (fun k hk=>(hoB k hk).1)) (by have:=hg _ _ hrow';rw [hds];exact this))
 · refine hupd (fun e=>?_) (hle b1 p hp)
   subst e
   rw [hγb] at hp
   cases hp
 · have:=hf.size
   cases o.dst with
   | none=>exact this
   | some d=>simp [Act.put,this]
 · intro t' av ht
   have hold:∀ {t'':Nat} {av':AV},(mV E g.s.T).get t''=some av'→(∀ d,o.dst=some d→t''≠d)→∃ v,(a.put o.dst (.slice (some ⟨gg,0,none⟩) (n+(m+1)) cap)).tmps[t'']?=some v∧VR (γ.upd b (gg,cap*esz)) av' v:=by
    intro t'' av' h1 hne
    obtain ⟨v,h2,h3⟩:=hf.tmps t'' av' (aCn h1)
    refine ⟨v,?_,h3.upd (iD hE t'' av' h1)⟩
    cases hd:o.dst with
    | none=>simpa [Act.put,hd] using h2
    | some d=>simp only [Act.put,hd];rw [Array.getElem?_setIfInBounds_ne (fun e=>hne d hd e.symm)];exact h2
   rw [hdst] at ht
   cases hd:o.dst with
   | none=>
     rw [hd] at ht hold
     exact hold ht (fun d e=>by cases e)
   | some d=>
     rw [hd] at ht hold
     simp only [dP] at ht
     rw [Tr.get_put] at ht
     split at ht
     · rename_i e
       subst e
       injection ht with ht
       subst ht
       refine ⟨_,?_,.slg (Gm.upd_same _ _ _) hnc hcm (fun _=>⟨rfl,by simp⟩)⟩
       simp [Act.put,hf.size,hdlt _ hd]
     · rename_i hne
       exact hold ht (fun d' e=>by injection e with e;subst e;exact hne)
 · have:=hf.defs
   rw [hds] at this ⊢
   have h2:(a.put o.dst (.slice (some ⟨gg,0,none⟩) (n+(m+1)) cap)).defers=a.defers:=by cases o.dst <;> rfl
   rw [h2]
   revert this
   cases a.defers with
   | nil=>exact fun _=>trivial
   | cons d l=>exact fun h=>h.elim
 · rw [Tr.get_put] at hb1
   split at hb1
   · rename_i e
     subst e
     injection hb1 with hb1
     subst hb1
     refine ⟨_,Gm.upd_same _ _ _,hBg,cur,hheap,hcs,?_⟩
     rw [hown'.1]
     exact htake
   · rename_i hne
     obtain ⟨p,hp,hbr⟩:=hr.live b1 blk hb1
     refine ⟨p,hupd hne hp,(hbr.upd ?_).kept (hbd b1 blk p hne hb1 hp).1⟩
     exact iD hH b1 blk (by rw [Tr.get_put,if_neg hne];exact hb1)
 · rw [Tr.get_put] at h1 h2
   split at h1 <;> split at h2
   · rename_i e1 e2;exact e1.trans e2.symm
   · rename_i e1 e2
     subst e1
     rw [Gm.upd_same] at g1
     injection g1 with g1
     subst g1
     obtain ⟨q,hq,_⟩:=hr.live b2 _ h2
     have:q=p2:=by have:=hupd e2 hq;rw [this] at g2;injection g2
     subst this
     exact absurd e.symm (hbd b2 blk2 q e2 h2 hq).2
   · rename_i e1 e2
     subst e2
     rw [Gm.upd_same] at g2
     injection g2 with g2
     subst g2
     obtain ⟨q,hq,_⟩:=hr.live b1 _ h1
     have:q=p1:=by have:=hupd e1 hq;rw [this] at g1;injection g1
     subst this
     exact absurd e (hbd b1 blk1 q e1 h1 hq).2
   · rename_i e1 e2
     obtain ⟨q,hq,_⟩:=hr.live b1 _ h1
     obtain ⟨q',hq',_⟩:=hr.live b2 _ h2
     have k1:q=p1:=by have:=hupd e1 hq;rw [this] at g1;injection g1
     have k2:q'=p2:=by have:=hupd e2 hq';rw [this] at g2;injection g2
     subst k1 k2
     exact hr.inj _ _ _ _ _ _ h1 h2 hq hq' e
 · unfold Gm.upd
   have hb1:g.s.c≤b1:=hb1
   rw [if_neg (by omega)]
   exact hr.fresh b1 hb1
 · obtain ⟨N,hN⟩:=hr.glob x hx
   exact ⟨N,hupd (by omega) hN⟩
def aMo (P:Program) (e:TypeId):Option (Nat×Nat):=match P.info? e with
 | some i=>match i.zero with
   | some z=>match Nat.beq z.cells.size i.size with
     | true=>some (i.size,i.bytes)
     | false=>none
   | none=>none
 | none=>none
def elemOf (P:Program) (t:TypeId):Option TypeId:=match P.underlying t with
 | some (.slice e)=>some e
 | _=>none
theorem nM {t e:Nat} (y:AV) (esz bytes b n m:Nat) (xs:List Value) (X:AV) (ob:Option Blk) (news:List Value) (E:List Nat)
  (h:aLg P nt g=some ([t,t],X,y)) (hu:elemOf P t=some e) (hi:aMo P e=some (esz,bytes)) (hpos:Nat.blt 0 esz=true)
  (hrow:RowAt e esz b n xs X ob) (hob:g.s.h.get b=ob) (hsrc:aK0 g.s.h esz y=some (m+1,news)) (hone:news.all (fun v=>v.oneCell')=true) (h63:n+(m+1)≤maxLen) (hby:(n+(m+1))*bytes≤140737488355328)
  (hγb:γ0 b=none) (hbc:Nat.blt b g.s.c=true) (hGb:Nat.ble P.globals.size b=true) (hds:g.s.ds=[]) (hE:eL (pD b) (mV E g.s.T)=true) (hH:eL (aLo b) (g.s.h.put b none)=true)
  (hg:∀ X' ob',RowAt e esz b (n+(m+1)) (xs++news) X' ob'→Good P B w0 γ0 nt Q ⟨iM g,⟨dP (kV g) (mV E g.s.T) X',g.s.h.put b ob',g.s.c,[]⟩⟩):Good P B w0 γ0 nt Q g:=by
 unfold elemOf at hu
 split at hu <;> first | (cases hu;done) | skip
 rename_i e' hu'
 injection hu with hu
 subst hu
 unfold aMo at hi
 split at hi <;> first | (cases hi;done) | skip
 rename_i i hi'
 split at hi <;> first | (cases hi;done) | skip
 rename_i z hz
 split at hi <;> first | (cases hi;done) | skip
 rename_i hzs
 injection hi with hi
 injection hi with e1 e2
 subst e1 e2
 exact aJa i.size b n xs X ob news E h hu' hi' hz (aV hzs) rfl (cI hpos) hrow hob hsrc hone h63 hby hγb hbc hGb hds hE hH hg
theorem aSr {γ:Gm} {a b:AV} {v:Value} (h:VR γ (.tup [a,b]) v):∃ x y,v = .tuple #[x,y]∧VR γ a x∧VR γ b y:=by
 cases h with
 | tup hl hh=>
   rename_i vs
   obtain ⟨l⟩:=vs
   match l,hl with
   | [x,y],_=>exact ⟨x,y,rfl,hh 0 a x rfl rfl,hh 1 b y rfl rfl⟩
theorem iR (cx:Cx P I B w0) {f:FuncId} (xs:List Value) {Pr:World→Value→World→Prop} (h:dR P nt g=some (f,xs.map bW)) (hbod:dJ P f=some true) (hx:d8 (xs.map bW)=some xs)
  (hc:∀ w,Keep B w0 w→Calls P f xs.toArray w fun e w'=>∃ r,e = .returned r∧Pr w r w'∧Below w.heap.size w w')
  (hg:∀ w r w' B',Keep B w0 w→Pr w r w'→Below w.heap.size w w'→Keep B w0 w'→(∀ k,B k→B' k)→(∀ k,w.heap.size≤k→k<w'.heap.size→B' k)→(∀ k,B' k→k<w'.heap.size)→Good P B' w' γ0 nt Q (nx0 g (bW r))):Good P B w0 γ0 nt Q g:=by
 unfold dR at h
 split at h
 · cases h
 rename_i o ho
 refine m7 ho (fun γ a w K QQ hle hf hr hb hdst hdlt hK=>?_)
 have hok:=hf.ok (P:=P) (B:=B) (G:=0) hr.glob o.op.operands.toList
 obtain ⟨fn,code,hfn,hbd⟩:=iX hbod
 obtain ⟨vs,hl,hrun⟩:=rK hok h
 obtain rfl:=eY hx hl
 unfold Oper.wp
 rw [hrun,nA cx.hn hfn hbd]
 refine (hc w hb).mono fun e w' hR=>?_
 obtain ⟨r,rfl,h1,h2⟩:=hR
 have hk:=hb.trans (Keep.of_below h2 hr.base)
 have hr':=hr.kept h2.size h2.block
 refine hK _ _ ?_
 have hlt:∀ {b blk k N},g.s.h.get b=some blk→γ b=some (k,N)→k<w.heap.size:=by
  intro b blk k N hb1 hγ
  obtain ⟨p,hp,hbr⟩:=hr.live b blk hb1
  rw [hγ] at hp
  injection hp with hp
  subst hp
  exact hbr.lt
 have hg':=hg w r w' (fun k=>B k∨(k<w'.heap.size∧∀ b blk N,g.s.h.get b=some blk→γ b≠some (k,N))) hb h1 h2 hk (fun k => .inl)
  (fun k h3 h4 => .inr ⟨h4,fun b blk N hb1 hγ=>by have:=hlt hb1 hγ;omega⟩)
  (fun k hkk=>hkk.elim (fun h3=>hr'.base k h3) (fun h3=>h3.1))
 have hB:∀ b blk p,g.s.h.get b=some blk→γ b=some p→¬ B p.1→¬ (B p.1∨(p.1<w'.heap.size∧∀ b blk N,g.s.h.get b=some blk→γ b≠some (p.1,N))):=by
  intro b blk p hb1 hγ hnB hor
  rcases hor with h3 | h3
  · exact hnB h3
  · exact h3.2 b blk p.2 hb1 hγ
 have key1:FR γ nt (nx0 g (bW r)).s.T (nx0 g (bW r)).s.ds (a.put o.dst r):=by
  have hf':=hf.put (dst:=o.dst) (av:=bW r) (v:=r) (T':=dP o.dst g.s.T (bW r)) (Gm.le.refl γ) (eP r) (by
   unfold dK dP
   cases hd:o.dst with
   | none=>rfl
   | some d=>
     have:Nat.blt d nt=true:=Nat.ble_eq_true_of_le (hdlt d hd)
     simp only [this])
  have e:(nx0 g (bW r)).s.T=dP o.dst g.s.T (bW r)∧(nx0 g (bW r)).s.ds=g.s.ds:=by
   rw [← hdst]
   obtain ⟨k,s⟩:=g
   unfold nx0 nx kV dP
   unfold eC at ho
   simp only at ho
   split at ho <;> first | (cases ho;done) | skip
   exact ⟨rfl,rfl⟩
  rw [e.1,e.2]
  exact hf'
 have key2:HR (fun k=>B k∨(k<w'.heap.size∧∀ b blk N,g.s.h.get b=some blk→γ b≠some (k,N))) P.globals.size γ (nx0 g (bW r)).s.h (nx0 g (bW r)).s.c w':=by
  have e:(nx0 g (bW r)).s.h=g.s.h∧(nx0 g (bW r)).s.c=g.s.c:=by
   obtain ⟨k,s⟩:=g
   unfold nx0 nx
   unfold eC at ho
   simp only at ho
   split at ho <;> first | (cases ho;done) | skip
   exact ⟨rfl,rfl⟩
  rw [e.1,e.2]
  refine ⟨fun b blk hb1=>?_,hr'.inj,hr'.fresh,hr'.glob,fun k hkk=>hkk.elim (fun h3=>hr'.base k h3) (fun h3=>h3.1)⟩
  obtain ⟨p,hp,hbr⟩:=hr'.live b blk hb1
  refine ⟨p,hp,?_⟩
  have hBp:=hB b blk p hb1 hp
  cases blk with
  | cells ty own clean ex lim cs=>
    obtain ⟨h0,h5⟩:=hbr
    exact ⟨fun ho=>hBp (h0 ho),h5⟩
  | map es clock=>
    obtain ⟨h0,h5⟩:=hbr
    exact ⟨hBp h0,h5⟩
  | row e xs=>
    obtain ⟨h0,h5⟩:=hbr
    exact ⟨hBp h0,h5⟩
 have hfin:=hg'.out γ (a.put o.dst r) w' hle key1 key2 (Keep.refl _ _)
 have e:(nx0 g (bW r)).k=iM g:=by
  obtain ⟨k,s⟩:=g
  unfold nx0 nx iM
  unfold eC at ho
  simp only at ho
  split at ho <;> first | (cases ho;done) | skip
  rfl
 rw [e] at hfin
 exact hfin
theorem cZ {ι:Type} (μ:ι→Nat) (Inv:ι→Prop) (st:ι→St) (i0:ι) (h0:Inv i0) (hlp:aC8 g=true) (hin:Good P B w0 γ0 nt Q ⟨g.k,st i0⟩→Good P B w0 γ0 nt Q g)
  (step:∀ i,Inv i→(∀ j,Inv j→μ j<μ i→Good P B w0 γ0 nt Q ⟨g.k,st j⟩)→Good P B w0 γ0 nt Q (rnd ⟨g.k,st i⟩)):Good P B w0 γ0 nt Q g:=by
 have hl:∀ i,aC8 ⟨g.k,st i⟩=true:=fun i=>hlp
 have key:∀ n i,μ i=n→Inv i→Good P B w0 γ0 nt Q ⟨g.k,st i⟩:=by
  intro n
  induction n using Nat.strongRecOn with
  | _ n ih=>
    intro i hi hI
    exact aEg (hl i) (step i hI (fun j hj hlt=>ih (μ j) (hi ▸ hlt) j rfl hj))
 exact hin (key _ i0 rfl h0)
theorem fO {ι:Type} (μ:ι→Nat) (Inv:ι→(Nat→Prop)→World→Prop) (st:ι→St) (i0:ι) (h0:Inv i0 B w0) (hlp:aC8 g=true) (hin:Good P B w0 γ0 nt Q ⟨g.k,st i0⟩→Good P B w0 γ0 nt Q g)
  (step:∀ i B w0,Inv i B w0→(∀ j B' w',Inv j B' w'→μ j<μ i→Good P B' w' γ0 nt Q ⟨g.k,st j⟩)→Good P B w0 γ0 nt Q (rnd ⟨g.k,st i⟩)):Good P B w0 γ0 nt Q g:=by
 have hl:∀ i,aC8 ⟨g.k,st i⟩=true:=fun i=>hlp
 have key:∀ n i B' w',μ i=n→Inv i B' w'→Good P B' w' γ0 nt Q ⟨g.k,st i⟩:=by
  intro n
  induction n using Nat.strongRecOn with
  | _ n ih=>
    intro i B' w' hi hI
    exact aEg (hl i) (step i B' w' hI (fun j B2 w2 hj hlt=>ih (μ j) (hi ▸ hlt) j B2 w2 rfl hj))
 exact hin (key _ i0 B w0 rfl h0)
end
end Go.Sy
end
end
section
noncomputable section
namespace Go.Sy
open Go Go.RowKit
mutual
def rW:AV→Bool
 | .v _=>true
 | .ptr _ _=>true
 | .sl _ _ _ _=>true
 | .slg _ off len esz=>match esz with
   | 0=>false
   | _+1=>match off with
     | 0=>true
     | _+1=>match len with
       | 0=>false
       | _+1=>true
 | .agg l=>qR l
 | .tup l=>qR l
 | .ifc _ a=>rW a
 | .fn _ l r=>match qR l with
   | true=>qR r
   | false=>false
 | .map _=>true
def qR:List AV→Bool
 | []=>true
 | a::l=>match rW a with
   | true=>qR l
   | false=>false
end
theorem mP:∀ {l:List AV},qR l=true→∀ (i:Nat) (a:AV),l[i]?=some a→rW a=true
 | [],_,i,a,hi=>by simp at hi
 | b::l,h,i,a,hi=>by
   simp only [qR] at h
   split at h
   · rename_i hb
     cases i with
     | zero=>simp at hi;subst hi;exact hb
     | succ i=>exact mP h i a (by simpa using hi)
   · cases h
theorem zB {aS:List AV} {vs ws:Array Value} (h1:aS.length=vs.size) (h2:aS.length=ws.size) (h:∀ (i:Nat) (a:AV) (x y:Value),aS[i]?=some a→vs[i]?=some x→ws[i]?=some y→x=y):vs=ws:=by
 apply Array.ext (h1.symm.trans h2)
 intro i hi hj
 have ha:aS[i]?=some (aS[i]'(by omega)):=aO (by omega)
 exact h i _ _ _ ha (Array.getElem?_eq_getElem hi) (Array.getElem?_eq_getElem hj)
theorem aHv {γ:Gm} {a:AV} {x:Value} (h:VR γ a x):∀ {y:Value},rW a=true→VR γ a y→x=y:=by
 induction h with
 | v x=>intro y _ hy;cases hy;rfl
 | ptr h=>intro y _ hy;cases hy with | ptr h'=>rw [h] at h';injection h' with h';injection h' with e1 e2;subst e1;rfl
 | sl h hl=>intro y _ hy;cases hy with | sl h' hl'=>rw [h] at h';injection h' with h';injection h' with e1 e2;subst e1;rfl
 | slg h hl hm ho=>
   intro y hf hy
   cases hy with
   | slg h' hl' hm' ho'=>
     rename_i b off len esz n N o cap n' N' o' cap'
     rw [h] at h';injection h' with h';injection h' with e1 e2;subst e1 e2
     cases esz with
     | zero=>cases hf
     | succ z=>
       have hk:off=0∨0<len:=by
        cases off with
        | zero=>exact .inl rfl
        | succ _=>cases len with
          | zero=>cases hf
          | succ _=>exact .inr (by omega)
       obtain ⟨rfl,e3⟩:=ho hk
       obtain ⟨rfl,e4⟩:=ho' hk
       have:cap*(z+1)=cap'*(z+1):=by omega
       have:=Nat.eq_of_mul_eq_mul_right (Nat.succ_pos z) this
       subst this
       rfl
 | agg hl hh ih=>
   intro y hf hy
   cases hy with
   | agg hl' hh'=>exact congrArg Value.agg (zB hl hl' (fun i a x y h1 h2 h3=>ih i a x h1 h2 (mP hf i a h1) (hh' i a y h1 h3)))
 | tup hl hh ih=>
   intro y hf hy
   cases hy with
   | tup hl' hh'=>exact congrArg Value.tuple (zB hl hl' (fun i a x y h1 h2 h3=>ih i a x h1 h2 (mP hf i a h1) (hh' i a y h1 h3)))
 | ifc _ ih=>
   intro y hf hy
   cases hy with
   | ifc hy=>rw [ih hf hy]
 | fn hl hh hl2 hh2 ih ih2=>
   intro y hf hy
   simp only [rW] at hf
   split at hf <;> first | (cases hf;done) | skip
   rename_i hf1
   cases hy with
   | fn hl' hh' hl2' hh2'=>
     rw [zB hl hl' (fun i a x y h1 h2 h3=>ih i a x h1 h2 (mP hf1 i a h1) (hh' i a y h1 h3)),zB hl2 hl2' (fun i a x y h1 h2 h3=>ih2 i a x h1 h2 (mP hf i a h1) (hh2' i a y h1 h3))]
 | map h=>intro y _ hy;cases hy with | map h'=>rw [h] at h';injection h' with h';injection h' with e1 e2;subst e1;rfl
structure QCfg where
 arr:Array Oper
 l:List Oper
 k:List It
 s:St
def aC1 (g:Cfg):Option QCfg:=match g.k with
 | .code (.region _ ops true)::k=>match Region.lexB .any ops with
   | true=>some ⟨ops,ops.toList,k,g.s⟩
   | false=>none
 | _=>none
def aMp (g:Cfg):Bool:=match aC1 g with
 | some _=>true
 | none=>false
def aR2 (g:Cfg):QCfg:=match aC1 g with
 | some q=>q
 | none=>⟨#[],[],[],g.s⟩
structure GoodQ (P:Program) (B:Nat→Prop) (w0:World) (γ0:Gm) (nt:Nat) (Q:Exit→Act→World→Prop) (q:QCfg):Prop where
 out:∀ γ a w,Gm.le γ0 γ→FR γ nt q.s.T q.s.ds a→HR B P.globals.size γ q.s.h q.s.c w→Keep B w0 w→
  wpQuiet P q.arr (fun w'=>Below w.heap.size w w') (fun a'=>∀ w',Below w.heap.size w w'→after P Q q.k .normal a' w') q.l a
def aU5 (P:Program) (nt:Nat) (arr:Array Oper) (o:Oper) (l:List Oper) (k:List It) (s:St):Option QCfg:=match eE arr s.T o with
 | none=>none
 | some false=>match dK nt s.T o.dst (.tup []) with
   | none=>none
   | some T'=>some ⟨arr,l,k,⟨T',s.h,s.c,s.ds⟩⟩
 | some true=>match l7 P s.T o with
   | some av=>match dK nt s.T o.dst av with
     | none=>none
     | some T'=>some ⟨arr,l,k,⟨T',s.h,s.c,s.ds⟩⟩
   | none=>match jT P s.T s.h o with
     | some av=>match rW av with
       | true=>match dK nt s.T o.dst av with
         | none=>none
         | some T'=>some ⟨arr,l,k,⟨T',s.h,s.c,s.ds⟩⟩
       | false=>none
     | none=>none
def aFp (P:Program) (nt:Nat) (cX:List Nat) (q:QCfg):Option QCfg:=match q.l with
 | []=>none
 | o::l=>match aMq o.dst cX with
   | true=>none
   | false=>aU5 P nt q.arr o l q.k q.s
noncomputable def aL5 (P:Program) (nt:Nat) (cX:List Nat) (n:Nat):QCfg→QCfg:=
 Nat.rec (motive:=fun _=>QCfg→QCfg) (fun q=>q) (fun _ ih q=>match aFp P nt cX q with
  | some q'=>ih q'
  | none=>q) n
def qHd (P:Program) (nt:Nat) (q:QCfg):Option Oper:=match q.l with
 | o::_=>match eE q.arr q.s.T o with
   | some true=>match o.dst with
     | none=>some o
     | some d=>match Nat.blt d nt with
       | true=>some o
       | false=>none
   | _=>none
 | _=>none
def qNx (q:QCfg) (av:AV):QCfg:=match q.l with
 | o::l=>⟨q.arr,l,q.k,⟨dP o.dst q.s.T av,q.s.h,q.s.c,q.s.ds⟩⟩
 | []=>q
def aC7 (P:Program) (nt:Nat) (q:QCfg):Option (Sem Value):=match qHd P nt q with
 | none=>none
 | some o=>match nB P q.s.T o.op.operands.toList with
   | true=>aHt (sN P q.s.T) o.op
   | false=>none
def aMg (P:Program) (nt:Nat) (q:QCfg):Option (FuncId×List AV):=match qHd P nt q with
 | none=>none
 | some o=>wZ P q.s.T o
def aPr (q:QCfg) (t:Nat) (av:AV):QCfg:=⟨q.arr,q.l,q.k,⟨q.s.T.put t (some av),q.s.h,q.s.c,q.s.ds⟩⟩
def aL8 (q:QCfg):Bool:=match q.l with
 | []=>true
 | _=>false
def aUx (q:QCfg):Cfg:=⟨q.k,q.s⟩
section
variable {P:Program} {I:Aux} {B:Nat→Prop} {w0:World} {γ0:Gm} {nt:Nat} {Q:Exit→Act→World→Prop} {g:Cfg} {q q':QCfg}
theorem aLq (hm:P.follows .mixedOrders=true) (q:QCfg) (h:aC1 g=some q) (hg:GoodQ P B w0 γ0 nt Q q):Good P B w0 γ0 nt Q g:=by
 obtain ⟨k,s⟩:=g
 unfold aC1 at h
 simp only at h
 split at h <;> first | (cases h;done) | skip
 rename_i id ops k'
 split at h <;> first | (cases h;done) | skip
 rename_i hB
 injection h with h
 subst h
 refine ⟨fun γ a w hle hf hr hb=>?_⟩
 simp only [after,Exit.then]
 exact wp_region_quiet (C:=fun w'=>Below w.heap.size w w') hm hB ⟨rfl,rfl,rfl,aH _,fun _ _=>rfl⟩ (hg.out γ a w hle hf hr hb)
theorem kN (hm:P.follows .mixedOrders=true) (h:aMp g=true) (hg:GoodQ P B w0 γ0 nt Q (aR2 g)):Good P B w0 γ0 nt Q g:=by
 unfold aMp at h
 unfold aR2 at hg
 split at h
 · rename_i q hq
   rw [hq] at hg
   exact aLq hm q hq hg
 · cases h
theorem aLm {o:Oper} {l:List Oper} {T':Tr AV} {γ:Gm} {a:Act} {w:World} (hl:q.l=o::l) (hw:eE q.arr q.s.T o=some true) (hle:Gm.le γ0 γ) (hf:FR γ nt q.s.T q.s.ds a) (hr:HR B P.globals.size γ q.s.h q.s.c w) (hb:Keep B w0 w)
  (v:Value) (av:AV) (hv:VR γ av v) (hT:dK nt q.s.T o.dst av=some T') (hq:∀ w',Below w.heap.size w w'→o.quietAt P a (fun w'=>Below w.heap.size w w') w' v) (hg:GoodQ P B w0 γ0 nt Q ⟨q.arr,l,q.k,⟨T',q.s.h,q.s.c,q.s.ds⟩⟩):
  wpQuiet P q.arr (fun w'=>Below w.heap.size w w') (fun a'=>∀ w',Below w.heap.size w w'→after P Q q.k .normal a' w') q.l a:=by
 have hw':=dX (a:=a) (fun j want p t av _ _ _ ht=>hf.tmps t av ht) hw
 rw [hl]
 unfold wpQuiet
 rw [if_pos hw']
 exact ⟨v,hq,hg.out γ _ w hle (hf.put (Gm.le.refl _) hv hT) hr hb⟩
theorem sK {o:Oper} {a:Act} {C:World→Prop} {w:World} {v:Value} (h:(execOp a.eval o).run P w = .ok (.value v) w):o.quietAt P a C w v:=by
 unfold Oper.quietAt
 rw [h]
 exact ⟨rfl,rfl⟩
theorem HR.at_ {γ:Gm} {h:Hp} {c G:Nat} {w w':World} (hr:HR B G γ h c w) (hbl:Below w.heap.size w w'):HR B G γ h c w':=hr.kept hbl.size hbl.block
theorem Keep.at_ {γ:Gm} {h:Hp} {c G:Nat} {w w':World} (hb:Keep B w0 w) (hr:HR B G γ h c w) (hbl:Below w.heap.size w w'):Keep B w0 w':=hb.trans (Keep.of_below hbl hr.base)
theorem aRu {cX:List Nat} (h:aFp P nt cX q=some q') (hg:GoodQ P B w0 γ0 nt Q q'):GoodQ P B w0 γ0 nt Q q:=by
 unfold aFp at h
 split at h
 · cases h
 rename_i o l hl
 split at h
 · cases h
 refine ⟨fun γ a w hle hf hr hb=>?_⟩
 have hok:=hf.ok (P:=P) (B:=B) (G:=0) hr.glob o.op.operands.toList
 unfold aU5 at h
 split at h
 · cases h
 · rename_i hw
   have hw':=dX (a:=a) (fun j want p t av _ _ _ ht=>hf.tmps t av ht) hw
   split at h
   · cases h
   rename_i T' hT'
   injection h with h
   subst h
   rw [hl]
   unfold wpQuiet
   rw [if_neg (by simp [hw'])]
   exact hg.out γ _ w hle (hf.put (Gm.le.refl _) (kP γ) hT') hr hb
 · rename_i hw
   split at h
   · rename_i av hav
     split at h
     · cases h
     rename_i T' hT'
     injection h with h
     subst h
     obtain ⟨v,h1,h2⟩:=oC hok hav
     exact aLm hl hw hle hf hr hb v av h1 hT' (fun w' _=>sK (h2 w')) hg
   · split at h
     · rename_i av hav
       split at h <;> first | (cases h;done) | skip
       rename_i hfun
       split at h
       · cases h
       rename_i T' hT'
       injection h with h
       subst h
       obtain ⟨v,h1,h2⟩:=oK hr hok hav
       refine aLm hl hw hle hf hr hb v av h1 hT' (fun w' hbl=>?_) hg
       obtain ⟨v',h3,h4⟩:=oK (hr.at_ hbl) hok hav
       rw [aHv h1 hfun h3]
       exact sK h4
     · cases h
theorem aOg (cX:List Nat) (n:Nat) (q:QCfg):aL5 P nt cX (n+1) q=(match aFp P nt cX q with
 | some q'=>aL5 P nt cX n q'
 | none=>q):=rfl
theorem aJd {cX:List Nat}:∀ (n:Nat) (q:QCfg),GoodQ P B w0 γ0 nt Q (aL5 P nt cX n q)→GoodQ P B w0 γ0 nt Q q
 | 0,q,h=>h
 | n+1,q,h=>by
   rw [aOg] at h
   split at h
   · rename_i q' hq'
     exact aRu hq' (aJd n q' h)
   · exact h
theorem bZ (cX:List Nat) (n:Nat) (h:GoodQ P B w0 γ0 nt Q (aL5 P nt cX n q)):GoodQ P B w0 γ0 nt Q q:=aJd n q h
theorem aF2 {o:Oper} (h:qHd P nt q=some o):∃ l,q.l=o::l∧eE q.arr q.s.T o=some true∧∀ av,dK nt q.s.T o.dst av=some (dP o.dst q.s.T av):=by
 unfold qHd at h
 split at h <;> first | (cases h;done) | skip
 rename_i o' l hl
 split at h <;> first | (cases h;done) | skip
 rename_i hw
 split at h
 · rename_i hd
   injection h with h
   subst h
   exact ⟨l,hl,hw,fun av=>by unfold dK dP;rw [hd]⟩
 · rename_i d hd
   split at h <;> first | (cases h;done) | skip
   rename_i hlt
   injection h with h
   subst h
   exact ⟨l,hl,hw,fun av=>by unfold dK dP;rw [hd];simp only [hlt]⟩
theorem aM2 {o:Oper} {l:List Oper} (hl:q.l=o::l) (av:AV):qNx q av=⟨q.arr,l,q.k,⟨dP o.dst q.s.T av,q.s.h,q.s.c,q.s.ds⟩⟩:=by
 unfold qNx
 rw [hl]
theorem aFn {S:Sem Value} (x:Value) (h:aC7 P nt q=some S) (hrun:∀ w,Keep B w0 w→S.run P w = .ok x w) (hg:GoodQ P B w0 γ0 nt Q (qNx q (bW x))):GoodQ P B w0 γ0 nt Q q:=by
 unfold aC7 at h
 split at h
 · cases h
 rename_i o ho
 split at h <;> first | (cases h;done) | skip
 rename_i hcl
 obtain ⟨l,hl,hw,hput⟩:=aF2 ho
 rw [aM2 hl] at hg
 refine ⟨fun γ a w hle hf hr hb=>?_⟩
 have hok:=hf.ok (P:=P) (B:=B) (G:=0) hr.glob o.op.operands.toList
 have hns:∀ cs b,o.op = .select cs b→False:=fun cs b e=>by rw [e] at h;cases h
 have hcong:=execOp_congr (ρ:=sN P q.s.T) (ρ':=a.eval) o (fun cs b e=>(hns cs b e).elim) (fun x hx=>tF hok hcl x (by simpa using hx))
 exact aLm hl hw hle hf hr hb x (bW x) (eP x) (hput _) (fun w' hbl=>sK (by rw [← hcong];exact aBk h (hrun w' (hb.at_ hr hbl)))) hg
theorem aTf (cx:Cx P I B w0) {f:FuncId} (xs:List Value) (r:Value) (h:aMg P nt q=some (f,xs.map bW)) (hbod:dJ P f=some true) (hx:d8 (xs.map bW)=some xs)
  (hc:∀ w,Keep B w0 w→Calls P f xs.toArray w fun e w'=>e = .returned r∧Below w.heap.size w w') (hg:GoodQ P B w0 γ0 nt Q (qNx q (bW r))):GoodQ P B w0 γ0 nt Q q:=by
 unfold aMg at h
 split at h
 · cases h
 rename_i o ho
 obtain ⟨l,hl,hw,hput⟩:=aF2 ho
 rw [aM2 hl] at hg
 refine ⟨fun γ a w hle hf hr hb=>?_⟩
 have hok:=hf.ok (P:=P) (B:=B) (G:=0) hr.glob o.op.operands.toList
 obtain ⟨fn,code,hfn,hbd⟩:=iX hbod
 obtain ⟨vs,hlr,hrun⟩:=rK hok h
 obtain rfl:=eY hx hlr
 refine aLm hl hw hle hf hr hb r (bW r) (eP r) (hput _) (fun w' hbl=>?_) hg
 unfold Oper.quietAt
 rw [hrun,nA cx.hn hfn hbd]
 refine ⟨rfl,(hc w' (hb.at_ hr hbl)).mono fun e w'' hR=>⟨hR.1,hbl.trans (hR.2.mono hbl.size)⟩⟩
theorem aVr (t:Nat) {x:Value} (y:Value) (h:q.s.T.get t=some (.v x)) (e:x=y) (hg:GoodQ P B w0 γ0 nt Q (aPr q t (bW y))):GoodQ P B w0 γ0 nt Q q:=by
 subst e
 refine ⟨fun γ a w hle hf hr hb=>hg.out γ a w hle ⟨hf.size,fun t' av ht=>?_,hf.defs⟩ hr hb⟩
 simp only [aPr] at ht
 rw [Tr.get_put] at ht
 split at ht
 · rename_i e
   subst e
   injection ht with ht
   subst ht
   obtain ⟨v,h1,h2⟩:=hf.tmps _ _ h
   cases h2
   exact ⟨_,h1,eP _⟩
 · exact hf.tmps t' av ht
theorem aVj (h:aL8 q=true) (hg:Good P B w0 γ0 nt Q (aUx q)):GoodQ P B w0 γ0 nt Q q:=by
 unfold aL8 at h
 split at h <;> first | (cases h;done) | skip
 rename_i hl
 refine ⟨fun γ a w hle hf hr hb=>?_⟩
 rw [hl]
 exact fun w' hbl=>hg.out γ a w' hle hf (hr.at_ hbl) (hb.at_ hr hbl)
end
end Go.Sy
end
end
