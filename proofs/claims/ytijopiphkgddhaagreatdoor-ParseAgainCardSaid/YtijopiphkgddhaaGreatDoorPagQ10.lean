/- Texts of this proof, one behind the other. Conditions: those in each theorem. -/
import Derived.Test.YtijopiphkgddhaaGreatDoorPagQ1
import Derived.Test.YtijopiphkgddhaaGreatDoorPagQ9
import Derived.Test.YtijopiphkgddhaaGreatDoorPagQ5
import Derived.Test.YtijopiphkgddhaaGreatDoorPagQ6
import Derived.Test.YtijopiphkgddhaaGreatDoorPagQ7
import Derived.Test.YtijopiphkgddhaaGreatDoorPagQ8
import Derived.Test.YtijopiphkgddhaaGreatDoorPagQ2
set_option linter.unusedVariables false
set_option linter.unusedSimpArgs false
section
noncomputable section
namespace Go.Sy
open Go Go.RowKit
section
variable {P:Program} {I:Aux} {B:Nat→Prop} {w0:World} {γ0:Gm} {nt:Nat} {Q:Exit→Act→World→Prop} {g:Cfg}
theorem aGz (t kk ty n:Nat) (vals:List Value) (hT:g.s.T.get t=some (.v (.pointer (some ⟨kk,0,none⟩)))) (hw:w0.heap[kk]?=some (.cells vals.toArray ty (0,0))) (hB:B kk) (hn:vals.length=n) (hown:eL eA g.s.h=true)
  (hg:Good P (fun k=>B k∧¬ k=kk) w0 γ0 nt Q ⟨g.k,⟨g.s.T.put t (some (.ptr g.s.c 0)),g.s.h.put g.s.c (some (.cells ty true true true n (d6 .leaf 0 (vals.map .v)))),g.s.c+1,g.s.ds⟩⟩):Good P B w0 γ0 nt Q g:=by
 refine ⟨fun γ a w hle hf hr hk=>?_⟩
 have hkk:w.heap[kk]?=some (.cells vals.toArray ty (0,0)):=(hk.block kk hB).trans hw
 have hup:Gm.le γ (γ.upd g.s.c (kk,n)):=fun b p h=>Gm.upd_ne h (fun e=>by subst e;rw [hr.fresh _ (aH _)] at h;cases h)
 have hr1:HR (fun k=>B k∧¬ k=kk) P.globals.size γ g.s.h g.s.c w:=⟨fun b blk hb=>by
  obtain ⟨p,hp,hbr⟩:=hr.live b blk hb
  refine ⟨p,hp,?_⟩
  cases blk with
  | cells ty own cl ex lim cs=>exact ⟨fun e h=>hbr.1 e h.1,hbr.2⟩
  | map es clock=>exact ⟨fun h=>hbr.1 h.1,hbr.2⟩
  | row e xs=>exact ⟨fun h=>hbr.1 h.1,hbr.2⟩,hr.inj,hr.fresh,hr.glob,fun k hk=>hr.base k hk.1⟩
 have hself:(γ.upd g.s.c (kk,n)) g.s.c=some (kk,n):=by unfold Gm.upd;rw [if_pos rfl]
 refine hg.out (γ.upd g.s.c (kk,n)) a w (hle.trans hup) ⟨hf.size,fun t' av ht=>?_,hf.defs.mono hup⟩ (hr1.add (kk,n) _ (aH _) (fun b blk p h1 h2=>⟨rfl,fun e=>?_⟩) ⟨fun _ h=>h.2 rfl,vals.toArray,ty,(0,0),hkk,by simpa using hn,⟨fun _=>⟨rfl,rfl⟩,fun _=>⟨by simpa using hn,rfl⟩⟩,fun i av hi hc=>?_⟩) (hk.mono fun k h=>h.1)
 · simp only at ht
   rw [Tr.get_put] at ht
   split at ht
   · rename_i e
     subst e
     injection ht with ht
     subst ht
     obtain ⟨v,h1,h2⟩:=hf.tmps _ _ hT
     have:=jY (y := .pointer (some ⟨kk,0,none⟩)) rfl h2
     subst this
     exact ⟨_,h1,.ptr hself⟩
   · obtain ⟨v,h1,h2⟩:=hf.tmps t' av ht
     exact ⟨v,h1,h2.mono hup⟩
 · obtain ⟨q,hq,hbr⟩:=hr.live b blk h1
   rw [h2] at hq
   injection hq with hq
   subst hq
   exact kA (iD hown _ _ h1) hbr (e ▸ hB)
 · rw [f0,List.length_map,if_pos ⟨Nat.zero_le _,by omega⟩,Nat.sub_zero,List.getElem?_map] at hc
   obtain ⟨v,hv,rfl⟩:=aC hc
   exact ⟨v,by simpa using hv,.v _⟩
end
end Go.Sy
end
end
section
namespace Go.Proofs.YtijopiphkgddhaaGreatDoor
open Go.RowKit Go.As Go.Sy
section
variable {B:Nat→Prop} {w0:World} {γ0:Gm} {nt:Nat} {Q:Exit→Act→World→Prop} {g:Cfg} {q:QCfg}
theorem rk (h:Sy.Good Tryz.prog B w0 γ0 nt Q (run Tryz.prog syI (jE Tryz.prog syI (ev Tryz.prog syI 0)) nt [] 60 0 g)):Sy.Good Tryz.prog B w0 γ0 nt Q g:=lQ (bV _ _) 0 [] 60 0 h
theorem rs (cX:List Nat) (n au:Nat) (h:Sy.Good Tryz.prog B w0 γ0 nt Q (run Tryz.prog syI (jE Tryz.prog syI (ev Tryz.prog syI 0)) nt cX n au g)):Sy.Good Tryz.prog B w0 γ0 nt Q g:=lQ (bV _ _) 0 cX n au h
theorem gS (t:Nat) {x:Value} (y:Value) (e:x=y) (hg:Sy.Good Tryz.prog B w0 γ0 nt Q (yB g t (bW y))) (h:g.s.T.get t=some (.v x):=by kernel_rfl):Sy.Good Tryz.prog B w0 γ0 nt Q g:=nC t y h e hg
theorem gF (t:Nat) (a b:Int) (e:¬ a=b) (hg:Sy.Good Tryz.prog B w0 γ0 nt Q (yB g t (bW (.bool false)))) (h:g.s.T.get t=some (.v (.bool (intEq a b))):=by kernel_rfl):Sy.Good Tryz.prog B w0 γ0 nt Q g:=nC t (.bool false) h (by rw [lC e]) hg
theorem gT (t:Nat) (a b:Int) (e:a=b) (hg:Sy.Good Tryz.prog B w0 γ0 nt Q (yB g t (bW (.bool true)))) (h:g.s.T.get t=some (.v (.bool (intEq a b))):=by kernel_rfl):Sy.Good Tryz.prog B w0 γ0 nt Q g:=nC t (.bool true) h (by rw [nX e]) hg
theorem gV {S:Sem Value} (x:Value) (hrun:∀ w,Keep B w0 w→S.run Tryz.prog w = .ok x w) (hg:Sy.Good Tryz.prog B w0 γ0 nt Q (nx0 g (bW x))) (h:uE Tryz.prog nt g=some S:=by kernel_rfl):Sy.Good Tryz.prog B w0 γ0 nt Q g:=qG x h hrun hg
theorem gK {b:Bool} (c:Bool) (e:b=c) (hg:Sy.Good Tryz.prog B w0 γ0 nt Q (sF c g)) (h:oQ Tryz.prog g=some (.v (.bool b)):=by kernel_rfl):Sy.Good Tryz.prog B w0 γ0 nt Q g:=oP c h e hg
theorem gX {f:FuncId} (xs:List Value) (r:Value) (hc:∀ w,Keep B w0 w→Calls Tryz.prog f xs.toArray w fun e w'=>e = .returned r∧Below w.heap.size w w') (hg:Sy.Good Tryz.prog B w0 γ0 nt Q (nx0 g (bW r)))
 (h:dR Tryz.prog nt g=some (f,xs.map bW):=by kernel_rfl) (hbod:dJ Tryz.prog f=some true:=by kernel_rfl) (hx:d8 (xs.map bW)=some xs:=by kernel_rfl):Sy.Good Tryz.prog B w0 γ0 nt Q g:=gO (bV _ _) xs r h hbod hx hc hg
theorem gP {f:FuncId} (xs:List Value) (r:Value) (hc:∀ w,Keep B w0 w→Calls Tryz.prog f xs.toArray w fun e w'=>e = .returned r∧w=w') (hg:Sy.Good Tryz.prog B w0 γ0 nt Q (nx0 g (bW r)))
 (h:dR Tryz.prog nt g=some (f,xs.map bW):=by kernel_rfl) (hbod:dJ Tryz.prog f=some true:=by kernel_rfl) (hx:d8 (xs.map bW)=some xs:=by kernel_rfl):Sy.Good Tryz.prog B w0 γ0 nt Q g:=aK4 (bV _ _) xs r h hbod hx hc hg
theorem gE {f:FuncId} (xs:List Value) (Pr:Value→Prop) (hc:∀ w,Keep B w0 w→Calls Tryz.prog f xs.toArray w fun e w'=>∃ r,e = .returned r∧Pr r∧Below w.heap.size w w') (hg:∀ r w',Pr r→Keep B w0 w'→Sy.Good Tryz.prog B w0 γ0 nt Q (nx0 g (bW r)))
 (h:dR Tryz.prog nt g=some (f,xs.map bW):=by kernel_rfl) (hbod:dJ Tryz.prog f=some true:=by kernel_rfl) (hx:d8 (xs.map bW)=some xs:=by kernel_rfl):Sy.Good Tryz.prog B w0 γ0 nt Q g:=aL2 (bV _ _) xs Pr h hbod hx hc hg
theorem gN {f:FuncId} (xs:List Value) (Pr:Value→Prop) (hc:∀ w,Keep B w0 w→Calls Tryz.prog f xs.toArray w fun e w'=>∃ r,e = .returned r∧Pr r∧Below w.heap.size w w') (hg:∀ r w',Pr r→Keep B w0 w'→Sy.Good Tryz.prog B w0 γ0 nt Q (nx0 g (bW r)))
 (h:dR Tryz.prog nt g=some (f,xs.map bW):=by kernel_rfl) (hbod:dJ Tryz.prog f=some true:=by kernel_rfl):Sy.Good Tryz.prog B w0 γ0 nt Q g:=aLu (bV _ _) xs Pr h hbod hc hg
theorem gR {fn:Func} {R:Ending→World→Prop} (r:Value) (hR:∀ w,Keep B w0 w→R (.returned r) w) (h:aRk Tryz.prog fn g=some r:=by kernel_rfl):Sy.Good Tryz.prog B w0 γ0 nt (bodyPostD Tryz.prog fn R) g:=aMx r h hR
theorem gG (t b:Nat) (ty:Nat) (vals:List Value) (hg:∀ k w1 B1,Keep B w0 w1→(∀ j,B j→B1 j)→B1 k→¬ B k→(∀ j,B1 j→j<w1.heap.size)→w1.heap[k]?=some (.cells vals.toArray ty (0,0))→
  Sy.Good Tryz.prog B1 w1 γ0 nt Q ⟨g.k,⟨g.s.T.put t (some (.v (.pointer (some ⟨k,0,none⟩)))),g.s.h.put b none,g.s.c,g.s.ds⟩⟩)
 (h:g.s.T.get t=some (.ptr b 0):=by kernel_rfl) (hb:aC2 (g.s.h.get b)=some (ty,vals):=by kernel_rfl):Sy.Good Tryz.prog B w0 γ0 nt Q g:=aOb t b ty vals h hb hg
theorem aRx (x y:Operand) (a b:List UInt8) (h:a.length+b.length≤9223372036854775807) (w:World):
  ((do eqGuard .add 9 x y (.string (str a)) (.string (str b));binOp .add 9 (.string (str a)) (.string (str b))):Sem Value).run Tryz.prog w = .ok (.string (str (a++b))) w:=by
 have e:(eqGuard .add 9 x y (.string (str a)) (.string (str b))).run Tryz.prog w = .ok () w:=rfl
 rw [Sem.run_bind,e,← str_append]
 show (Op.stringOp .add (str a) (str b)).run Tryz.prog w=_
 exact run_string_add_sum w (str a) (str b) (by rw [str_size,str_size];exact h)
def aR8:Option Oper→Operand×Operand
 | some o=>match o.op with
   | .binOp _ _ x y _=>(x,y)
   | _=>(.tmp 0,.tmp 0)
 | none=>(.tmp 0,.tmp 0)
theorem gC (a b:List UInt8) (hl:a.length+b.length≤9223372036854775807) (hg:Sy.Good Tryz.prog B w0 γ0 nt Q (nx0 g (bW (.string (str (a++b))))))
  (h:uE Tryz.prog nt g=some (do eqGuard .add 9 (aR8 (eC Tryz.prog nt g)).1 (aR8 (eC Tryz.prog nt g)).2 (.string (str a)) (.string (str b));binOp .add 9 (.string (str a)) (.string (str b))):=by kernel_rfl):Sy.Good Tryz.prog B w0 γ0 nt Q g:=
 qG _ h (fun w _=>aRx _ _ a b hl w) hg
theorem qV {S:Sem Value} (x:Value) (hrun:∀ w,Keep B w0 w→S.run Tryz.prog w = .ok x w) (hg:Sy.GoodQ Tryz.prog B w0 γ0 nt Q (qNx q (bW x))) (h:aC7 Tryz.prog nt q=some S:=by kernel_rfl):Sy.GoodQ Tryz.prog B w0 γ0 nt Q q:=aFn x h hrun hg
theorem qB {f:FuncId} (xs:List Value) (r:Value) (hc:∀ w,Keep B w0 w→Calls Tryz.prog f xs.toArray w fun e w'=>e = .returned r∧Below w.heap.size w w') (hg:Sy.GoodQ Tryz.prog B w0 γ0 nt Q (qNx q (bW r)))
 (h:aMg Tryz.prog nt q=some (f,xs.map bW):=by kernel_rfl) (hbod:dJ Tryz.prog f=some true:=by kernel_rfl) (hx:d8 (xs.map bW)=some xs:=by kernel_rfl):Sy.GoodQ Tryz.prog B w0 γ0 nt Q q:=aTf (bV _ _) xs r h hbod hx hc hg
theorem qS (t:Nat) {x:Value} (y:Value) (e:x=y) (hg:Sy.GoodQ Tryz.prog B w0 γ0 nt Q (aPr q t (bW y))) (h:q.s.T.get t=some (.v x):=by kernel_rfl):Sy.GoodQ Tryz.prog B w0 γ0 nt Q q:=aVr t y h e hg
theorem qE (hg:Sy.Good Tryz.prog B w0 γ0 nt Q (aUx q)) (h:aL8 q=true:=by kernel_rfl):Sy.GoodQ Tryz.prog B w0 γ0 nt Q q:=aVj h hg
theorem pR (S:World→Prop) (hS:∀ w,Keep B w0 w→S w) (hg:Sy.Good Tryz.prog B w0 γ0 nt Q (aPg g)) (hSe:plS g=S:=by kernel_rfl) (h:aK2 g=true:=by kernel_rfl):Sy.Good Tryz.prog B w0 γ0 nt Q g:=aVv S hSe hS h hg
theorem gU (K:List It) (lT:List (Nat×AV)) (lH:List (Nat×Option Blk)) (c2:Nat) (hγ:∀ b,c2≤b→γ0 b=none) (hg:Sy.Good Tryz.prog B w0 γ0 nt Q ⟨K,⟨mkT lT,mkH lH,c2,[]⟩⟩)
 (hk:g.k=K:=by kernel_rfl) (hds:g.s.ds=[]:=by kernel_rfl) (hT:lT.map (fun p=>g.s.T.get p.1)=lT.map (fun p=>some p.2):=by kernel_rfl) (hTl:yM c2 lT=true:=by kernel_rfl)
 (hH:lH.map (fun p=>g.s.h.get p.1)=lH.map (fun p=>p.2):=by kernel_rfl) (hHl:x0 c2 lH=true:=by kernel_rfl) (hG:Nat.ble Tryz.prog.globals.size c2=true:=by kernel_rfl):Sy.Good Tryz.prog B w0 γ0 nt Q g:=vC K lT lH c2 hk hds hT hTl hH hHl hγ hG hg
end
end Go.Proofs.YtijopiphkgddhaaGreatDoor
end
section
namespace Go.Proofs.YtijopiphkgddhaaGreatDoor
open Go.RowKit Go.As Go.Sy
abbrev nI (x:Int):Value := .int .i64 x
abbrev nP (b:Nat):Value := .pointer (some ⟨b,0,none⟩)
abbrev nT (l:List UInt8):Value := .string (str l)
abbrev vI (x:Int):AV := .v (.int .i64 x)
abbrev vP (b:Nat):AV := .v (.pointer (some ⟨b,0,none⟩))
abbrev vT (l:List UInt8):AV := .v (.string (str l))
abbrev vB (b:Bool):AV := .v (.bool b)
abbrev vL (a:Option Addr) (n c:Nat):AV := .v (.slice a n c)
abbrev n8 (x:Int):Value := .int .u8 x
abbrev n6 (x:Int):Value := .int .u64 x
abbrev v8 (x:Int):AV := .v (.int .u8 x)
abbrev v6 (x:Int):AV := .v (.int .u64 x)
abbrev xA (o t b:Int) (s:List UInt8) (a:Option Addr) (n c:Nat):List AV:=[.v (.int .u8 o),.v (.int .u8 t),.v (.int .u64 b),.v (.string (str s)),.v (.slice a n c)]
noncomputable abbrev bK (t n:Nat) (l:List AV):Option Blk:=some (.cells t true true true n (d6 .leaf 0 l))
abbrev xL (o t b:Int) (s:List UInt8) (a:Option Addr) (n c:Nat):List Value:=[.int .u8 o,.int .u8 t,.int .u64 b,.string (str s),.slice a n c]
abbrev xV (o t b:Int) (s:List UInt8) (a:Option Addr) (n c:Nat):Value := .agg #[.int .u8 o,.int .u8 t,.int .u64 b,.string (str s),.slice a n c]
abbrev yL (k:Int) (m:List UInt8) (o t b:Int) (s:List UInt8) (a:Option Addr) (n c:Nat) (a1:Option Addr) (n1 c1:Nat) (a2:Option Addr) (n2 c2:Nat):List Value:=[.int .i64 k,.string (str m),.int .u8 o,.int .u8 t,.int .u64 b,.string (str s),.slice a n c,.slice a1 n1 c1,.slice a2 n2 c2]
abbrev yV (k:Int) (m:List UInt8) (o t b:Int) (s:List UInt8) (a:Option Addr) (n c:Nat) (a1:Option Addr) (n1 c1:Nat) (a2:Option Addr) (n2 c2:Nat):Value := .agg #[.int .i64 k,.string (str m),.int .u8 o,.int .u8 t,.int .u64 b,.string (str s),.slice a n c,.slice a1 n1 c1,.slice a2 n2 c2]
abbrev CB (f:FuncId) (xs:Array Value) (w:World) (x:Value):Prop:=Calls Tryz.prog f xs w fun r w'=>r = .returned x∧Below w.heap.size w w'
abbrev CP (f:FuncId) (xs:Array Value) (w:World) (x:Value):Prop:=Calls Tryz.prog f xs w fun r w'=>r = .returned x∧w=w'
theorem kU {B:Nat→Prop} {w w':World} (hk:Sy.Keep B w w'):∀ k,k<w.heap.size→k<w'.heap.size:=fun k h=>aE h hk.size
theorem gA {γ:Gm} {n c:Nat} (h:∀ b,n≤b→γ b=none):∀ b,n+c≤b→γ b=none:=fun b hb=>h b (bC (bL _ _) hb)
theorem lS1 {α:Type} {x:α} {l:List α}:l.length<(x::l).length:=Nat.lt_succ_self _
theorem eN (vs:List Value) {f:FuncId} {fn:Func} (hf:Tryz.prog.funcs[f]?=some fn) {w:World} {R:Ending→World→Prop}
 (hg:∀ γ0,(∀ b,Tryz.prog.globals.size≤b→γ0 b=none)→Sy.Good Tryz.prog (·<w.heap.size) w γ0 fn.ntmps (bodyPostD Tryz.prog fn R) (Sy.start Tryz.prog fn (vs.map bW)))
 (hb:fn.body.isSome=true:=by exact rfl) (hle:Nat.ble (vs.map bW).length fn.ntmps=true:=by exact rfl):Calls Tryz.prog f vs.toArray w R:=Sy.enter p4 hf hb (fun γ=>vE vs) hle hg
section
variable {B:Nat→Prop} {w0:World} {γ0:Gm} {nt:Nat} {Q:Exit→Act→World→Prop} {g:Cfg} {q:QCfg} {F:Nat→Prop} {w:World} {a:Option Addr} {n sz:Nat} {xs:List Value}
theorem gJ (t:Nat) {α:Type} (l:List α) (x:α) (hl:l.length+1≤9223372036854775807) (hg:Sy.Good Tryz.prog B w0 γ0 nt Q (yB g t (bW (.int .i64 ((l++[x]).length:Int)))))
  (h:g.s.T.get t=some (.v (.int .i64 (cA .i64 ((l.length:Int)+1)))):=by kernel_rfl):Sy.Good Tryz.prog B w0 γ0 nt Q g:=
 nC t (.int .i64 ((l++[x]).length:Int)) h (by rw [cR (n:=(l.length:Int)+1) (by omega) (by omega)];congr 1;simp) hg
theorem kx (a b:Int) (e:a<b) (hg:Sy.Good Tryz.prog B w0 γ0 nt Q (sF true g)) (h:oQ Tryz.prog g=some (.v (.bool (intLt a b))):=by kernel_rfl):Sy.Good Tryz.prog B w0 γ0 nt Q g:=oP true h (qC e) hg
theorem ky (a b:Int) (e:¬ a<b) (hg:Sy.Good Tryz.prog B w0 γ0 nt Q (sF false g)) (h:oQ Tryz.prog g=some (.v (.bool (intLt a b))):=by kernel_rfl):Sy.Good Tryz.prog B w0 γ0 nt Q g:=oP false h (rE e) hg
theorem kz (a b:Int) (e:a=b) (hg:Sy.Good Tryz.prog B w0 γ0 nt Q (sF true g)) (h:oQ Tryz.prog g=some (.v (.bool (intEq a b))):=by kernel_rfl):Sy.Good Tryz.prog B w0 γ0 nt Q g:=oP true h (nX e) hg
theorem kw (a b:Int) (e:¬ a=b) (hg:Sy.Good Tryz.prog B w0 γ0 nt Q (sF false g)) (h:oQ Tryz.prog g=some (.v (.bool (intEq a b))):=by kernel_rfl):Sy.Good Tryz.prog B w0 γ0 nt Q g:=oP false h (lC e) hg
theorem zx (t:Nat) (a b:Int) (e:a<b) (hg:Sy.Good Tryz.prog B w0 γ0 nt Q (yB g t (bW (.bool true)))) (h:g.s.T.get t=some (.v (.bool (intLt a b))):=by kernel_rfl):Sy.Good Tryz.prog B w0 γ0 nt Q g:=nC t (.bool true) h (by rw [qC e]) hg
theorem zy (t:Nat) (a b:Int) (e:¬ a<b) (hg:Sy.Good Tryz.prog B w0 γ0 nt Q (yB g t (bW (.bool false)))) (h:g.s.T.get t=some (.v (.bool (intLt a b))):=by kernel_rfl):Sy.Good Tryz.prog B w0 γ0 nt Q g:=nC t (.bool false) h (by rw [rE e]) hg
theorem gI (t e:TypeId) (cap i:Nat) (h:SlAt F w a n sz xs) (hin:i<n) (hg:Sy.Good Tryz.prog B w0 γ0 nt Q (nx0 g (bW (.pointer (some ⟨gB a,oB a+i*sz,none⟩)))))
  (hh:uE Tryz.prog nt g=some (Instr.indexAt t (.slice a n cap) (.int .i64 (i:Int))):=by kernel_rfl) (hu:Sy.elemOf Tryz.prog t=some e:=by kernel_rfl) (hi:szB Tryz.prog e=some sz:=by kernel_rfl):Sy.Good Tryz.prog B w0 γ0 nt Q g:=
 qG _ hh (fun W _=>aBu (e:=e) h hu hi hin W) hg
theorem qI (t e:TypeId) (cap i:Nat) (h:SlAt F w a n sz xs) (hin:i<n) (hg:Sy.GoodQ Tryz.prog B w0 γ0 nt Q (qNx q (bW (.pointer (some ⟨gB a,oB a+i*sz,none⟩)))))
  (hh:aC7 Tryz.prog nt q=some (Instr.indexAt t (.slice a n cap) (.int .i64 (i:Int))):=by kernel_rfl) (hu:Sy.elemOf Tryz.prog t=some e:=by kernel_rfl) (hi:szB Tryz.prog e=some sz:=by kernel_rfl):Sy.GoodQ Tryz.prog B w0 γ0 nt Q q:=
 aFn _ hh (fun W _=>aBu (e:=e) h hu hi hin W) hg
theorem gL (t:TypeId) (v:Value) (i o:Nat) (h:SlAt B w0 a n sz xs) (hv:xs[i*sz+o]?=some v) (hg:Sy.Good Tryz.prog B w0 γ0 nt Q (nx0 g (bW v)))
  (hh:uE Tryz.prog nt g=some (Instr.loadAt t (.pointer (some ⟨gB a,oB a+i*sz+o,none⟩))):=by kernel_rfl) (hb:aggB Tryz.prog t=some false:=by kernel_rfl):Sy.Good Tryz.prog B w0 γ0 nt Q g:=
 qG _ hh (fun W hk=>load_sl h hb i o hv hk) hg
theorem qL (t:TypeId) (v:Value) (i o:Nat) (h:SlAt B w0 a n sz xs) (hv:xs[i*sz+o]?=some v) (hg:Sy.GoodQ Tryz.prog B w0 γ0 nt Q (qNx q (bW v)))
  (hh:aC7 Tryz.prog nt q=some (Instr.loadAt t (.pointer (some ⟨gB a,oB a+i*sz+o,none⟩))):=by kernel_rfl) (hb:aggB Tryz.prog t=some false:=by kernel_rfl):Sy.GoodQ Tryz.prog B w0 γ0 nt Q q:=
 aFn _ hh (fun W hk=>load_sl h hb i o hv hk) hg
theorem gD (t:TypeId) (m:Nat) (cs:List Value) (i o:Nat) (h:SlAt B w0 a n sz xs) (hm:cs.length=m) (hc:∀ j v,cs[j]?=some v→xs[i*sz+o+j]?=some v) (hg:Sy.Good Tryz.prog B w0 γ0 nt Q (nx0 g (bW (.agg cs.toArray))))
  (hh:uE Tryz.prog nt g=some (Instr.loadAt t (.pointer (some ⟨gB a,oB a+i*sz+o,none⟩))):=by kernel_rfl) (hb:aggB Tryz.prog t=some true:=by kernel_rfl) (hs:szB Tryz.prog t=some m:=by kernel_rfl):Sy.Good Tryz.prog B w0 γ0 nt Q g:=
 qG _ hh (fun W hk=>d9 h hb hs i o hm hc hk) hg
theorem qD (t:TypeId) (m:Nat) (cs:List Value) (i o:Nat) (h:SlAt B w0 a n sz xs) (hm:cs.length=m) (hc:∀ j v,cs[j]?=some v→xs[i*sz+o+j]?=some v) (hg:Sy.GoodQ Tryz.prog B w0 γ0 nt Q (qNx q (bW (.agg cs.toArray))))
  (hh:aC7 Tryz.prog nt q=some (Instr.loadAt t (.pointer (some ⟨gB a,oB a+i*sz+o,none⟩))):=by kernel_rfl) (hb:aggB Tryz.prog t=some true:=by kernel_rfl) (hs:szB Tryz.prog t=some m:=by kernel_rfl):Sy.GoodQ Tryz.prog B w0 γ0 nt Q q:=
 aFn _ hh (fun W hk=>d9 h hb hs i o hm hc hk) hg
end
end Go.Proofs.YtijopiphkgddhaaGreatDoor
end
namespace Go.Proofs.YtijopiphkgddhaaGreatDoor
open Go.RowKit Go.As
section
def evTab:List Nat:=[1,10,100,1000,10000,100000,1000000,10000000,100000000,1000000000,10000000000,100000000000,1000000000000,10000000000000,100000000000000,1000000000000000,10000000000000000,100000000000000000,1000000000000000000,10000000000000000000]
theorem aPb {w:World} (h:Tab w):Sy.TabAt 0 evTab w:=by
 unfold Tab Lib.TabIs World.var? at h
 have hg:Tryz.prog.globalNamed "internal/strconv.uint64pow10" = some 0:=by kernel_rfl
 simp only [hg,Option.bind_some] at h
 have e:(Lib.pow10Tab.map fun z=>Value.int .u64 z).toArray=(evTab.map fun (n:Nat)=>Value.int .u64 (n:Int)).toArray:=by kernel_rfl
 rw [e] at h
 split at h
 · rename_i cs ty fz hh
   injection h with h
   subst h
   exact ⟨ty,fz,hh⟩
 · cases h
def sQ:Sy.Aux:=⟨aQj,fun _ _=>none,Tab⟩
theorem aAy:Sy.Fine Tryz.prog sQ:=Sy.fine_of aKh (fun f args av h=>by cases h) (fun w w' h hb=>h.below hb) (by kernel_rfl)
theorem aJ0:0<Tryz.prog.globals.size:=of_decide_eq_true (by kernel_rfl)
end
section
theorem aVs (γ:Sy.Gm) (vs:List Value):Sy.LR γ (vs.map .v) vs:=⟨by simp,fun i a x h1 h2=>by
 simp [h2] at h1
 subst h1
 exact .v x⟩
set_option maxRecDepth 100000 in
theorem fY {n:Nat} {f:FuncId} {fn:Func} (hf:Tryz.prog.funcs[f]?=some fn) (hb:fn.body.isSome=true) (vs:List Value)
  (h:Sy.okTrue (Sy.reckonT Tryz.prog sQ n 0 evTab f (vs.map .v))=true) (w:World) (ht:Tab w):
  Calls Tryz.prog f vs.toArray w fun e w'=>e = .returned (.bool true)∧Below w.heap.size w w':=by
 obtain ⟨γ,hc⟩:=Sy.reckonT_ret cP aAy aJ0 hf hb w (fun γ=>aVs γ vs) (fun e=>by rw [e] at h;cases h) (aPb ht) ht
 exact hc.mono fun e w' hR=>let ⟨h1,h2⟩:=Sy.ret_true h hR;⟨h1,h2.below⟩
theorem cxT {w:World} (ht:Tab w):Sy.Cx Tryz.prog sQ (·<w.heap.size) w:=⟨cP,aAy,fun w' hk=>ht.below hk.below⟩
set_option maxRecDepth 100000 in
theorem aK5:Sy.okTrue (Sy.reckonT Tryz.prog sQ 20000 0 evTab 10 (([]:List Value).map .v))=true:=by kernel_rfl
theorem aIx (w:World) (ht:Tab w):Calls Tryz.prog 10 #[] w fun e w'=>e = .returned (.bool true)∧Below w.heap.size w w':=
 fY Tryz.func10 (by kernel_rfl) [] aK5 w ht
def pkArgs0:List Value:=[.string ⟨#[40,97]⟩,.bool false,.int .i64 4,.int .i64 2]
set_option maxRecDepth 100000 in
theorem aU3:Sy.okTrue (Sy.reckonT Tryz.prog sQ 20000 0 evTab 11 (pkArgs0.map .v))=true:=by kernel_rfl
theorem pk0 (w:World) (ht:Tab w):Calls Tryz.prog 11 pkArgs0.toArray w fun e w'=>e = .returned (.bool true)∧Below w.heap.size w w':=
 fY Tryz.func11 (by kernel_rfl) pkArgs0 aU3 w ht
def pkArgs1:List Value:=[.string ⟨#[105,110,116,32,97]⟩,.bool false,.int .i64 4,.int .i64 4]
set_option maxRecDepth 100000 in
theorem aVf:Sy.okTrue (Sy.reckonT Tryz.prog sQ 20000 0 evTab 11 (pkArgs1.map .v))=true:=by kernel_rfl
theorem pk1 (w:World) (ht:Tab w):Calls Tryz.prog 11 pkArgs1.toArray w fun e w'=>e = .returned (.bool true)∧Below w.heap.size w w':=
 fY Tryz.func11 (by kernel_rfl) pkArgs1 aVf w ht
def pkArgs2:List Value:=[.string ⟨#[115,104,97,114,101,100,32,120,32,105,110,116,32,61,32,116,114,117,101,59]⟩,.bool true,.int .i64 9,.int .i64 15]
set_option maxRecDepth 100000 in
theorem aUo:Sy.okTrue (Sy.reckonT Tryz.prog sQ 20000 0 evTab 11 (pkArgs2.map .v))=true:=by kernel_rfl
theorem pk2 (w:World) (ht:Tab w):Calls Tryz.prog 11 pkArgs2.toArray w fun e w'=>e = .returned (.bool true)∧Below w.heap.size w w':=
 fY Tryz.func11 (by kernel_rfl) pkArgs2 aUo w ht
def pkArgs3:List Value:=[.string ⟨#[116,104,114,101,97,100,32,116,32,123,32,120,32,61,32,49,32,125]⟩,.bool true,.int .i64 4,.int .i64 17]
set_option maxRecDepth 100000 in
theorem aUl:Sy.okTrue (Sy.reckonT Tryz.prog sQ 20000 0 evTab 11 (pkArgs3.map .v))=true:=by kernel_rfl
theorem pk3 (w:World) (ht:Tab w):Calls Tryz.prog 11 pkArgs3.toArray w fun e w'=>e = .returned (.bool true)∧Below w.heap.size w w':=
 fY Tryz.func11 (by kernel_rfl) pkArgs3 aUl w ht
def pkArgs5:List Value:=[.string ⟨#[40,40,40,40,40,40,40,40,40,40,40,40,40,40,40,40,40,40,40,40,40,40,40,40,40,40,40,40,40,40,40,40,40]⟩,.bool false,.int .i64 160,.int .i64 32]
set_option maxRecDepth 100000 in
theorem aVa:Sy.okTrue (Sy.reckonT Tryz.prog sQ 20000 0 evTab 11 (pkArgs5.map .v))=true:=by kernel_rfl
theorem pk5 (w:World) (ht:Tab w):Calls Tryz.prog 11 pkArgs5.toArray w fun e w'=>e = .returned (.bool true)∧Below w.heap.size w w':=
 fY Tryz.func11 (by kernel_rfl) pkArgs5 aVa w ht
end
section
def pkArgs4:List Value:=[.string ⟨#[49,32,43,32,49,32,43,32,49,32,43,32,49,32,43,32,49,32,43,32,49,32,43,32,49,32,43,32,49,32,43,32,49,32,43,32,49,32,43,32,49,32,43,32,49,32,43,32,49,32,43,32,49,32,43,32,49,32,43,32,49,32,43,32,49,32,43,32,49,32,43,32,49,32,43,32,49,32,43,32,49,32,43,32,49,32,43,32,49,32,43,32,49,32,43,32,49,32,43,32,49,32,43,32,49,32,43,32,49,32,43,32,49,32,43,32,49,32,43,32,49,32,43,32,49,32,43,32,49]⟩,.bool false,.int .i64 160,.int .i64 126]
set_option maxRecDepth 100000 in
theorem aUy:Sy.okTrue (Sy.reckonT Tryz.prog sQ 20000 0 evTab 11 (pkArgs4.map .v))=true:=by kernel_rfl
theorem pk4 (w:World) (ht:Tab w):Calls Tryz.prog 11 pkArgs4.toArray w fun e w'=>e = .returned (.bool true)∧Below w.heap.size w w':=
 fY Tryz.func11 (by kernel_rfl) pkArgs4 aUy w ht
end
section
open Go.Sy in
set_option maxRecDepth 100000 in
theorem aDh (w:World) (ht:Tab w):CB 4 #[] w (.bool true):=by
 refine Sy.enterT (vs:=[]) aAy aJ0 Tryz.func4 rfl (fun γ=>LR.nil) rfl (aPb ht) (fun γ0 hγ0=>?_)
 refine lQ (cxT ht) 20000 [32] 10000 100 ?_
 refine gO (cxT ht) [] (.bool true) (by kernel_rfl) (by kernel_rfl) (by kernel_rfl) (fun W hk=>aIx W (ht.below hk.below)) ?_
 refine lQ (cxT ht) 20000 [35] 10000 100 ?_
 refine gO (cxT ht) pkArgs0 (.bool true) (by kernel_rfl) (by kernel_rfl) (by kernel_rfl) (fun W hk=>pk0 W (ht.below hk.below)) ?_
 refine lQ (cxT ht) 20000 [37] 10000 100 ?_
 refine gO (cxT ht) pkArgs1 (.bool true) (by kernel_rfl) (by kernel_rfl) (by kernel_rfl) (fun W hk=>pk1 W (ht.below hk.below)) ?_
 refine lQ (cxT ht) 20000 [40] 10000 100 ?_
 refine gO (cxT ht) pkArgs2 (.bool true) (by kernel_rfl) (by kernel_rfl) (by kernel_rfl) (fun W hk=>pk2 W (ht.below hk.below)) ?_
 refine lQ (cxT ht) 20000 [43] 10000 100 ?_
 refine gO (cxT ht) pkArgs3 (.bool true) (by kernel_rfl) (by kernel_rfl) (by kernel_rfl) (fun W hk=>pk3 W (ht.below hk.below)) ?_
 refine lQ (cxT ht) 20000 [48] 10000 100 ?_
 refine gO (cxT ht) pkArgs4 (.bool true) (by kernel_rfl) (by kernel_rfl) (by kernel_rfl) (fun W hk=>pk4 W (ht.below hk.below)) ?_
 refine lQ (cxT ht) 20000 [52] 10000 100 ?_
 refine gO (cxT ht) pkArgs5 (.bool true) (by kernel_rfl) (by kernel_rfl) (by kernel_rfl) (fun W hk=>pk5 W (ht.below hk.below)) ?_
 refine lQ (cxT ht) 20000 [] 10000 100 ?_
 exact gR (.bool true) (fun W hk=>⟨rfl,hk.below⟩)
end
section
noncomputable def gz:Nat:=Tryz.prog.globals.size
inductive Ex where
 | mk (op ty bits:Int) (name:List UInt8) (kids:List Ex)
def Ex.kids:Ex→List Ex
 | .mk _ _ _ _ k=>k
mutual
def wgt:Ex→Nat
 | .mk _ _ _ _ k=>cL k+1
def cL:List Ex→Nat
 | []=>0
 | e::l=>wgt e+cL l
end
theorem rI:∀ (l r:List Ex),cL (l++r)=cL l+cL r
 | [],r=>by simp [cL]
 | e::l,r=>by
   rw [bO]
   simp only [cL]
   rw [rI l r]
   omega
theorem fS (e:Ex):0<wgt e:=by cases e;simp only [wgt];omega
theorem qJ:∀ (l:List Ex),l.length≤cL l
 | []=>Nat.zero_le _
 | e::l=>by
   have:=qJ l
   have:=fS e
   simp only [cL,aB]
   omega
mutual
def ExAt (F:Nat→Prop) (w:World):Ex→List Value→Prop
 | .mk op ty bits name kids,cs=>∃ a cap xs,cs=[.int .u8 op,.int .u8 ty,.int .u64 bits,.string (str name),.slice a kids.length cap]∧Sy.SlAt F w a kids.length 5 xs∧ExsAt F w kids xs
def ExsAt (F:Nat→Prop) (w:World):List Ex→List Value→Prop
 | [],xs=>xs=[]
 | e::l,xs=>∃ c r,xs=c++r∧ExAt F w e c∧ExsAt F w l r
end
theorem ExAt.len {F:Nat→Prop} {w:World} {e:Ex} {cs:List Value} (h:ExAt F w e cs):cs.length=5:=by
 cases e
 simp only [ExAt] at h
 obtain ⟨a,cap,xs,rfl,_⟩:=h
 rfl
mutual
theorem ExAt.keep {F F':Nat→Prop} {w w':World} (hk:Sy.Keep F w w') (hF:∀ k,F k→F' k):∀ {e:Ex} {cs:List Value},ExAt F w e cs→ExAt F' w' e cs
 | .mk op ty bits name kids,cs,h=>by
   simp only [ExAt] at h ⊢
   obtain ⟨a,cap,xs,h1,h2,h3⟩:=h
   exact ⟨a,cap,xs,h1,(h2.keep hk).mono hF,ExsAt.keep hk hF h3⟩
theorem ExsAt.keep {F F':Nat→Prop} {w w':World} (hk:Sy.Keep F w w') (hF:∀ k,F k→F' k):∀ {l:List Ex} {xs:List Value},ExsAt F w l xs→ExsAt F' w' l xs
 | [],xs,h=>by simp only [ExsAt] at h ⊢;exact h
 | e::l,xs,h=>by
   simp only [ExsAt] at h ⊢
   obtain ⟨c,r,h1,h2,h3⟩:=h
   exact ⟨c,r,h1,ExAt.keep hk hF h2,ExsAt.keep hk hF h3⟩
end
theorem ExsAt.at_ {F:Nat→Prop} {w:World}:∀ {l1:List Ex} {e:Ex} {l3:List Ex} {xs:List Value},ExsAt F w (l1++e::l3) xs→∃ c,ExAt F w e c∧∀ j v,c[j]?=some v→xs[l1.length*5+j]?=some v
 | [],e,l3,xs,h=>by
   simp only [bR,ExsAt] at h
   obtain ⟨c,r,rfl,h2,_⟩:=h
   refine ⟨c,h2,fun j v hv=>?_⟩
   rw [aD,Nat.zero_mul,bH,bG (List.getElem?_eq_some_iff.1 hv).1]
   exact hv
 | x::l1,e,l3,xs,h=>by
   simp only [bO,ExsAt] at h
   obtain ⟨c,r,rfl,h2,h3⟩:=h
   obtain ⟨c',h4,h5⟩:=ExsAt.at_ h3
   refine ⟨c',h4,fun j v hv=>?_⟩
   have hl:=h2.len
   rw [aB,aP (by omega),show (l1.length+1)*5+j - c.length=l1.length*5+j by omega]
   exact h5 j v hv
end
section
def dC (w w':World) (k:Nat):Prop:=w.heap.size≤k∧k<w'.heap.size
def CopyPr (e:Ex) (w:World) (r:Value) (w':World):Prop:=∃ ds:List Value,r = .agg ds.toArray∧ExAt (dC w w') w' e ds
end
section
mutual
def hgt:Ex→Nat
 | .mk _ _ _ _ k=>dB k+1
def dB:List Ex→Nat
 | []=>0
 | e::l=>max (hgt e) (dB l)
end
theorem aHq:∀ (l r:List Ex),dB (l++r)=max (dB l) (dB r)
 | [],r=>by simp [dB]
 | e::l,r=>by
   rw [bO]
   simp only [dB]
   rw [aHq l r,Nat.max_assoc]
theorem aD0 (l:List Ex) (e:Ex):dB (l++[e])=max (dB l) (hgt e):=by rw [aHq];simp [dB]
mutual
theorem aCk:∀ (e:Ex),hgt e≤wgt e
 | .mk _ _ _ _ k=>by simp only [hgt,wgt];have:=sZ k;omega
theorem sZ:∀ (l:List Ex),dB l≤cL l
 | []=>aH _
 | e::l=>by simp only [dB,cL];have:=sZ l;have:=aCk e;omega
end
open Go.Sy in
set_option maxRecDepth 100000 in
theorem aIk:∀ (N:Nat) (e:Ex) (cs:List Value) (w:World),wgt e≤N→wgt e≤1099511627776→ExAt (·<w.heap.size) w e cs→
  CB 135 #[.agg cs.toArray] w (nI (hgt e:Nat)):=by
 intro N
 induction N with
 | zero=>intro e cs w h;have:=fS e;omega
 | succ N ihN=>
   intro e cs w hN hbd hat
   obtain ⟨op,ty,bits,name,kids⟩:=e
   simp only [ExAt] at hat
   obtain ⟨a,cap,xs,rfl,hsl,hks⟩:=hat
   have hhw:=aCk (.mk op ty bits name kids)
   simp only [wgt] at hN hbd
   obtain ⟨n,hn⟩:∃ n,n=kids.length:=⟨_,rfl⟩
   have hnl:=qJ kids
   rw [← hn] at hsl hnl ⊢
   refine eN [xV op ty bits name a n cap] Tryz.func135 (fun γ0 hγ0=>?_)
   refine rk ?_
   refine cF ?_
   refine cZ (fun i:List Ex×List Ex=>i.2.length) (fun i=>kids=i.1++i.2) (fun i=>⟨mkT [(3,vI ((dB i.1:Nat):Int)),(7,vL a n cap),(8,vI (n:Int)),(9,vI (i.1.length:Int))],mkH [(gz,bK 51 5 (xA op ty bits name a n cap))],gz+1,[]⟩)
    ([],kids) rfl (by kernel_rfl)
    (fun h=>gU _ [(3,vI ((dB ([]:List Ex):Nat):Int)),(7,vL a n cap),(8,vI (n:Int)),(9,vI (([]:List Ex).length:Int))] [(gz,bK 51 5 (xA op ty bits name a n cap))] (gz+1) (fun b hb=>hγ0 b (bC (Nat.le_succ _) hb)) h) ?_
   rintro ⟨l1,l2⟩ hI ih
   have hI:kids=l1++l2:=hI
   have hn2:n=l1.length+l2.length:=by rw [hn,hI,aA]
   have hw1:cL kids=cL l1+cL l2:=by rw [hI,rI]
   have hh1:=sZ l1
   refine rk ?_
   cases l2 with
   | nil=>
     have hn3:n=l1.length:=by rw [hn2];simp
     refine ky (l1.length:Int) (n:Int) (by omega) (rk ?_)
     refine gR (nI (cA .i64 ((dB l1:Nat)+1))) (fun W hk=>⟨?_,hk.below⟩)
     rw [cR (by omega) (by omega)]
     simp only [hgt]
     have hkl:l1=kids:=by rw [hI];simp
     rw [hkl]
     rfl
   | cons e l3=>
     have hin:l1.length<n:=by rw [hn2,aB];omega
     have hks2:=hks
     rw [hI] at hks2
     obtain ⟨c,hc,hcell⟩:=hks2.at_
     have hcl:=hc.len
     simp only [cL] at hw1
     have hwe:=fS e
     have hhe:=aCk e
     refine kx (l1.length:Int) (n:Int) (by omega) (rk ?_)
     refine gI 49 51 cap l1.length hsl hin (rk ?_)
     have hld:=fun W hk=>d9 (P:=Tryz.prog) (ty:=51) (m:=5) (cs:=c) hsl (by kernel_rfl) (by kernel_rfl) l1.length 0 hcl hcell (W:=W) hk
     have hcall:=fun W hk=>ihN e c W (by omega) (by omega) (hc.keep hk (kU hk))
     obtain ⟨op2,ty2,bits2,name2,kids2⟩:=e
     simp only [ExAt] at hc
     obtain ⟨a2,cap2,xs2,rfl,_⟩:=hc
     refine gV (xV op2 ty2 bits2 name2 a2 kids2.length cap2) (S:=Instr.loadAt 51 (.pointer (some ⟨gB a,oB a+l1.length*5+0,none⟩))) (fun W hk=>hld W hk) (rk ?_)
     refine gX [xV op2 ty2 bits2 name2 a2 kids2.length cap2] (nI (hgt (Ex.mk op2 ty2 bits2 name2 kids2):Nat)) (fun W hk=>hcall W hk) (rk ?_)
     refine gS 3 (x:=nI (if ((hgt (Ex.mk op2 ty2 bits2 name2 kids2):Nat):Int) > ((dB l1:Nat):Int) then ((hgt (Ex.mk op2 ty2 bits2 name2 kids2):Nat):Int) else ((dB l1:Nat):Int))) (nI ((dB (l1++[(Ex.mk op2 ty2 bits2 name2 kids2)]):Nat):Int)) (by rw [aD0];congr 1;split <;> omega) ?_
     refine gS 9 (x:=nI (cA .i64 ((l1.length:Int)+1))) (nI ((l1++[(Ex.mk op2 ty2 bits2 name2 kids2)]).length:Nat)) (by rw [cR (by omega) (by omega)];congr 1;simp) ?_
     exact gU _ [(3,vI ((dB (l1++[(Ex.mk op2 ty2 bits2 name2 kids2)]):Nat):Int)),(7,vL a n cap),(8,vI (n:Int)),(9,vI ((l1++[(Ex.mk op2 ty2 bits2 name2 kids2)]).length:Int))] [(gz,bK 51 5 (xA op ty bits name a n cap))] (gz+1) (fun b hb=>hγ0 b (bC (Nat.le_succ _) hb))
      (ih (l1++[(Ex.mk op2 ty2 bits2 name2 kids2)],l3) (by show kids=(l1++[_])++l3;rw [hI];simp) lS1)
end
section
noncomputable def iL (a b:Ex):Bool:=@decide (a=b) (Classical.propDecidable _)
theorem sameEx_t {a b:Ex}:iL a b=true↔a=b:=by unfold iL;exact @decide_eq_true_iff _ (Classical.propDecidable _)
theorem qT {a b:Ex} (h:a≠b):iL a b=false:=by rw [← Bool.not_eq_true,sameEx_t];exact h
theorem aLt:Tryz.prog.eqGuardType Tryz.prog.depth 42=false:=by kernel_rfl
def vEq (a b c d:Int):Bool:=Sy.intEq a c&&Sy.intEq b d
theorem pB (a b c d:Int) (k:Nat) (w:World):
  (Op.equalIn (k+2) 42 (.agg #[.int .u8 a,.int .u64 b]) (.agg #[.int .u8 c,.int .u64 d])).run Tryz.prog w = .ok (vEq a b c d) w:=by
 have h0:Tryz.prog.underlying 42=some (.struct (Tryz.prog.fieldsOf 42)):=by rw [Program.fieldsOf,Tryz.underlying42]
 rw [run_equalIn_agg w (k+1) _ _ _ h0 (by kernel_rfl)]
 have h1:=run_equalIn_int (P:=Tryz.prog) w k 39 .u8 .u8 a c Tryz.underlying39
 have h2:=run_equalIn_int (P:=Tryz.prog) w k 40 .u64 .u64 b d Tryz.underlying40
 rw [Program.fieldsOf,Tryz.underlying42]
 unfold vEq
 rw [Sy.intEq_eq,Sy.intEq_eq]
 go_simp
 by_cases ha:a=c <;> by_cases hb:b=d <;> simp [ha,hb]
theorem _root_.Go.Sy.eqG2 {P:Program} {w:World} {m:Sem Unit} {n:Sem Value} {r:Value} (h1:m.run P w = .ok () w) (h2:n.run P w = .ok r w):(do m;n:Sem Value).run P w = .ok r w:=by
 rw [Sem.run_bind,h1]
 exact h2
theorem aFd (ox oy:Operand) (a b c d:Int) (w:World):
  (do eqGuard .neq 42 ox oy (.agg #[.int .u8 a,.int .u64 b]) (.agg #[.int .u8 c,.int .u64 d]);binOp .neq 42 (.agg #[.int .u8 a,.int .u64 b]) (.agg #[.int .u8 c,.int .u64 d]):Sem Value).run Tryz.prog w = .ok (.bool (!(vEq a b c d))) w:=by
 have h1:(eqGuard .neq 42 ox oy (.agg #[.int .u8 a,.int .u64 b]) (.agg #[.int .u8 c,.int .u64 d])).run Tryz.prog w = .ok () w:=by
  unfold eqGuard
  go_simp
 have h2:(binOp .neq 42 (.agg #[.int .u8 a,.int .u64 b]) (.agg #[.int .u8 c,.int .u64 d])).run Tryz.prog w = .ok (.bool (!(vEq a b c d))) w:=by
  rw [run_neq_struct,pB]
  rfl
 exact Sy.eqG2 h1 h2
open Go.Sy in
set_option maxRecDepth 100000 in
theorem aGd:∀ (N:Nat) (e1 e2:Ex) (cs1 cs2:List Value) (w:World),wgt e1≤N→wgt e1≤1099511627776→ExAt (·<w.heap.size) w e1 cs1→ExAt (·<w.heap.size) w e2 cs2→
  CB 64 #[.agg cs1.toArray,.agg cs2.toArray] w (.bool (iL e1 e2)):=by
 intro N
 induction N with
 | zero=>intro e1 e2 cs1 cs2 w h;have:=fS e1;omega
 | succ N ihN=>
   intro e1 e2 cs1 cs2 w hN hbd hat1 hat2
   obtain ⟨op1,ty1,bits1,name1,kids1⟩:=e1
   obtain ⟨op2,ty2,bits2,name2,kids2⟩:=e2
   simp only [ExAt] at hat1 hat2
   obtain ⟨a1,cap1,xs1,rfl,hsl1,hks1⟩:=hat1
   obtain ⟨a2,cap2,xs2,rfl,hsl2,hks2⟩:=hat2
   simp only [wgt] at hN hbd
   obtain ⟨n1,hn1⟩:∃ n,n=kids1.length:=⟨_,rfl⟩
   obtain ⟨n2,hn2⟩:∃ n,n=kids2.length:=⟨_,rfl⟩
   have hnl:=qJ kids1
   rw [← hn1] at hsl1 hnl ⊢
   rw [← hn2] at hsl2 ⊢
   refine eN [xV op1 ty1 bits1 name1 a1 n1 cap1,xV op2 ty2 bits2 name2 a2 n2 cap2] Tryz.func64 (fun γ0 hγ0=>?_)
   refine rs [12] 60 0 ?_
   rcases aJ (intEq op1 op2) with hop | hop
   rotate_left
   · refine gS 10 (x := .bool (!(intEq op1 op2))) (.bool true) (by rw [hop];rfl) ?_
     refine gS 11 (x := .bool (!(intEq op1 op2))) (.bool true) (by rw [hop];rfl) (rs [] 60 2 ?_)
     refine gR (.bool false) (fun W hk=>⟨?_,hk.below⟩)
     rw [qT]
     intro h
     injection h
     rw [intEq_eq] at hop;simp_all
   refine gS 10 (x := .bool (!(intEq op1 op2))) (.bool false) (by rw [hop];rfl) ?_
   refine gS 11 (x := .bool (!(intEq op1 op2))) (.bool false) (by rw [hop];rfl) (rs [16] 60 0 ?_)
   refine gV (.bool (!(vEq ty1 bits1 ty2 bits2))) (S:=(do eqGuard .neq 42 (.tmp 13) (.tmp 15) (.agg #[n8 ty1,n6 bits1]) (.agg #[n8 ty2,n6 bits2]);binOp .neq 42 (.agg #[n8 ty1,n6 bits1]) (.agg #[n8 ty2,n6 bits2]))) (fun W _=>aFd _ _ _ _ _ _ W) (rs [19] 60 0 ?_)
   rcases aJ (vEq ty1 bits1 ty2 bits2) with hva | hva
   rotate_left
   · refine gS 16 (x := .bool (!(vEq ty1 bits1 ty2 bits2))) (.bool true) (by rw [hva];rfl) ?_
     refine gS 17 (x := .bool (!(vEq ty1 bits1 ty2 bits2))) (.bool true) (by rw [hva];rfl) ?_
     refine gS 18 (x := .bool (!(vEq ty1 bits1 ty2 bits2))) (.bool true) (by rw [hva];rfl) (rs [] 60 2 ?_)
     refine gR (.bool false) (fun W hk=>⟨?_,hk.below⟩)
     rw [qT]
     intro h
     injection h
     simp only [vEq,intEq_eq] at hva;simp_all
   refine gS 16 (x := .bool (!(vEq ty1 bits1 ty2 bits2))) (.bool false) (by rw [hva];rfl) ?_
   refine gS 17 (x := .bool (!(vEq ty1 bits1 ty2 bits2))) (.bool false) (by rw [hva];rfl) ?_
   refine gS 18 (x := .bool (!(vEq ty1 bits1 ty2 bits2))) (.bool false) (by rw [hva];rfl) (rs [26] 60 0 ?_)
   rcases aJ (bEqL name1 name2) with hna | hna
   rotate_left
   · refine gS 23 (x := .bool (!(bEqL name1 name2))) (.bool true) (by rw [hna];rfl) ?_
     refine gS 24 (x := .bool (!(bEqL name1 name2))) (.bool true) (by rw [hna];rfl) ?_
     refine gS 25 (x := .bool (!(bEqL name1 name2))) (.bool true) (by rw [hna];rfl) (rs [] 60 2 ?_)
     refine gR (.bool false) (fun W hk=>⟨?_,hk.below⟩)
     rw [qT]
     intro h
     injection h
     rw [bEqL_eq] at hna;simp_all
   refine gS 23 (x := .bool (!(bEqL name1 name2))) (.bool false) (by rw [hna];rfl) ?_
   refine gS 24 (x := .bool (!(bEqL name1 name2))) (.bool false) (by rw [hna];rfl) ?_
   refine gS 25 (x := .bool (!(bEqL name1 name2))) (.bool false) (by rw [hna];rfl) (rk ?_)
   refine cJ (b:=!(intEq (n1:Int) (n2:Int))) (by kernel_rfl) (fun hnn=>?_) (fun hnn=>?_)
   · refine rs [] 60 2 ?_
     refine gR (.bool false) (fun W hk=>⟨?_,hk.below⟩)
     rw [qT]
     intro h
     injection h
     rw [intEq_eq] at hnn;simp_all
   have hnn1:n1=n2:=by rw [intEq_eq] at hnn;have:(n1:Int)=(n2:Int):=(by simpa using hnn);omega
   have hop1:op1=op2:=by rw [intEq_eq] at hop;simpa using hop
   have ⟨hty1,hbi1⟩:ty1=ty2∧bits1=bits2:=by simp only [vEq,intEq_eq] at hva;simpa using hva
   have hna1:name1=name2:=by rw [bEqL_eq] at hna;simpa using hna
   refine rk ?_
   refine cF ?_
   refine cZ (fun i:List Ex×List Ex×List Ex=>i.2.1.length) (fun i=>kids1=i.1++i.2.1∧kids2=i.1++i.2.2) (fun i=>⟨mkT [(2,.ptr gz 0),(3,.ptr (gz+1) 0),(5,vI (i.1.length:Int))],mkH [(gz,bK 51 5 (xA op1 ty1 bits1 name1 a1 n1 cap1)),(gz+1,bK 51 5 (xA op2 ty2 bits2 name2 a2 n2 cap2))],gz+2,[]⟩)
    ([],kids1,kids2) ⟨rfl,rfl⟩ (by kernel_rfl)
    (fun h=>gU _ [(2,.ptr gz 0),(3,.ptr (gz+1) 0),(5,vI (([]:List Ex).length:Int))] [(gz,bK 51 5 (xA op1 ty1 bits1 name1 a1 n1 cap1)),(gz+1,bK 51 5 (xA op2 ty2 bits2 name2 a2 n2 cap2))] (gz+2) (fun b hb=>hγ0 b (bC (bL _ 2) hb)) h) ?_
   rintro ⟨l1,l2,m2⟩ ⟨hI1,hI2⟩ ih
   simp only at hI1 hI2
   have hq1:n1=l1.length+l2.length:=by rw [hn1,hI1,aA]
   have hq2:n2=l1.length+m2.length:=by rw [hn2,hI2,aA]
   have hw1:cL kids1=cL l1+cL l2:=by rw [hI1,rI]
   refine rk ?_
   cases l2 with
   | nil=>
     obtain rfl:m2=[]:=aF (by simp only [aD] at hq1;omega)
     refine ky (l1.length:Int) (n1:Int) (by rw [hq1];simp) (rk ?_)
     refine gR (.bool true) (fun W hk=>⟨?_,hk.below⟩)
     rw [sameEx_t.2 (by rw [hI1,hI2,hop1,hty1,hbi1,hna1])]
   | cons e1 l3=>
     obtain ⟨e2,m3,rfl⟩:∃ e2 m3,m2=e2::m3:=by
      cases m2 with
      | nil=>simp only [aD,aB] at hq1 hq2;omega
      | cons a b=>exact ⟨a,b,rfl⟩
     have hin1:l1.length<n1:=by rw [hq1,aB];omega
     have hin2:l1.length<n2:=by omega
     have hks1':=hks1
     have hks2':=hks2
     rw [hI1] at hks1'
     rw [hI2] at hks2'
     obtain ⟨c1,hc1,hcell1⟩:=hks1'.at_
     obtain ⟨c2,hc2,hcell2⟩:=hks2'.at_
     have hcl1:=hc1.len
     have hcl2:=hc2.len
     simp only [cL] at hw1
     refine kx (l1.length:Int) (n1:Int) (by omega) (rk ?_)
     refine kN cP (by kernel_rfl) ?_
     refine bZ [] 60 ?_
     refine qI 49 51 cap1 l1.length hsl1 hin1 ?_
     have hld1:=fun W hk=>d9 (P:=Tryz.prog) (ty:=51) (m:=5) (cs:=c1) hsl1 (by kernel_rfl) (by kernel_rfl) l1.length 0 hcl1 hcell1 (W:=W) hk
     have hld2:=fun W hk=>d9 (P:=Tryz.prog) (ty:=51) (m:=5) (cs:=c2) hsl2 (by kernel_rfl) (by kernel_rfl) l1.length 0 hcl2 hcell2 (W:=W) hk
     have hcall:=fun W hk=>ihN e1 e2 c1 c2 W (by omega) (by omega) (hc1.keep hk (kU hk)) (hc2.keep hk (kU hk))
     obtain ⟨op3,ty3,bits3,name3,kids3⟩:=e1
     obtain ⟨op4,ty4,bits4,name4,kids4⟩:=e2
     simp only [ExAt] at hc1 hc2
     obtain ⟨a3,cap3,xs3,rfl,_⟩:=hc1
     obtain ⟨a4,cap4,xs4,rfl,_⟩:=hc2
     refine bZ [] 60 ?_
     refine qV (xV op3 ty3 bits3 name3 a3 kids3.length cap3) (S:=Instr.loadAt 51 (.pointer (some ⟨gB a1,oB a1+l1.length*5+0,none⟩))) (fun W hk=>hld1 W hk) ?_
     refine bZ [] 60 ?_
     refine qI 49 51 cap2 l1.length hsl2 hin2 ?_
     refine bZ [] 60 ?_
     refine qV (xV op4 ty4 bits4 name4 a4 kids4.length cap4) (S:=Instr.loadAt 51 (.pointer (some ⟨gB a2,oB a2+l1.length*5+0,none⟩))) (fun W hk=>hld2 W hk) ?_
     refine bZ [] 60 ?_
     refine qB [xV op3 ty3 bits3 name3 a3 kids3.length cap3,xV op4 ty4 bits4 name4 a4 kids4.length cap4] (.bool (iL (Ex.mk op3 ty3 bits3 name3 kids3) (Ex.mk op4 ty4 bits4 name4 kids4))) (fun W hk=>hcall W hk) ?_
     refine bZ [] 60 ?_
     refine qE ?_
     refine rk ?_
     refine cJ (b:=!(iL (Ex.mk op3 ty3 bits3 name3 kids3) (Ex.mk op4 ty4 bits4 name4 kids4))) (by kernel_rfl) (fun hss=>?_) (fun hss=>?_)
     · refine rs [] 60 2 ?_
       refine gR (.bool false) (fun W hk=>⟨?_,hk.below⟩)
       rw [qT]
       intro h
       injection h with _ _ _ _ h
       rw [hI1,hI2] at h
       have h2:=(List.cons.inj (aZ h)).1
       rw [sameEx_t.2 h2] at hss
       cases hss
     · have hss1:=sameEx_t.1 (show iL (Ex.mk op3 ty3 bits3 name3 kids3) (Ex.mk op4 ty4 bits4 name4 kids4)=true by simpa using hss)
       refine rs [] 60 2 ?_
       refine gS 5 (x:=nI (cA .i64 ((l1.length:Int)+1))) (nI ((l1++[(Ex.mk op3 ty3 bits3 name3 kids3)]).length:Nat)) (by rw [cR (by omega) (by omega)];congr 1;simp) ?_
       exact gU _ [(2,.ptr gz 0),(3,.ptr (gz+1) 0),(5,vI ((l1++[(Ex.mk op3 ty3 bits3 name3 kids3)]).length:Int))] [(gz,bK 51 5 (xA op1 ty1 bits1 name1 a1 n1 cap1)),(gz+1,bK 51 5 (xA op2 ty2 bits2 name2 a2 n2 cap2))] (gz+2) (fun b hb=>hγ0 b (bC (bL _ 2) hb))
        (ih (l1++[(Ex.mk op3 ty3 bits3 name3 kids3)],l3,m3) (by
         constructor
         · show kids1=(l1++[_])++l3;rw [hI1];simp
         · show kids2=(l1++[_])++m3;rw [hI2,hss1];simp) lS1)
end
section
def LsAt {α:Type} (A:α→List Value→Prop):List α→List Value→Prop
 | [],xs=>xs=[]
 | e::l,xs=>∃ c r,xs=c++r∧A e c∧LsAt A l r
theorem LsAt.imp {α:Type} {A A':α→List Value→Prop} (h:∀ e c,A e c→A' e c):∀ {l:List α} {xs:List Value},LsAt A l xs→LsAt A' l xs
 | [],xs,hx=>hx
 | e::l,xs,⟨c,r,h1,h2,h3⟩=>⟨c,r,h1,h e c h2,LsAt.imp h h3⟩
theorem LsAt.snoc {α:Type} {A:α→List Value→Prop} {e:α} {c:List Value}:∀ {l:List α} {xs:List Value},LsAt A l xs→A e c→LsAt A (l++[e]) (xs++c)
 | [],xs,h,hc=>by
   obtain rfl:xs=[]:=h
   exact ⟨c,[],by simp,hc,rfl⟩
 | x::l,xs,⟨c1,r,h1,h2,h3⟩,hc=>⟨c1,r++c,by rw [h1];simp,h2,LsAt.snoc h3 hc⟩
theorem LsAt.at_ {α:Type} {A:α→List Value→Prop} {k:Nat} (hk:∀ e c,A e c→c.length=k):∀ {l1:List α} {e:α} {l3:List α} {xs:List Value},LsAt A (l1++e::l3) xs→∃ c,A e c∧∀ j v,c[j]?=some v→xs[l1.length*k+j]?=some v
 | [],e,l3,xs,⟨c,r,h1,h2,h3⟩=>by
   subst h1
   refine ⟨c,h2,fun j v hv=>?_⟩
   rw [aD,Nat.zero_mul,bH,bG (List.getElem?_eq_some_iff.1 hv).1]
   exact hv
 | x::l1,e,l3,xs,⟨c,r,h1,h2,h3⟩=>by
   subst h1
   obtain ⟨c',h4,h5⟩:=LsAt.at_ hk h3
   refine ⟨c',h4,fun j v hv=>?_⟩
   have hl:=hk _ _ h2
   rw [aB,Nat.succ_mul,aP (by omega),show l1.length*k+k+j - c.length=l1.length*k+j by omega]
   exact h5 j v hv
theorem rU {c xs:List Value} {b:Nat} (h:∀ j v,c[j]?=some v→xs[b+j]?=some v) (o:Nat) {m:List Value} (hm:∀ j v,m[j]?=some v→c[o+j]?=some v):∀ j v,m[j]?=some v→xs[b+o+j]?=some v:=fun j v hv=>by
 rw [Nat.add_assoc]
 exact h _ _ (hm j v hv)
theorem zG (p m q:List Value):∀ j v,m[j]?=some v→(p++m++q)[p.length+j]?=some v:=fun j v hv=>by
 have hj:=(List.getElem?_eq_some_iff.1 hv).1
 rw [aK,aP (by omega),show p.length+j - p.length=j by omega,bG hj]
 exact hv
inductive St where
 | mk (kind:Int) (name:List UInt8) (e:Ex) (body els:List St)
mutual
def swt:St→Nat
 | .mk _ _ e b l=>1+wgt e+cS b+cS l
def cS:List St→Nat
 | []=>0
 | s::l=>swt s+cS l
end
theorem vR:∀ (l r:List St),cS (l++r)=cS l+cS r
 | [],r=>by simp [cS]
 | e::l,r=>by
   rw [bO]
   simp only [cS]
   rw [vR l r]
   omega
theorem aDf (s:St):0<swt s:=by cases s;simp only [swt];omega
theorem jQ:∀ (l:List St),l.length≤cS l
 | []=>Nat.zero_le _
 | e::l=>by
   have:=jQ l
   have:=aDf e
   simp only [cS,aB]
   omega
mutual
def StAt (F:Nat→Prop) (w:World):St→List Value→Prop
 | .mk kind name e body els,cs=>∃ ec a cap xs b cap2 ys,cs = .int .i64 kind :: .string (str name)::(ec++[.slice a body.length cap,.slice b els.length cap2])∧ExAt F w e ec∧Sy.SlAt F w a body.length 9 xs∧StsAt F w body xs∧Sy.SlAt F w b els.length 9 ys∧StsAt F w els ys
def StsAt (F:Nat→Prop) (w:World):List St→List Value→Prop
 | [],xs=>xs=[]
 | e::l,xs=>∃ c r,xs=c++r∧StAt F w e c∧StsAt F w l r
end
theorem StsAt_ls {F:Nat→Prop} {w:World}:∀ {l:List St} {xs:List Value},StsAt F w l xs↔LsAt (StAt F w) l xs
 | [],xs=>by simp only [StsAt,LsAt]
 | e::l,xs=>by
   simp only [StsAt,LsAt]
   exact ⟨fun ⟨c,r,h1,h2,h3⟩=>⟨c,r,h1,h2,StsAt_ls.1 h3⟩,fun ⟨c,r,h1,h2,h3⟩=>⟨c,r,h1,h2,StsAt_ls.2 h3⟩⟩
theorem ExsAt_ls {F:Nat→Prop} {w:World}:∀ {l:List Ex} {xs:List Value},ExsAt F w l xs↔LsAt (ExAt F w) l xs
 | [],xs=>by simp only [ExsAt,LsAt]
 | e::l,xs=>by
   simp only [ExsAt,LsAt]
   exact ⟨fun ⟨c,r,h1,h2,h3⟩=>⟨c,r,h1,h2,ExsAt_ls.1 h3⟩,fun ⟨c,r,h1,h2,h3⟩=>⟨c,r,h1,h2,ExsAt_ls.2 h3⟩⟩
theorem StAt.len {F:Nat→Prop} {w:World} {s:St} {cs:List Value} (h:StAt F w s cs):cs.length=9:=by
 cases s
 simp only [StAt] at h
 obtain ⟨ec,a,cap,xs,b,cap2,ys,rfl,h2,_⟩:=h
 have:=h2.len
 simp [this]
mutual
theorem StAt.keep {F F':Nat→Prop} {w w':World} (hk:Sy.Keep F w w') (hF:∀ k,F k→F' k):∀ {s:St} {cs:List Value},StAt F w s cs→StAt F' w' s cs
 | .mk kind name e body els,cs,h=>by
   simp only [StAt] at h ⊢
   obtain ⟨ec,a,cap,xs,b,cap2,ys,h1,h2,h3,h4,h5,h6⟩:=h
   exact ⟨ec,a,cap,xs,b,cap2,ys,h1,h2.keep hk hF,(h3.keep hk).mono hF,StsAt.keep hk hF h4,(h5.keep hk).mono hF,StsAt.keep hk hF h6⟩
theorem StsAt.keep {F F':Nat→Prop} {w w':World} (hk:Sy.Keep F w w') (hF:∀ k,F k→F' k):∀ {l:List St} {xs:List Value},StsAt F w l xs→StsAt F' w' l xs
 | [],xs,h=>by simp only [StsAt] at h ⊢;exact h
 | e::l,xs,h=>by
   simp only [StsAt] at h ⊢
   obtain ⟨c,r,h1,h2,h3⟩:=h
   exact ⟨c,r,h1,StAt.keep hk hF h2,StsAt.keep hk hF h3⟩
end
theorem StsAt.at_ {F:Nat→Prop} {w:World} {l1:List St} {e:St} {l3:List St} {xs:List Value} (h:StsAt F w (l1++e::l3) xs):∃ c,StAt F w e c∧∀ j v,c[j]?=some v→xs[l1.length*9+j]?=some v:=
 LsAt.at_ (fun _ _ h=>h.len) (StsAt_ls.1 h)
structure Vr where
 name:List UInt8
 ty:Int
 bits:Int
def VrAt (v:Vr) (cs:List Value):Prop:=cs=[.string (str v.name),.int .u8 v.ty,.int .u64 v.bits]
theorem VrAt.len {v:Vr} {cs:List Value} (h:VrAt v cs):cs.length=3:=by rw [h];rfl
def TxAt (s:List UInt8) (cs:List Value):Prop:=cs=[.string (str s)]
theorem TxAt.len {v:List UInt8} {cs:List Value} (h:TxAt v cs):cs.length=1:=by rw [h];rfl
structure Th where
 name:List UInt8
 locals:List Vr
 body:List St
def ThAt (F:Nat→Prop) (w:World) (t:Th) (cs:List Value):Prop:=
 ∃ a cap xs b cap2 ys,cs=[.string (str t.name),.slice a t.locals.length cap,.slice b t.body.length cap2]∧Sy.SlAt F w a t.locals.length 3 xs∧LsAt VrAt t.locals xs∧Sy.SlAt F w b t.body.length 9 ys∧StsAt F w t.body ys
theorem ThAt.len {F:Nat→Prop} {w:World} {t:Th} {cs:List Value} (h:ThAt F w t cs):cs.length=3:=by
 obtain ⟨a,cap,xs,b,cap2,ys,rfl,_⟩:=h;rfl
theorem ThAt.keep {F F':Nat→Prop} {w w':World} (hk:Sy.Keep F w w') (hF:∀ k,F k→F' k) {t:Th} {cs:List Value} (h:ThAt F w t cs):ThAt F' w' t cs:=by
 obtain ⟨a,cap,xs,b,cap2,ys,h1,h2,h3,h4,h5⟩:=h
 exact ⟨a,cap,xs,b,cap2,ys,h1,(h2.keep hk).mono hF,h3,(h4.keep hk).mono hF,h5.keep hk hF⟩
structure Pg where
 shared:List Vr
 mutexes:List (List UInt8)
 threads:List Th
def PgAt (F:Nat→Prop) (w:World) (p:Pg) (cs:List Value):Prop:=
 ∃ a cap xs b cap2 ys d cap3 zs,cs=[.slice a p.shared.length cap,.slice b p.mutexes.length cap2,.slice d p.threads.length cap3]∧Sy.SlAt F w a p.shared.length 3 xs∧LsAt VrAt p.shared xs∧Sy.SlAt F w b p.mutexes.length 1 ys∧LsAt TxAt p.mutexes ys∧Sy.SlAt F w d p.threads.length 3 zs∧LsAt (ThAt F w) p.threads zs
theorem PgAt.keep {F F':Nat→Prop} {w w':World} (hk:Sy.Keep F w w') (hF:∀ k,F k→F' k) {p:Pg} {cs:List Value} (h:PgAt F w p cs):PgAt F' w' p cs:=by
 obtain ⟨a,cap,xs,b,cap2,ys,d,cap3,zs,h1,h2,h3,h4,h5,h6,h7⟩:=h
 exact ⟨a,cap,xs,b,cap2,ys,d,cap3,zs,h1,(h2.keep hk).mono hF,h3,(h4.keep hk).mono hF,h5,(h6.keep hk).mono hF,h7.imp (fun _ _ h=>h.keep hk hF)⟩
def thw (t:Th):Nat:=1+t.locals.length+cS t.body
def fZ:List Th→Nat
 | []=>0
 | t::l=>thw t+fZ l
theorem aAz:∀ (l r:List Th),fZ (l++r)=fZ l+fZ r
 | [],r=>by simp [fZ]
 | e::l,r=>by
   rw [bO]
   simp only [fZ]
   rw [aAz l r]
   omega
theorem aAm:∀ (l:List Th),l.length≤fZ l
 | []=>Nat.zero_le _
 | e::l=>by
   have:=aAm l
   simp only [fZ,aB,thw]
   omega
def pwt (p:Pg):Nat:=p.shared.length+p.mutexes.length+fZ p.threads
end
section
structure Tok where
 kind:Int
 text:List UInt8
 pos:Int
 ty:Int
 bits:Int
def TokAt (k:Tok) (cs:List Value):Prop:=cs=[.int .i64 k.kind,.string (str k.text),.int .i64 k.pos,.int .u8 k.ty,.int .u64 k.bits]
theorem TokAt.len {k:Tok} {cs:List Value} (h:TokAt k cs):cs.length=5:=by subst h;rfl
structure Rd where
 toks:List Tok
 fin:Int
 nest:Int
 blocks:Int
def dG (a:Option Addr) (n cap:Nat) (r:Rd):List Value:=[.slice a n cap,.int .i64 r.fin,.int .i64 r.nest,.int .i64 r.blocks]
def RdAt (F:Nat→Prop) (w:World) (b:Nat) (r:Rd):Prop:=
 ∃ a n cap xs,w.heap[b]?=some (.cells (dG a n cap r).toArray 61 (0,0))∧n=r.toks.length∧n≤cap∧n≤1000000000∧Sy.SlAt F w a n 5 xs∧LsAt TokAt r.toks xs∧¬ F b∧∀ t∈r.toks,t.text.length≤16384
theorem mH {F:Nat→Prop} {w:World} {k ty n:Nat} {vals:List Value} (h:w.heap[k]?=some (.cells vals.toArray ty (0,0))) (hF:F k) (hn:vals.length=n):Sy.SlAt F w (some ⟨k,0,none⟩) 1 n vals:=
 ⟨by omega,.inr ⟨rfl,hF,fun j v hv=>by
  simp only [World.cell?,Sy.gB,Sy.oB,bH]
  rw [h]
  simpa using hv⟩⟩
theorem ldB {F:Nat→Prop} {w:World} {b o sz:Nat} {xs:List Value} {ty:TypeId} (h:Sy.SlAt F w (some ⟨b,o,none⟩) 1 sz xs) (hb:Sy.aggB Tryz.prog ty=some false) (j:Nat) {v:Value} (hv:xs[j]?=some v) {W:World} (hk:Sy.Keep F w W):
  (Instr.loadAt ty (.pointer (some ⟨b,o+j,none⟩))).run Tryz.prog W = .ok v W:=by
 have:=Sy.load_sl h hb 0 j (by simpa using hv) hk
 simpa [Sy.gB,Sy.oB] using this
theorem rY {F:Nat→Prop} {w:World} {a:Option Addr} {n cap:Nat} {c xs:List Value} (h:Sy.SlAt F w a (n+1) 5 (c++xs)) (hc:c.length=5) (hn:n+1≤cap):
  Sy.SlAt F w (if cap=1 then a else a.map (·.add 5)) n 5 xs:=by
 have hl:=h.len
 rw [aA] at hl
 refine ⟨by omega,?_⟩
 by_cases h0:n=0
 · exact .inl h0
 right
 rw [if_neg (by omega)]
 rcases h.place with h1 | ⟨h1,h2,h3⟩
 · omega
 rw [h1]
 refine ⟨rfl,h2,fun j v hv=>?_⟩
 have:=h3 (5+j) v (by rw [aP (by omega)];rw [hc];rw [show 5+j - 5=j by omega];exact hv)
 simpa [Sy.gB,Sy.oB,Addr.add,Nat.add_assoc] using this
set_option maxRecDepth 100000 in
theorem jM {a:Option Addr} {n cap:Nat} (w:World):
  (Instr.sliceAt 36 (.slice a (n+1) cap) (some (.int .i64 1)) none none).run Tryz.prog w = .ok (.slice (if cap=1 then a else a.map (·.add 5)) n (cap - 1)) w:=by
 have h:=aHm (P:=Tryz.prog) 36 44 _ 5 _ Tryz.underlying36 rfl a (n+1) cap .i64 1 (by omega) (by omega) w
 simpa [Instr.sliceAt,run_underlying Tryz.underlying36] using h
theorem sM {ty e:TypeId} {w:World} {b:Nat} {vals:List Value} (hb:w.heap[b]?=some (.cells vals.toArray e (0,0))) (hz:Sy.szB Tryz.prog ty=some 1) (j:Nat) (hj:j<vals.length) {v:Value} (hv:v.cells=#[v]) (h1:v.oneCell'=true):
  ∃ w',(Instr.storeAt ty (.pointer (some ⟨b,0+j,none⟩)) v).run Tryz.prog w = .ok () w'∧w'.heap[b]?=some (.cells (vals.set j v).toArray e (0,0))∧Sy.Keep (fun k=>k<w.heap.size∧¬ k=b) w w':=by
 have hst:=run_storeCells_at (P:=Tryz.prog) b (0+j) e [v] 0 vals.toArray w hb (by simp;omega) (fun x hx=>by rw [List.mem_singleton] at hx;rw [hx];exact h1)
 have hl:(vals.toArray.toList.take (0+j+0)++[v]++vals.toArray.toList.drop (0+j+0+[v].length))=vals.set j v:=by
  simp only [bH,Nat.add_zero,List.length_singleton]
  rw [List.set_eq_take_append_cons_drop,if_pos hj]
  simp
 rw [hl] at hst
 refine ⟨w.setRow b (vals.set j v).toArray,?_,setRow_heap _ _ _ _ _ _ hb,⟨rfl,rfl,rfl,by simp,fun k hk=>setRow_other _ _ _ _ (fun e=>hk.2 e)⟩⟩
 simp only [Instr.storeAt,Instr.sureAddr,Sem.run_bind,Sem.run_pure,Result.andThen_ok,storeVar,Sy.szB_ok hz,hv]
 simpa using hst
def Rd.adv (r:Rd):Rd:={ r with toks:=r.toks.tail }
end
section
set_option maxRecDepth 100000
def cU (r:Rd):Int:=match r.toks with
 | []=>r.fin
 | t::_=>t.pos
open Go.Sy
theorem rH (b:Nat) (r:Rd) {F:Nat→Prop} (w:World) (hF:∀ k,F k→k<w.heap.size) (h:RdAt F w b r):CB 69 #[nP b] w (nI (cU r)):=by
 obtain ⟨a,n,cap,xs,hb,hn,hncap,hnb,hsl,hls,hFb,htb⟩:=h
 have hblt:b<w.heap.size:=(Array.getElem?_eq_some_iff.1 hb).1
 have hat:=mH (F:=(·<w.heap.size)) hb hblt rfl
 refine eN [nP b] Tryz.func69 (fun γ0 hγ0=>?_)
 refine rk ?_
 refine gV (.slice a n cap) (S:=Instr.loadAt 36 (.pointer (some ⟨b,0+0,none⟩))) (fun W hk=>ldB hat (by kernel_rfl) 0 rfl hk) (rk ?_)
 rcases ht:r.toks with _ | ⟨t0,ts⟩
 ·
  have hn0:n=0:=by rw [hn,ht];rfl
  refine ky 0 (n:Int) (by omega) (rk ?_)
  refine gV (nI r.fin) (S:=Instr.loadAt 3 (.pointer (some ⟨b,0+1,none⟩))) (fun W hk=>ldB hat (by kernel_rfl) 1 rfl hk) (rs [] 60 2 ?_)
  exact gR (nI r.fin) (fun W hk=>⟨by unfold cU;rw [ht],hk.below⟩)
 ·
  have hn0:0<n:=by rw [hn,ht];simp
  rw [ht] at hls
  obtain ⟨c,xs2,rfl,hc,hls2⟩:=hls
  have hc:c=_:=hc
  subst hc
  have hslB:=hsl.mono hF
  refine kx 0 (n:Int) (by omega) (rk ?_)
  refine gV (.slice a n cap) (S:=Instr.loadAt 36 (.pointer (some ⟨b,0+0,none⟩))) (fun W hk=>ldB hat (by kernel_rfl) 0 rfl hk) (rk ?_)
  refine gI 36 44 cap 0 hslB hn0 (rk ?_)
  refine gL 3 (nI t0.pos) 0 2 hslB rfl (rs [] 60 2 ?_)
  exact gR (nI t0.pos) (fun W hk=>⟨by unfold cU;rw [ht],hk.below⟩)
def isR (r:Rd) (s:List UInt8):Bool:=match r.toks with
 | []=>false
 | t::_=>decide (t.text=s)
theorem aM5 (b:Nat) (r:Rd) (s:List UInt8) {F:Nat→Prop} (w:World) (hF:∀ k,F k→k<w.heap.size) (h:RdAt F w b r):CB 70 #[nP b,nT s] w (.bool (isR r s)):=by
 obtain ⟨a,n,cap,xs,hb,hn,hncap,hnb,hsl,hls,hFb,htb⟩:=h
 have hblt:b<w.heap.size:=(Array.getElem?_eq_some_iff.1 hb).1
 have hat:=mH (F:=(·<w.heap.size)) hb hblt rfl
 refine eN [nP b,nT s] Tryz.func70 (fun γ0 hγ0=>?_)
 refine rk ?_
 refine gV (.slice a n cap) (S:=Instr.loadAt 36 (.pointer (some ⟨b,0+0,none⟩))) (fun W hk=>ldB hat (by kernel_rfl) 0 rfl hk) (rs [12] 60 0 ?_)
 rcases ht:r.toks with _ | ⟨t0,ts⟩
 ·
  have hn0:n=0:=by rw [hn,ht];rfl
  refine zy 10 0 (n:Int) (by omega) ?_
  refine zy 11 0 (n:Int) (by omega) (rs [] 60 2 ?_)
  exact gR (.bool false) (fun W hk=>⟨by unfold isR;rw [ht],hk.below⟩)
 ·
  have hn0:0<n:=by rw [hn,ht];simp
  rw [ht] at hls
  obtain ⟨c,xs2,rfl,hc,hls2⟩:=hls
  have hc:c=_:=hc
  subst hc
  have hslB:=hsl.mono hF
  refine zx 10 0 (n:Int) (by omega) ?_
  refine zx 11 0 (n:Int) (by omega) (rk ?_)
  refine gV (.slice a n cap) (S:=Instr.loadAt 36 (.pointer (some ⟨b,0+0,none⟩))) (fun W hk=>ldB hat (by kernel_rfl) 0 rfl hk) (rk ?_)
  refine gI 36 44 cap 0 hslB hn0 (rk ?_)
  refine gL 9 (nT t0.text) 0 1 hslB rfl (rs [] 60 2 ?_)
  exact gR (.bool (bEqL t0.text s)) (fun W hk=>⟨by unfold isR;rw [ht,bEqL_eq];exact congrArg (fun x=>Ending.returned (.bool x)) (by by_cases h:t0.text=s <;> simp [h]),hk.below⟩)
end
section
theorem RdAt.keep {F:Nat→Prop} {w W:World} {b:Nat} {r:Rd} (h:RdAt F w b r) (hF:∀ k,F k→k<w.heap.size) (hk:Sy.Keep (·<w.heap.size) w W):RdAt F W b r:=by
 obtain ⟨a,n,cap,xs,hb,hn,hncap,hnb,hsl,hls,hFb,htb⟩:=h
 have hblt:b<w.heap.size:=(Array.getElem?_eq_some_iff.1 hb).1
 exact ⟨a,n,cap,xs,by rw [hk.block b hblt];exact hb,hn,hncap,hnb,hsl.keep (hk.mono hF),hls,hFb,htb⟩
theorem RdAt.keepB {F B:Nat→Prop} {w W:World} {b:Nat} {r:Rd} (h:RdAt F w b r) (hF:∀ k,F k→B k) (hB:B b) (hk:Sy.Keep B w W):RdAt F W b r:=by
 obtain ⟨a,n,cap,xs,hb,hn,hncap,hnb,hsl,hls,hFb,htb⟩:=h
 exact ⟨a,n,cap,xs,by rw [hk.block b hB];exact hb,hn,hncap,hnb,hsl.keep (hk.mono hF),hls,hFb,htb⟩
open Go.Sy in
set_option maxRecDepth 100000 in
theorem yC (b:Nat) (r:Rd) (s:List UInt8) {F:Nat→Prop} (w:World) (hF:∀ k,F k→k<w.heap.size) (h:RdAt F w b r):Calls Tryz.prog 34 #[nP b,nT s] w fun e w'=>e = .returned (.bool (isR r s))∧RdAt F w' b (if isR r s then r.adv else r)∧Keep (fun k=>k<w.heap.size∧¬ k=b) w w':=by
 have h0:=h
 obtain ⟨a,n,cap,xs,hb,hn,hncap,hnb,hsl,hls,hFb,htb⟩:=h
 have hblt:b<w.heap.size:=(Array.getElem?_eq_some_iff.1 hb).1
 have hat:=mH (F:=(·<w.heap.size)) hb hblt rfl
 refine eN [nP b,nT s] Tryz.func34 (fun γ0 hγ0=>?_)
 refine rk ?_
 refine gX [nP b,nT s] (.bool (isR r s)) (fun W hk=>aM5 b r s W (fun k h=>aE (hF k h) hk.size) (h0.keep hF hk)) (rk ?_)
 rcases aJ (isR r s) with hi | hi
 rotate_left
 ·
  refine gK true (b:=(!isR r s)) (by rw [hi];rfl) (rs [] 60 2 ?_)
  exact gR (.bool false) (fun W hk=>⟨by rw [hi],by rw [hi];exact h0.keep hF hk,hk.mono fun k h=>h.1⟩)
 refine gK false (b:=(!isR r s)) (by rw [hi];rfl) (rk ?_)
 rcases ht:r.toks with _ | ⟨t0,ts⟩
 · unfold isR at hi
   rw [ht] at hi
   cases hi
 rw [ht] at hls hn
 obtain ⟨c,xs2,rfl,hc,hls2⟩:=hls
 obtain ⟨n0,rfl⟩:∃ n0,n=n0+1:=⟨ts.length,by rw [hn];rfl⟩
 refine gV (.slice a (n0+1) cap) (S:=Instr.loadAt 36 (.pointer (some ⟨b,0+0,none⟩))) (fun W hk=>ldB hat (by kernel_rfl) 0 rfl hk) (rs [14] 60 0 ?_)
 refine gV (.slice (if cap=1 then a else a.map (·.add 5)) n0 (cap - 1)) (S:=Instr.sliceAt 36 (.slice a (n0+1) cap) (some (nI 1)) none none) (fun W _=>jM W) (rk ?_)
 refine eU 36 (.pointer (some ⟨b,0+0,none⟩)) (.slice (if cap=1 then a else a.map (·.add 5)) n0 (cap - 1)) (fun k=>k=b) (Pr:=fun _ W'=>W'.heap[b]?=some (.cells (dG (if cap=1 then a else a.map (·.add 5)) n0 (cap - 1) r.adv).toArray 61 (0,0))) (by kernel_rfl) (by kernel_rfl) (fun k e=>e ▸ hblt) (fun W hk=>sM (by rw [hk.block b hblt];exact hb) (by kernel_rfl) 0 (by simp [dG]) rfl rfl) ?_
 intro W w1 B1 hk1 hcl1 _ hk01 hB01 hB1
 refine rs [] 60 2 ?_
 exact gR (.bool true) (fun W2 hk2=>by
  have hsl1:=(rY hsl hc.len hncap).keep ((hk01.mono fun k h=>⟨hF k h,fun e=>hFb (e ▸ h)⟩).trans (hk2.mono fun k h=>hB01 k (hF k h)))
  have hb2:W2.heap[b]?=_:=(hk2.block b (hB01 b hblt)).trans hcl1
  refine ⟨by rw [hi],?_,hk01.trans (hk2.mono fun k h=>hB01 k h.1)⟩
  rw [hi]
  have hn':n0+1=ts.length+1:=hn
  exact ⟨_,n0,cap - 1,xs2,hb2,by show n0=r.toks.tail.length;rw [ht];show n0=ts.length;omega,by omega,by omega,hsl1,by show LsAt TokAt r.toks.tail xs2;rw [ht];exact hls2,hFb,fun t h=>htb t (List.mem_of_mem_tail h)⟩)
end
section
set_option maxRecDepth 100000
def kG (e p:Int):Value := .iface 30 (.agg #[.int .i64 e,.int .i64 p])
open Go.Sy
theorem uT (e p:Int) (w:World):Calls Tryz.prog 68 #[nI e,nI p] w fun en w'=>en = .panicked [{ v:=kG e p,recovered:=false }]∧Below w.heap.size w w':=by
 refine eN [nI e,nI p] Tryz.func68 (fun γ0 hγ0=>?_)
 refine rk ?_
 refine aI4 (bV _ _) 0 (by kernel_rfl) ?_
 exact mM (.iface 30 (.agg #[nI e,nI p])) (by kernel_rfl) (by kernel_rfl) (fun W hk=>⟨rfl,hk.below⟩)
theorem aRj (b:Nat) (r:Rd) (s:List UInt8) {F:Nat→Prop} (w:World) (hF:∀ k,F k→k<w.heap.size) (h:RdAt F w b r):Calls Tryz.prog 37 #[nP b,nT s] w fun e w'=>
  (isR r s=true∧e = .returned (.tuple #[])∧RdAt F w' b r.adv∧Keep (fun k=>k<w.heap.size∧¬ k=b) w w')∨(isR r s=false∧e = .panicked [{ v:=kG 4 (cU r),recovered:=false }]∧Keep (fun k=>k<w.heap.size∧¬ k=b) w w'):=by
 have h0:=h
 obtain ⟨a,n,cap,xs,hb,hn,hncap,hnb,hsl,hls,hFb,htb⟩:=h
 have hblt:b<w.heap.size:=(Array.getElem?_eq_some_iff.1 hb).1
 have hat:=mH (F:=(·<w.heap.size)) hb hblt rfl
 refine eN [nP b,nT s] Tryz.func37 (fun γ0 hγ0=>?_)
 refine rk ?_
 refine pF (bV _ _) [nP b,nT s] (fun k=>k=b) (Pr:=fun W v W'=>v = .bool (isR r s)∧RdAt F W' b (if isR r s then r.adv else r)) (by kernel_rfl) (by kernel_rfl) (by kernel_rfl) (by kernel_rfl) (fun k e=>e ▸ hblt) (fun W hk=>(yC b r s W (fun k h=>aE (hF k h) hk.size) (h0.keep hF hk)).mono fun e w' ⟨h1,h2,h3⟩=>⟨_,h1,⟨rfl,h2⟩,h3⟩) ?_
 rintro W v w1 B1 hk1 ⟨rfl,hr1⟩ hkW hk01 hB01 hBn hB1
 have hF1:∀ k,F k→k<w1.heap.size:=fun k h=>aE (hF k h) hk01.size
 refine rk ?_
 rcases aJ (isR r s) with hi | hi
 ·
  refine gK false (b:=(!isR r s)) (by rw [hi];rfl) (rs [] 60 2 ?_)
  exact gR (.tuple #[]) (fun W2 hk2 => .inl ⟨hi,rfl,by rw [hi] at hr1;exact hr1.keepB (fun k h=>hB01 k (hF k h)) (hB01 b hblt) hk2,hk01.trans (hk2.mono fun k h=>hB01 k h.1)⟩)
 refine gK true (b:=(!isR r s)) (by rw [hi];rfl) (rk ?_)
 rw [hi] at hr1
 refine gX [nP b] (nI (cU r)) (fun W hk=>rH b r W (fun k h=>aE (hF1 k h) hk.size) (hr1.keepB (fun k h=>hB01 k (hF k h)) (hB01 b hblt) hk)) (rk ?_)
 refine oJ (bV _ _) [nI 4,nI (cU r)] (fun _=>False) (Pr:=fun _ _ _=>False) (Pp:=fun _ v _=>v=kG 4 (cU r)) (by kernel_rfl) (by kernel_rfl) (fun γ vs hl=>eY (by kernel_rfl) hl) (by kernel_rfl) (fun k h=>h.elim) (fun W hk=>(uT 4 (cU r) W).mono fun en w' ⟨h1,h2⟩ => .inr ⟨_,h1,rfl,(Keep.of_below h2 (fun k h=>h)).mono fun k h=>h.1⟩) (fun _ _ _ _ _ h=>h.elim) ?_
 rintro W2 v w2 B2 hk2 rfl hkW2 hk12 hB12 hBn2 hB2
 exact mM (kG 4 (cU r)) (by kernel_rfl) (by kernel_rfl) (fun W3 hk3 => .inr ⟨hi,rfl,hk01.trans ((hk12.mono fun k h=>⟨hB01 k h.1,fun h=>h⟩).trans (hk3.mono fun k h=>hB12 k (hB01 k h.1)))⟩)
end
section
open Go.Sy in
set_option maxRecDepth 100000 in
theorem aNd (b:Nat) (r:Rd) {F:Nat→Prop} (w:World) (hF:∀ k,F k→k<w.heap.size) (h:RdAt F w b r):Calls Tryz.prog 36 #[nP b] w fun e w'=>
  (∃ t0 ts,r.toks=t0::ts∧b7 t0.text=true∧e = .returned (nT t0.text)∧RdAt F w' b r.adv∧Keep (fun k=>k<w.heap.size∧¬ k=b) w w')∨((∀ t0 ts,r.toks=t0::ts→b7 t0.text=false)∧e = .panicked [{ v:=kG 4 (cU r),recovered:=false }]∧Keep (fun k=>k<w.heap.size∧¬ k=b) w w'):=by
 have h0:=h
 obtain ⟨a,n,cap,xs,hb,hn,hncap,hnb,hsl,hls,hFb,htb⟩:=h
 have hblt:b<w.heap.size:=(Array.getElem?_eq_some_iff.1 hb).1
 have hat:=mH (F:=(·<w.heap.size)) hb hblt rfl
 refine eN [nP b] Tryz.func36 (fun γ0 hγ0=>?_)
 refine rk ?_
 refine gV (.slice a n cap) (S:=Instr.loadAt 36 (.pointer (some ⟨b,0+0,none⟩))) (fun W hk=>ldB hat (by kernel_rfl) 0 rfl hk) (rs [11] 60 0 ?_)
 rcases ht:r.toks with _ | ⟨t0,ts⟩
 ·
  have hn0:n=0:=by rw [hn,ht];rfl
  refine gS 9 (x := .bool (intEq (n:Int) 0)) (.bool true) (by rw [nX (by omega)]) ?_
  refine gS 10 (x := .bool (intEq (n:Int) 0)) (.bool true) (by rw [nX (by omega)]) (rs [] 60 1 ?_)
  refine gX [nP b] (nI (cU r)) (fun W hk=>rH b r W (fun k h=>aE (hF k h) hk.size) (h0.keep hF hk)) (rk ?_)
  refine oJ (bV _ _) [nI 4,nI (cU r)] (fun _=>False) (Pr:=fun _ _ _=>False) (Pp:=fun _ v _=>v=kG 4 (cU r)) (by kernel_rfl) (by kernel_rfl) (fun γ vs hl=>eY (by kernel_rfl) hl) (by kernel_rfl) (fun k h=>h.elim) (fun W hk=>(uT 4 (cU r) W).mono fun en w' ⟨h1,h2⟩ => .inr ⟨_,h1,rfl,(Keep.of_below h2 (fun k h=>h)).mono fun k h=>h.1⟩) (fun _ _ _ _ _ h=>h.elim) ?_
  rintro W2 v w2 B2 hk2 rfl hkW2 hk12 hB12 hBn2 hB2
  exact mM (kG 4 (cU r)) (by kernel_rfl) (by kernel_rfl) (fun W3 hk3 => .inr ⟨(fun t0 ts h=>by cases h),rfl,(hk12.mono fun k h=>⟨h.1,fun h=>h⟩).trans (hk3.mono fun k h=>hB12 k h.1)⟩)
 have htx:=htb t0 (by rw [ht];simp)
 have hrt:=hls
 rw [ht] at hls hn
 obtain ⟨c,xs2,rfl,hc,hls2⟩:=hls
 obtain ⟨n0,rfl⟩:∃ n0,n=n0+1:=⟨ts.length,by rw [hn];rfl⟩
 have hcc:c=_:=hc
 subst hcc
 have hslB:=hsl.mono hF
 refine gS 9 (x := .bool (intEq ((n0+1:Nat):Int) 0)) (.bool false) (by rw [lC (by omega)]) ?_
 refine gS 10 (x := .bool (intEq ((n0+1:Nat):Int) 0)) (.bool false) (by rw [lC (by omega)]) (rk ?_)
 refine gV (.slice a (n0+1) cap) (S:=Instr.loadAt 36 (.pointer (some ⟨b,0+0,none⟩))) (fun W hk=>ldB hat (by kernel_rfl) 0 rfl hk) (rk ?_)
 refine gI 36 44 cap 0 hslB (Nat.succ_pos n0) (rk ?_)
 refine gL 9 (nT t0.text) 0 1 hslB rfl (rk ?_)
 refine gP [nT t0.text] (.bool (b7 t0.text)) (fun W hk=>dW t0.text W (by unfold maxLen;omega)) (rk ?_)
 rcases aJ (b7 t0.text) with hi | hi
 rotate_left
 ·
  refine gK true (b:=(!b7 t0.text)) (by rw [hi];rfl) (rk ?_)
  refine gX [nP b] (nI (cU r)) (fun W hk=>rH b r W (fun k h=>aE (hF k h) hk.size) (h0.keep hF hk)) (rk ?_)
  refine oJ (bV _ _) [nI 4,nI (cU r)] (fun _=>False) (Pr:=fun _ _ _=>False) (Pp:=fun _ v _=>v=kG 4 (cU r)) (by kernel_rfl) (by kernel_rfl) (fun γ vs hl=>eY (by kernel_rfl) hl) (by kernel_rfl) (fun k h=>h.elim) (fun W hk=>(uT 4 (cU r) W).mono fun en w' ⟨h1,h2⟩ => .inr ⟨_,h1,rfl,(Keep.of_below h2 (fun k h=>h)).mono fun k h=>h.1⟩) (fun _ _ _ _ _ h=>h.elim) ?_
  rintro W2 v w2 B2 hk2 rfl hkW2 hk12 hB12 hBn2 hB2
  exact mM (kG 4 (cU r)) (by kernel_rfl) (by kernel_rfl) (fun W3 hk3 => .inr ⟨(fun t1 ts1 h=>by injection h with h1 h2;rw [← h1];exact hi),rfl,(hk12.mono fun k h=>⟨h.1,fun h=>h⟩).trans (hk3.mono fun k h=>hB12 k h.1)⟩)
 refine gK false (b:=(!b7 t0.text)) (by rw [hi];rfl) (rk ?_)
 refine gV (.slice a (n0+1) cap) (S:=Instr.loadAt 36 (.pointer (some ⟨b,0+0,none⟩))) (fun W hk=>ldB hat (by kernel_rfl) 0 rfl hk) (rk ?_)
 refine gI 36 44 cap 0 hslB (Nat.succ_pos n0) (rk ?_)
 refine gL 9 (nT t0.text) 0 1 hslB rfl (rk ?_)
 refine gV (.slice a (n0+1) cap) (S:=Instr.loadAt 36 (.pointer (some ⟨b,0+0,none⟩))) (fun W hk=>ldB hat (by kernel_rfl) 0 rfl hk) (rs [36] 60 0 ?_)
 refine gV (.slice (if cap=1 then a else a.map (·.add 5)) n0 (cap - 1)) (S:=Instr.sliceAt 36 (.slice a (n0+1) cap) (some (nI 1)) none none) (fun W _=>jM W) (rk ?_)
 refine eU 36 (.pointer (some ⟨b,0+0,none⟩)) (.slice (if cap=1 then a else a.map (·.add 5)) n0 (cap - 1)) (fun k=>k=b) (Pr:=fun _ W'=>W'.heap[b]?=some (.cells (dG (if cap=1 then a else a.map (·.add 5)) n0 (cap - 1) r.adv).toArray 61 (0,0))) (by kernel_rfl) (by kernel_rfl) (fun k e=>e ▸ hblt) (fun W hk=>sM (by rw [hk.block b hblt];exact hb) (by kernel_rfl) 0 (by simp [dG]) rfl rfl) ?_
 intro W w1 B1 hk1 hcl1 _ hk01 hB01 hB1
 refine rs [] 60 2 ?_
 exact gR (nT t0.text) (fun W2 hk2=>by
  have hsl1:=(rY hsl hc.len hncap).keep ((hk01.mono fun k h=>⟨hF k h,fun e=>hFb (e ▸ h)⟩).trans (hk2.mono fun k h=>hB01 k (hF k h)))
  have hb2:W2.heap[b]?=_:=(hk2.block b (hB01 b hblt)).trans hcl1
  have hn':n0+1=ts.length+1:=hn
  exact .inl ⟨t0,ts,rfl,hi,rfl,⟨_,n0,cap - 1,xs2,hb2,by show n0=r.toks.tail.length;rw [ht];show n0=ts.length;omega,by omega,by omega,hsl1,by show LsAt TokAt r.toks.tail xs2;rw [ht];exact hls2,hFb,fun t h=>htb t (List.mem_of_mem_tail h)⟩,hk01.trans (hk2.mono fun k h=>hB01 k h.1)⟩)
end
end Go.Proofs.YtijopiphkgddhaaGreatDoor
section
namespace Go.Proofs.YtijopiphkgddhaaGreatDoor
open Go.RowKit Go.As Go.Sy
def Reads {α:Type} (F:Nat→Prop) (b:Nat) (N:Rd→Prop) (o:Option (α×List Tok)) (V:α→World→Value→World→Prop) (w:World) (en:Ending) (w':World):Prop:=
 match o with
 | some (x,ts)=>∃ v r',en = .returned v∧r'.toks=ts∧N r'∧V x w v w'∧RdAt F w' b r'∧Keep (fun k=>k<w.heap.size∧¬ k=b) w w'
 | none=>∃ e p:Int,¬ e=0∧en = .panicked [{ v:=kG e p,recovered:=false }]∧Keep (fun k=>k<w.heap.size∧¬ k=b) w w'
theorem Reads.pan {α:Type} {F:Nat→Prop} {b:Nat} {N:Rd→Prop} {o:Option (α×List Tok)} {V:α→World→Value→World→Prop} {w w':World} (h:o=none) (e p:Int) (he:¬ e=0) (hk:Keep (fun k=>k<w.heap.size∧¬ k=b) w w'):Reads F b N o V w (.panicked [{ v:=kG e p,recovered:=false }]) w':=by
 subst h
 exact ⟨e,p,he,rfl,hk⟩
theorem Reads.ret {α:Type} {F:Nat→Prop} {b:Nat} {N:Rd→Prop} {o:Option (α×List Tok)} {V:α→World→Value→World→Prop} {w w':World} {x:α} {r':Rd} {v:Value} (h:o=some (x,r'.toks)) (hN:N r') (hv:V x w v w') (hr:RdAt F w' b r') (hk:Keep (fun k=>k<w.heap.size∧¬ k=b) w w'):Reads F b N o V w (.returned v) w':=by
 subst h
 exact ⟨v,r',rfl,rfl,hN,hv,hr,hk⟩
def Sm (r:Rd) (r':Rd):Prop:=r'.nest=r.nest∧r'.blocks=r.blocks
theorem Sm.rfl {r:Rd}:Sm r r:=⟨.refl _,.refl _⟩
structure RI (F:Nat→Prop) (w:World) (b:Nat) (r:Rd) (B:Nat→Prop) (w1:World):Prop where
 rd:RdAt F w1 b r
 keep:Keep (fun k=>k<w.heap.size∧¬ k=b) w w1
 old:∀ k,k<w.heap.size→B k
 lt:∀ k,B k→k<w1.heap.size
 hF:∀ k,F k→k<w.heap.size
 hb:b<w.heap.size
theorem RdAt.lt {F:Nat→Prop} {w:World} {b:Nat} {r:Rd} (h:RdAt F w b r):b<w.heap.size:=by
 obtain ⟨a,n,cap,xs,hb,_⟩:=h
 exact (Array.getElem?_eq_some_iff.1 hb).1
theorem RI.init {F:Nat→Prop} {w:World} {b:Nat} {r:Rd} (hF:∀ k,F k→k<w.heap.size) (h:RdAt F w b r):RI F w b r (·<w.heap.size) w:=
 ⟨h,.refl _ _,fun _ h=>h,fun _ h=>h,hF,h.lt⟩
theorem RI.to {F:Nat→Prop} {w:World} {b:Nat} {r:Rd} {B:Nat→Prop} {w1 W:World} (h:RI F w b r B w1) (hk:Keep B w1 W):RdAt F W b r:=h.rd.keepB (fun k g=>h.old k (h.hF k g)) (h.old b h.hb) hk
theorem RI.all {F:Nat→Prop} {w:World} {b:Nat} {r:Rd} {B:Nat→Prop} {w1 W:World} (h:RI F w b r B w1) (hk:Keep B w1 W):Keep (fun k=>k<w.heap.size∧¬ k=b) w W:=h.keep.trans (hk.mono fun k g=>h.old k g.1)
theorem RI.size {F:Nat→Prop} {w:World} {b:Nat} {r:Rd} {B:Nat→Prop} {w1 W:World} (h:RI F w b r B w1) (hk:Keep B w1 W):w.heap.size≤W.heap.size:=bC h.keep.size hk.size
theorem RI.grow {F:Nat→Prop} {w:World} {b:Nat} {r:Rd} {B B':Nat→Prop} {w1 w':World} (h:RI F w b r B w1) (hk:Keep B w1 w') (hB:∀ k,B k→B' k) (hl:∀ k,B' k→k<w'.heap.size):RI F w b r B' w':=
 ⟨h.to hk,h.all hk,fun k g=>hB k (h.old k g),hl,h.hF,h.hb⟩
def Nw (w:World) (B:Nat→Prop) (k:Nat):Prop:=B k∧w.heap.size≤k
section
variable {P:Program} {I:Aux} {B:Nat→Prop} {w0:World} {γ0:Gm} {nt:Nat} {Q:Exit→Act→World→Prop} {g:Cfg}
theorem l6 (L:List Nat) {α:Type} (cx:Cx P I B w0) {f:FuncId} {fn:Func} {R:Ending→World→Prop} (xs:List Value) {F:Nat→Prop} {w:World} {b:Nat} {r:Rd} {N:Rd→Prop} {o:Option (α×List Tok)} {V:α→World→Value→World→Prop} (ri:RI F w b r B w0)
  (h:dR P nt g=some (f,xs.map bW)) (hbod:dJ P f=some true) (hx:d8 (xs.map bW)=some xs) (hown:eL eA (tK L g.s.h)=true) (hLk:∀ q,b6 q L=true→∃ p,γ0 q=some p∧¬ p.1=b) (hds:g.s.ds.isEmpty=true)
  (hc:∀ W,(∀ k,F k→k<W.heap.size)→RdAt F W b r→Keep B w0 W→Calls P f xs.toArray W (Reads F b N o V W))
  (hp:o=none→∀ W (e p:Int),¬ e=0→Keep (fun k=>k<w.heap.size∧¬ k=b) w W→R (.panicked [{ v:=kG e p,recovered:=false }]) W)
  (hg:∀ x ts r',o=some (x,ts)→r'.toks=ts→N r'→∀ W v w1 B1,V x W v w1→Keep B w0 W→RI F w b r' B1 w1→Keep (fun k=>B k∧¬ k=b) w0 w1→(∀ k,B k→B1 k)→(∀ k,dC W w1 k→Nw w B1 k)→Go.Sy.Good P B1 w1 γ0 nt (bodyPostD P fn R) (nx0 g (bW v))):
  Go.Sy.Good P B w0 γ0 nt (bodyPostD P fn R) g:=by
 have hds':g.s.ds=[]:=List.isEmpty_iff.1 hds
 refine aAa L cx xs (fun k=>k=b) (Pr:=fun W v W'=>∃ x ts r',o=some (x,ts)∧r'.toks=ts∧N r'∧V x W v W'∧RdAt F W' b r') (Pp:=fun _ v _=>o=none∧∃ e p:Int,¬ e=0∧v=kG e p) h hbod (fun γ vs hl=>eY hx hl) hown hLk (fun k e=>e ▸ ri.old b ri.hb) (fun W hk=>(hc W (fun k h=>aE (ri.hF k h) (ri.size hk)) (ri.to hk) hk).mono fun en w' hR=>?_) ?_ ?_
 · unfold Reads at hR
   match o,hR with
   | some (x,ts),⟨v,r',h1,h2,h5,h6,h3,h4⟩=>exact .inl ⟨v,h1,⟨x,ts,r',rfl,h2,h5,h6,h3⟩,h4⟩
   | none,⟨e,p,h1,h2,h3⟩=>exact .inr ⟨_,h2,⟨rfl,e,p,h1,rfl⟩,h3⟩
 · rintro W v w1 B1 hk ⟨x,ts,r',ho,ht',hN',hv,hr'⟩ hkW hk01 hB01 hBn hB1
   exact hg x ts r' ho ht' hN' W v w1 B1 hv hk ⟨hr',ri.keep.trans (hk01.mono fun k h=>⟨ri.old k h.1,h.2⟩),fun k h=>hB01 k (ri.old k h),hB1,ri.hF,ri.hb⟩ hk01 hB01 (fun k h=>⟨hBn k h.1 h.2,bC (ri.size hk) h.1⟩)
 · rintro W v w1 B1 hk ⟨ho,e,p,he,rfl⟩ hkW hk01 hB01 hBn hB1
   exact mM (kG e p) rfl hds' (fun W2 hk2=>hp ho W2 e p he (ri.keep.trans ((hk01.mono fun k h=>⟨ri.old k h.1,h.2⟩).trans (hk2.mono fun k h=>hB01 k (ri.old k h.1)))))
theorem bU {α:Type} (cx:Cx P I B w0) {f:FuncId} {fn:Func} {R:Ending→World→Prop} (xs:List Value) {F:Nat→Prop} {w:World} {b:Nat} {r:Rd} {N:Rd→Prop} {o:Option (α×List Tok)} {V:α→World→Value→World→Prop} (ri:RI F w b r B w0)
  (h:dR P nt g=some (f,xs.map bW)) (hbod:dJ P f=some true) (hx:d8 (xs.map bW)=some xs) (hown:eL eA g.s.h=true) (hds:g.s.ds.isEmpty=true)
  (hc:∀ W,(∀ k,F k→k<W.heap.size)→RdAt F W b r→Keep B w0 W→Calls P f xs.toArray W (Reads F b N o V W))
  (hp:o=none→∀ W (e p:Int),¬ e=0→Keep (fun k=>k<w.heap.size∧¬ k=b) w W→R (.panicked [{ v:=kG e p,recovered:=false }]) W)
  (hg:∀ x ts r',o=some (x,ts)→r'.toks=ts→N r'→∀ W v w1 B1,V x W v w1→Keep B w0 W→RI F w b r' B1 w1→Keep (fun k=>B k∧¬ k=b) w0 w1→(∀ k,B k→B1 k)→(∀ k,dC W w1 k→Nw w B1 k)→Go.Sy.Good P B1 w1 γ0 nt (bodyPostD P fn R) (nx0 g (bW v))):
  Go.Sy.Good P B w0 γ0 nt (bodyPostD P fn R) g:=
 l6 [] cx xs ri h hbod hx hown (fun q hq=>by cases hq) hds hc hp hg
theorem nY {ty:TypeId} (j:Nat) (v:Value) {F:Nat→Prop} {w:World} {b:Nat} {r:Rd} (r':Rd) (ri:RI F w b r B w0) (h:s7 Tryz.prog nt g=some (ty,.v (.pointer (some ⟨b,0+j,none⟩)),.v v)) (hown:eL eA g.s.h=true)
  (hz:szB Tryz.prog ty=some 1) (hj:j<4) (hset:∀ a n cap,(dG a n cap r).set j v=dG a n cap r') (ht:r'.toks=r.toks) (hv:v.cells=#[v]) (h1:v.oneCell'=true)
  (hg:∀ w1 B1,RI F w b r' B1 w1→Keep (fun k=>B k∧¬ k=b) w0 w1→(∀ k,B k→B1 k)→Go.Sy.Good Tryz.prog B1 w1 γ0 nt Q (nx0 g (bW undef))):Go.Sy.Good Tryz.prog B w0 γ0 nt Q g:=by
 obtain ⟨a,n,cap,xs,hb,hn,hncap,hnb,hsl,hls,hFb,htb⟩:=ri.rd
 refine eU ty _ _ (fun k=>k=b) (Pr:=fun _ W'=>W'.heap[b]?=some (.cells (dG a n cap r').toArray 61 (0,0))) h hown (fun k e=>e ▸ ri.old b ri.hb) (fun W hk=>by
  rw [← hset]
  exact sM (vals:=dG a n cap r) (by rw [hk.block b (ri.old b ri.hb)];exact hb) hz j (show j<4 from hj) hv h1) ?_
 intro W w1 B1 hk1 hcl1 _ hk01 hB01 hB1
 refine hg w1 B1 ⟨⟨a,n,cap,xs,hcl1,by rw [ht];exact hn,hncap,hnb,hsl.keep (hk01.mono fun k h=>⟨ri.old k (ri.hF k h),fun e=>hFb (e ▸ h)⟩),by rw [ht];exact hls,hFb,by rw [ht];exact htb⟩,ri.keep.trans (hk01.mono fun k h=>⟨ri.old k h.1,h.2⟩),fun k h=>hB01 k (ri.old k h),hB1,ri.hF,ri.hb⟩ hk01 hB01
end
theorem RI.ld {F:Nat→Prop} {w:World} {b:Nat} {r:Rd} {B:Nat→Prop} {w0 W:World} {ty:TypeId} (ri:RI F w b r B w0) (hk:Keep B w0 W) (hb:aggB Tryz.prog ty=some false) (j:Nat) (hj:0<j) {v:Value} (hv:∀ a n cap,(dG a n cap r)[j]?=some v):
  (Instr.loadAt ty (.pointer (some ⟨b,0+j,none⟩))).run Tryz.prog W = .ok v W:=by
 obtain ⟨a,n,cap,xs,hbk,_⟩:=ri.rd
 exact ldB (mH (F:=B) hbk (ri.old b ri.hb) rfl) hb j (hv a n cap) hk
theorem RdAt.all {F:Nat→Prop} {w W:World} {b:Nat} {r:Rd} (h:RdAt F w b r) (hF:∀ k,F k→k<w.heap.size) (hk:Below w.heap.size w W):RdAt F W b r∧Keep (fun k=>k<w.heap.size∧¬ k=b) w W:=
 ⟨h.keep hF (.of_below hk fun k h=>h),(Keep.of_below hk (fun k h=>h)).mono fun k h=>h.1⟩
theorem kB (b:Nat) (r:Rd) {F:Nat→Prop} (W:World) (hF:∀ k,F k→k<W.heap.size) (h:RdAt F W b r):Calls Tryz.prog 69 #[.pointer (some ⟨b,0,none⟩)] W (Reads F b (Sm r) (some ((),r.toks)) (fun _ _ v _=>v = .int .i64 (cU r)) W):=
 (rH b r W hF h).mono fun en w' ⟨h1,h2⟩=>h1 ▸ .ret rfl .rfl rfl (h.all hF h2).1 (h.all hF h2).2
def bX (s:List UInt8):List Tok→Option (List Tok)
 | t::ts=>if t.text=s then some ts else none
 | []=>none
theorem aB5 {r:Rd} {s:List UInt8} {ts:List Tok} (h:bX s r.toks=some ts):isR r s=true∧r.adv.toks=ts:=by
 unfold isR Rd.adv
 cases ht:r.toks with
 | nil=>rw [ht] at h;cases h
 | cons t us=>
   rw [ht] at h
   simp only [bX] at h
   split at h
   · rename_i h1
     injection h with h
     exact ⟨decide_eq_true h1,h⟩
   · cases h
theorem aLr {r:Rd} {s:List UInt8} (h:bX s r.toks=none):isR r s=false:=by
 unfold isR
 cases ht:r.toks with
 | nil=>rfl
 | cons t us=>
   rw [ht] at h
   simp only [bX] at h
   split at h
   · cases h
   · rename_i h1
     exact decide_eq_false h1
theorem sI (b:Nat) (r:Rd) (s:List UInt8) (c:Bool) (hc:(bX s r.toks).isSome=c) {F:Nat→Prop} (W:World) (hF:∀ k,F k→k<W.heap.size) (h:RdAt F W b r):Calls Tryz.prog 70 #[.pointer (some ⟨b,0,none⟩),.string (str s)] W (Reads F b (Sm r) (some ((),r.toks)) (fun _ _ v _=>v = .bool c) W):=
 (aM5 b r s W hF h).mono fun en w' ⟨h1,h2⟩=>h1 ▸ .ret rfl .rfl (by
  subst hc
  cases hT:bX s r.toks with
  | none=>rw [aLr hT];rfl
  | some ts=>rw [(aB5 hT).1];rfl) (h.all hF h2).1 (h.all hF h2).2
theorem dV (b:Nat) (r:Rd) (s:List UInt8) {ts:List Tok} (hT:bX s r.toks=some ts) {F:Nat→Prop} (W:World) (hF:∀ k,F k→k<W.heap.size) (h:RdAt F W b r):Calls Tryz.prog 34 #[.pointer (some ⟨b,0,none⟩),.string (str s)] W (Reads F b (Sm r) (some ((),ts)) (fun _ _ v _=>v = .bool true) W):=
 (yC b r s W hF h).mono fun en w' ⟨h1,h2,h3⟩=>by
  rw [(aB5 hT).1] at h1 h2
  rw [h1]
  exact .ret (r':=r.adv) (by rw [(aB5 hT).2]) .rfl rfl h2 h3
theorem dU (b:Nat) (r:Rd) (s:List UInt8) (hT:bX s r.toks=none) {F:Nat→Prop} (W:World) (hF:∀ k,F k→k<W.heap.size) (h:RdAt F W b r):Calls Tryz.prog 34 #[.pointer (some ⟨b,0,none⟩),.string (str s)] W (Reads F b (Sm r) (some ((),r.toks)) (fun _ _ v _=>v = .bool false) W):=
 (yC b r s W hF h).mono fun en w' ⟨h1,h2,h3⟩=>by
  rw [aLr hT] at h1 h2
  rw [h1]
  exact .ret rfl .rfl rfl h2 h3
def dD (s:List UInt8) (ts:List Tok):Option (Unit×List Tok):=(bX s ts).map fun us=>((),us)
theorem e8 (b:Nat) (r:Rd) (s:List UInt8) {F:Nat→Prop} (W:World) (hF:∀ k,F k→k<W.heap.size) (h:RdAt F W b r):Calls Tryz.prog 37 #[.pointer (some ⟨b,0,none⟩),.string (str s)] W (Reads F b (Sm r) (dD s r.toks) (fun _ _ v _=>v = .tuple #[]) W):=
 (aRj b r s W hF h).mono fun en w' hR=>by
  rcases hR with ⟨h0,h1,h2,h3⟩ | ⟨h0,h1,h2⟩ <;> subst h1
  · cases hT:bX s r.toks with
    | none=>rw [aLr hT] at h0;cases h0
    | some ts=>exact .ret (r':=r.adv) (by unfold dD;rw [hT,(aB5 hT).2];rfl) .rfl rfl h2 h3
  · cases hT:bX s r.toks with
    | none=>exact .pan (by unfold dD;rw [hT];rfl) 4 _ (by decide) h2
    | some ts=>rw [(aB5 hT).1] at h0;cases h0
def eB:List Tok→Option (List UInt8×List Tok)
 | t::ts=>if b7 t.text=true then some (t.text,ts) else none
 | []=>none
theorem nN (b:Nat) (r:Rd) {F:Nat→Prop} (W:World) (hF:∀ k,F k→k<W.heap.size) (h:RdAt F W b r):Calls Tryz.prog 36 #[.pointer (some ⟨b,0,none⟩)] W (Reads F b (Sm r) (eB r.toks) (fun x _ v _=>v = .string (str x)) W):=
 (aNd b r W hF h).mono fun en w' hR=>by
  rcases hR with ⟨t0,ts,ht,h0,h1,h2,h3⟩ | ⟨h0,h1,h2⟩ <;> subst h1
  · exact .ret (r':=r.adv) (by unfold Rd.adv;rw [ht];simp only [eB];rw [if_pos h0];rfl) .rfl rfl h2 h3
  · refine .pan ?_ 4 _ (by decide) h2
    cases ht:r.toks with
    | nil=>rfl
    | cons t us=>
      simp only [eB]
      rw [if_neg]
      rw [h0 t us ht]
      decide
theorem jJ (b:Nat) (r:Rd) (e p:Int) (he:¬ e=0) {F:Nat→Prop} (W:World) (hF:∀ k,F k→k<W.heap.size) (h:RdAt F W b r):Calls Tryz.prog 68 #[.int .i64 e,.int .i64 p] W (Reads (α:=Unit) F b (Sm r) none (fun _ _ _ _=>True) W):=
 (uT e p W).mono fun en w' ⟨h1,h2⟩=>h1 ▸ .pan rfl e p he (h.all hF h2).2
end Go.Proofs.YtijopiphkgddhaaGreatDoor
end
namespace Go.Proofs.YtijopiphkgddhaaGreatDoor
open Go.RowKit Go.As
section
def jZ (t:Tok):Option (Int×Int):=
 if t.kind=2∨t.kind=3 then some (t.ty,t.bits)
 else if t.text=[110,97,110] then some (3,9221120237041090560)
 else if t.text=[105,110,102] then some (3,9218868437227405312)
 else if t.text=[116,114,117,101] then some (2,1)
 else if t.text=[102,97,108,115,101] then some (2,0)
 else none
def dN:List Tok→Option ((Int×Int)×List Tok)
 | []=>none
 | t::us=>(jZ t).map fun v=>(v,us)
def sgK (s:List UInt8):Int×Int:=
 if s=[124,124] then (3,0) else if s=[38,38] then (4,1) else if s=[61,61] then (5,2) else if s=[33,61] then (6,2) else if s=[60] then (7,2) else if s=[60,61] then (8,2)
 else if s=[62] then (9,2) else if s=[62,61] then (10,2) else if s=[43] then (11,3) else if s=[45] then (12,3) else if s=[42] then (13,4) else if s=[47] then (14,4) else if s=[37] then (15,4) else (0,-1)
def dY (e:Ex):Option Ex:=if hgt e≤32 then some e else none
mutual
def eK:Nat→Nat→Nat→List Tok→Option (Ex×List Tok)
 | 0,_,_,_=>none
 | n+1,least,nest,ts=>if 4<least then eI n nest ts else match eK n (least+1) nest ts with
   | none=>none
   | some (e,us)=>eM n least nest e us
def eM:Nat→Nat→Nat→Ex→List Tok→Option (Ex×List Tok)
 | 0,_,_,_,_=>none
 | n+1,least,nest,e,ts=>match ts with
   | []=>some (e,[])
   | t::us=>if t.kind=4∧(sgK t.text).2=(least:Int) then (match eK n (least+1) nest us with
       | none=>none
       | some (x,vs)=>match dY (.mk (sgK t.text).1 0 0 [] [e,x]) with
         | none=>none
         | some y=>if 5≤(sgK t.text).1∧(sgK t.text).1≤10 then some (y,vs) else eM n least nest y vs)
    else some (e,t::us)
def eI:Nat→Nat→List Tok→Option (Ex×List Tok)
 | 0,_,_=>none
 | n+1,nest,ts=>match bX [45] ts with
   | some us=>if nest+1≤32 then (match eI n (nest+1) us with
    | none=>none
    | some (x,vs)=>(dY (.mk 16 0 0 [] [x])).map fun y=>(y,vs)) else none
   | none=>match bX [33] ts with
     | some us=>if nest+1≤32 then (match eI n (nest+1) us with
      | none=>none
      | some (x,vs)=>(dY (.mk 17 0 0 [] [x])).map fun y=>(y,vs)) else none
     | none=>e7 n nest ts
def e7:Nat→Nat→List Tok→Option (Ex×List Tok)
 | 0,_,_=>none
 | n+1,nest,ts=>match dN ts with
   | some (v,us)=>some (.mk 1 v.1 v.2 [] [],us)
   | none=>match bX [40] ts with
     | some us=>if nest+1≤32 then gY n (nest+1) us else none
     | none=>match bX [105,110,116] ts with
       | some us=>if nest+1≤32 then (match bX [40] us with
        | none=>none
        | some vs=>match gY n (nest+1) vs with
          | none=>none
          | some (x,xs)=>(dY (.mk 18 0 0 [] [x])).map fun y=>(y,xs)) else none
       | none=>match bX [114,101,97,108] ts with
       | some us=>if nest+1≤32 then (match bX [40] us with
        | none=>none
        | some vs=>match gY n (nest+1) vs with
          | none=>none
          | some (x,xs)=>(dY (.mk 19 0 0 [] [x])).map fun y=>(y,xs)) else none
       | none=>(eB ts).map fun p=>(.mk 2 0 0 p.1 [],p.2)
def gY:Nat→Nat→List Tok→Option (Ex×List Tok)
 | 0,_,_=>none
 | n+1,nest,ts=>match eK n 0 nest ts with
   | none=>none
   | some (x,us)=>(bX [41] us).map fun vs=>(x,vs)
end
def mF (minus:Bool) (t bits:Int):Int:=if minus=true then (if t=1 then Go.IntKind.u64.wrap (0 - bits) else Go.bits .xor .u64 bits 9223372036854775808) else bits
def kZ (us:List Tok):Bool:=(bX [110,97,110] us).isNone&&((bX [116,114,117,101] us).isNone&&(bX [102,97,108,115,101] us).isNone)
def fQ (t:Int) (ts:List Tok):Option (Int×List Tok):=
 match bX [45] ts with
 | some us=>if kZ us=true then (match dN us with
  | none=>none
  | some (v,vs)=>if v.1=t then some (mF true t v.2,vs) else none) else none
 | none=>match dN ts with
   | none=>none
   | some (v,vs)=>if v.1=t then some (v.2,vs) else none
def fR (ts:List Tok):Option (Int×List Tok):=
 match bX [105,110,116] ts with
 | some us=>some (1,us)
 | none=>match bX [98,111,111,108] ts with
   | some us=>some (2,us)
   | none=>match bX [114,101,97,108] ts with
     | some us=>some (3,us)
     | none=>none
def eJ (ts:List Tok):Option (Vr×List Tok):=
 match eB ts with
 | none=>none
 | some (nm,us)=>match fR us with
   | none=>none
   | some (t,vs)=>match bX [61] vs with
     | some xs=>(match fQ t xs with
       | none=>none
       | some (b,ys)=>(bX [59] ys).map fun zs=>(⟨nm,t,b⟩,zs))
     | none=>(bX [59] vs).map fun zs=>(⟨nm,t,0⟩,zs)
def ex0:Ex := .mk 0 0 0 [] []
def whK (ts:List Tok):Option (Ex×List Tok):=eK (10*ts.length+8) 0 0 ts
def fG (ts:List Tok):Option (St×List Tok):=
 match bX [108,111,99,107] ts with
 | some us=>(eB us).map fun p=>(.mk 2 p.1 ex0 [] [],p.2)
 | none=>match bX [117,110,108,111,99,107] ts with
   | some us=>(eB us).map fun p=>(.mk 3 p.1 ex0 [] [],p.2)
   | none=>match bX [97,115,115,101,114,116] ts with
     | some us=>(whK us).map fun p=>(.mk 4 [] p.1 [] [],p.2)
     | none=>match bX [115,107,105,112] ts with
       | some us=>some (.mk 7 [] ex0 [] [],us)
       | none=>match eB ts with
         | none=>none
         | some (nm,us)=>match bX [61] us with
           | none=>none
           | some vs=>(whK vs).map fun p=>(.mk 1 nm p.1 [] [],p.2)
mutual
def fN:Nat→Nat→List Tok→Option (List St×List Tok)
 | 0,_,_=>none
 | n+1,d,ts=>match bX [123] ts with
   | none=>none
   | some us=>if d+1≤32 then (match d5 n (d+1) us with
    | none=>none
    | some (l,vs)=>(bX [125] vs).map fun xs=>(l,xs)) else none
def d5:Nat→Nat→List Tok→Option (List St×List Tok)
 | 0,_,_=>none
 | n+1,d,ts=>if ts=[]∨(bX [125] ts).isSome=true then some ([],ts) else match stK n d ts with
   | none=>none
   | some (s,us)=>(d5 n d us).map fun p=>(s::p.1,p.2)
def stK:Nat→Nat→List Tok→Option (St×List Tok)
 | 0,_,_=>none
 | n+1,d,ts=>match bX [105,102] ts with
   | some us=>(match whK us with
     | none=>none
     | some (e,vs)=>match fN n d vs with
       | none=>none
       | some (b,xs)=>match bX [101,108,115,101] xs with
         | some ys=>(fN n d ys).map fun p=>(.mk 5 [] e b p.1,p.2)
         | none=>some (.mk 5 [] e b [],xs))
   | none=>match bX [119,104,105,108,101] ts with
     | some us=>(match whK us with
       | none=>none
       | some (e,vs)=>(fN n d vs).map fun p=>(.mk 6 [] e p.1 [],p.2))
     | none=>match fG ts with
       | none=>none
       | some (s,us)=>(bX [59] us).map fun vs=>(s,vs)
end
def eV:Nat→List Tok→Option (List Vr×List Tok)
 | 0,_=>none
 | n+1,ts=>match bX [108,111,99,97,108] ts with
   | none=>some ([],ts)
   | some us=>match eJ us with
     | none=>none
     | some (v,vs)=>(eV n vs).map fun p=>(v::p.1,p.2)
def iY (ts:List Tok):Option (Th×List Tok):=
 match bX [116,104,114,101,97,100] ts with
 | none=>none
 | some us=>match eB us with
   | none=>none
   | some (nm,vs)=>match bX [123] vs with
     | none=>none
     | some xs=>match eV (xs.length+1) xs with
       | none=>none
       | some (ls,ys)=>match d5 (4*ys.length+2) 0 ys with
         | none=>none
         | some (b,zs)=>(bX [125] zs).map fun q=>(⟨nm,ls,b⟩,q)
def dZ:Nat→List Tok→Option ((List Vr×List (List UInt8))×List Tok)
 | 0,_=>none
 | n+1,ts=>match bX [115,104,97,114,101,100] ts with
   | some us=>(match eJ us with
     | none=>none
     | some (v,vs)=>(dZ n vs).map fun p=>((v::p.1.1,p.1.2),p.2))
   | none=>match bX [109,117,116,101,120] ts with
     | none=>some (([],[]),ts)
     | some us=>match eB us with
       | none=>none
       | some (m,vs)=>match bX [59] vs with
         | none=>none
         | some xs=>(dZ n xs).map fun p=>((p.1.1,m::p.1.2),p.2)
def eZ:Nat→List Tok→Option (List Th×List Tok)
 | 0,_=>none
 | n+1,ts=>if ts=[] then some ([],[]) else match iY ts with
   | none=>none
   | some (t,us)=>(eZ n us).map fun p=>(t::p.1,p.2)
def pgK (ts:List Tok):Option (Pg×List Tok):=
 match dZ (ts.length+1) ts with
 | none=>none
 | some (d,us)=>(eZ (us.length+1) us).map fun p=>(⟨d.1,d.2,p.1⟩,p.2)
end
section
theorem b5 {s:List UInt8} {ts us:List Tok} (h:bX s ts=some us):us.length+1=ts.length:=by
 cases ts with
 | nil=>cases h
 | cons t ts=>
   simp only [bX] at h
   split at h
   · injection h with h;subst h;rfl
   · cases h
theorem jN {ts us:List Tok} {x:List UInt8} (h:eB ts=some (x,us)):us.length+1=ts.length:=by
 cases ts with
 | nil=>cases h
 | cons t ts=>
   simp only [eB] at h
   split at h
   · injection h with h;injection h with _ h;subst h;rfl
   · cases h
theorem aAo {ts us:List Tok} {v:Int×Int} (h:dN ts=some (v,us)):us.length+1=ts.length:=by
 cases ts with
 | nil=>cases h
 | cons t ts=>
   simp only [dN] at h
   obtain ⟨w,_,h⟩:=aC h
   injection h with _ h;subst h;rfl
theorem eF {e y:Ex} (h:dY e=some y):y=e∧hgt e≤32:=by
 unfold dY at h
 split at h
 · injection h with h;exact ⟨h.symm,by assumption⟩
 · cases h
theorem o0:∀ n:Nat,(∀ l k ts e us,eK n l k ts=some (e,us)→wgt e+us.length≤ts.length)∧(∀ l k e0 ts e us,eM n l k e0 ts=some (e,us)→wgt e+us.length≤wgt e0+ts.length)∧
  (∀ k ts e us,eI n k ts=some (e,us)→wgt e+us.length≤ts.length)∧(∀ k ts e us,e7 n k ts=some (e,us)→wgt e+us.length≤ts.length)∧(∀ k ts e us,gY n k ts=some (e,us)→wgt e+us.length+1≤ts.length)
 | 0=>⟨fun _ _ _ _ _ h=>(by simp only [eK] at h;cases h),fun _ _ _ _ _ _ h=>(by simp only [eM] at h;cases h),fun _ _ _ _ h=>(by simp only [eI] at h;cases h),fun _ _ _ _ h=>(by simp only [e7] at h;cases h),fun _ _ _ _ h=>(by simp only [gY] at h;cases h)⟩
 | n+1=>by
   obtain ⟨hb,hl,hu,hp,hc⟩:=o0 n
   refine ⟨fun l k ts e us h=>?_,fun l k e0 ts e us h=>?_,fun k ts e us h=>?_,fun k ts e us h=>?_,fun k ts e us h=>?_⟩
   · simp only [eK] at h
     split at h
     · exact hu _ _ _ _ h
     split at h
     · cases h
     rename_i h1
     have h1:=hb _ _ _ _ _ h1
     have h2:=hl _ _ _ _ _ _ h
     omega
   · cases ts with
     | nil=>
       simp only [eM] at h
       injection h with h;injection h with h1 h2;subst h1 h2;exact aH _
     | cons t ts=>
     simp only [eM] at h
     split at h
     · split at h
       · cases h
       rename_i h1
       have h1:=hb _ _ _ _ _ h1
       split at h
       · cases h
       rename_i h2
       have h2:=(eF h2).1
       subst h2
       have e:∀ o:Int,∀ x,wgt (.mk o 0 0 [] [e0,x])=wgt e0+wgt x+1:=fun o x=>by simp [wgt,cL]
       split at h
       · injection h with h;injection h with g1 g2;subst g1 g2;rw [e];simp only [aB];omega
       · have:=hl _ _ _ _ _ _ h
         rw [e] at this
         simp only [aB]
         omega
     · injection h with h;injection h with h1 h2;subst h1 h2;exact aH _
   · have e:∀ o:Int,∀ x,wgt (.mk o 0 0 [] [x])=wgt x+1:=fun o x=>by simp [wgt,cL]
     simp only [eI] at h
     split at h
     · rename_i hT
       have hT:=b5 hT
       split at h <;> first | (cases h;done) | skip
       split at h
       · cases h
       rename_i h1
       have h1:=hu _ _ _ _ h1
       obtain ⟨y,hy,h2⟩:=aC h
       have hy:=(eF hy).1
       subst hy
       injection h2 with g1 g2;subst g1 g2
       rw [e];omega
     split at h
     · rename_i hT
       have hT:=b5 hT
       split at h <;> first | (cases h;done) | skip
       split at h
       · cases h
       rename_i h1
       have h1:=hu _ _ _ _ h1
       obtain ⟨y,hy,h2⟩:=aC h
       have hy:=(eF hy).1
       subst hy
       injection h2 with g1 g2;subst g1 g2
       rw [e];omega
     · exact hp _ _ _ _ h
   · have e:∀ o:Int,∀ x,wgt (.mk o 0 0 [] [x])=wgt x+1:=fun o x=>by simp [wgt,cL]
     have e0:∀ o a b:Int,∀ x,wgt (.mk o a b x [])=1:=fun o a b x=>by simp [wgt,cL]
     simp only [e7] at h
     split at h
     · rename_i hT
       have hT:=aAo hT
       injection h with h;injection h with g1 g2;subst g1 g2;rw [e0];omega
     split at h
     · rename_i hT
       have hT:=b5 hT
       split at h <;> first | (cases h;done) | skip
       have:=hc _ _ _ _ h
       omega
     split at h
     · rename_i hU
       have hU:=b5 hU
       split at h <;> first | (cases h;done) | skip
       split at h
       · cases h
       rename_i hT
       have hT:=b5 hT
       split at h
       · cases h
       rename_i h1
       have h1:=hc _ _ _ _ h1
       obtain ⟨y,hy,h2⟩:=aC h
       have hy:=(eF hy).1
       subst hy
       injection h2 with g1 g2;subst g1 g2
       rw [e];omega
     split at h
     · rename_i hU
       have hU:=b5 hU
       split at h <;> first | (cases h;done) | skip
       split at h
       · cases h
       rename_i hT
       have hT:=b5 hT
       split at h
       · cases h
       rename_i h1
       have h1:=hc _ _ _ _ h1
       obtain ⟨y,hy,h2⟩:=aC h
       have hy:=(eF hy).1
       subst hy
       injection h2 with g1 g2;subst g1 g2
       rw [e];omega
     obtain ⟨p,hp',h2⟩:=aC h
     have hp':=jN hp'
     injection h2 with g1 g2;subst g1 g2;rw [e0];omega
   · simp only [gY] at h
     split at h
     · cases h
     rename_i h1
     have h1:=hb _ _ _ _ _ h1
     obtain ⟨vs,hT,h2⟩:=aC h
     have hT:=b5 hT
     injection h2 with g1 g2;subst g1 g2
     omega
end
section
set_option maxRecDepth 100000
theorem CopyPr.opened {x:Ex} {w w':World} {v:Value} (h:CopyPr x w v w'):∃ (op ty bits:Int) (nm:List UInt8) (kids:List Ex) (a:Option Addr) (cap:Nat) (xs:List Value),x = .mk op ty bits nm kids∧v = .agg #[.int .u8 op,.int .u8 ty,.int .u64 bits,.string (str nm),.slice a kids.length cap]∧ExAt (dC w w') w' x [.int .u8 op,.int .u8 ty,.int .u64 bits,.string (str nm),.slice a kids.length cap]:=by
 obtain ⟨ds,rfl,hx⟩:=h
 obtain ⟨op,ty,bits,nm,kids⟩:=x
 have hx0:=hx
 simp only [ExAt] at hx
 obtain ⟨a,cap,xs,rfl,h1,h2⟩:=hx
 exact ⟨op,ty,bits,nm,kids,a,cap,xs,rfl,rfl,hx0⟩
theorem iI {w W w1:World} {B1:Nat→Prop} {x:Ex} {cs:List Value} (hN:∀ k,dC W w1 k→Nw w B1 k) (h:ExAt (dC W w1) w1 x cs):ExAt (Nw w B1) w1 x cs:=h.keep (.refl _ _) hN
theorem jC {F:Nat→Prop} {w w1 w2:World} {b:Nat} {r:Rd} {B:Nat→Prop} (ri:RI F w b r B w1) (hk:Sy.Keep (fun k=>B k∧¬ k=b) w1 w2):Sy.Keep (Nw w B) w1 w2:=hk.mono fun k h=>⟨h.1,fun e=>by have:=ri.hb;have:=h.2;omega⟩
theorem j9 {F:Nat→Prop} {w w1 w2:World} {b:Nat} {r:Rd} {B B2:Nat→Prop} {x:Ex} {cs:List Value} (ri:RI F w b r B w1) (h:ExAt (Nw w B) w1 x cs) (hk:Sy.Keep (fun k=>B k∧¬ k=b) w1 w2) (hB:∀ k,B k→B2 k):ExAt (Nw w B2) w2 x cs:=h.keep (jC ri hk) fun k g=>⟨hB k g.1,g.2⟩
theorem fF {F:Nat→Prop} {w w1 W:World} {b:Nat} {r:Rd} {B:Nat→Prop} {x:Ex} {cs:List Value} (ri:RI F w b r B w1) (h:ExAt (Nw w B) w1 x cs) (hk:Sy.Keep B w1 W):ExAt (dC w W) W x cs:=h.keep (hk.mono fun k g=>g.1) fun k g=>⟨g.2,aE (ri.lt k g.1) hk.size⟩
theorem yP {w w1 w2:World} {B B2:Nat→Prop} {x:Ex} {cs:List Value} (h:ExAt (Nw w B) w1 x cs) (hk:Sy.Keep B w1 w2) (hB:∀ k,B k→B2 k):ExAt (Nw w B2) w2 x cs:=h.keep (hk.mono fun k g=>g.1) fun k g=>⟨hB k g.1,g.2⟩
theorem wS {F:Nat→Prop} {w w0 w1:World} {b q n sz:Nat} {r:Rd} {B B1:Nat→Prop} {xs:List Value} (ri:RI F w b r B w0) (hq:¬ B q) (h:Sy.SlAt B1 w1 (some ⟨q,0,none⟩) n sz xs):Sy.SlAt (Nw w B1) w1 (some ⟨q,0,none⟩) n sz xs:=
 ⟨h.len,h.place.imp id fun ⟨h1,h2,h3⟩=>⟨h1,⟨h2,Nat.le_of_not_lt fun g=>hq (ri.old _ g)⟩,h3⟩⟩
theorem iQ {F:Nat→Prop} {w w1 w2:World} {b n sz:Nat} {r:Rd} {B B2:Nat→Prop} {a:Option Addr} {xs:List Value} (ri:RI F w b r B w1) (h:Sy.SlAt (Nw w B) w1 a n sz xs) (hk:Sy.Keep (fun k=>B k∧¬ k=b) w1 w2) (hB:∀ k,B k→B2 k):Sy.SlAt (Nw w B2) w2 a n sz xs:=(h.keep (jC ri hk)).mono fun k g=>⟨hB k g.1,g.2⟩
theorem kids1 {F:Nat→Prop} {w:World} {x:Ex} {c:List Value} (h:ExAt F w x c):ExsAt F w [x] c:=by
 simp only [ExsAt]
 exact ⟨c,[],(bF _).symm,h,rfl⟩
theorem kids2 {F:Nat→Prop} {w:World} {x y:Ex} {c d:List Value} (h:ExAt F w x c) (g:ExAt F w y d):ExsAt F w [x,y] (c++d):=by
 simp only [ExsAt]
 exact ⟨c,d,rfl,h,d,[],(bF _).symm,g,rfl⟩
theorem aB3 {F:Nat→Prop} {w:World} (op:Int) {kids:List Ex} {a:Option Addr} {n cap:Nat} {xs:List Value} (hs:Sy.SlAt F w a n 5 xs) (hk:ExsAt F w kids xs) (hn:n=kids.length):ExAt F w (.mk op 0 0 [] kids) [.int .u8 op,.int .u8 0,.int .u64 0,.string (str []),.slice a n cap]:=by
 subst hn
 simp only [ExAt]
 exact ⟨a,cap,xs,rfl,hs,hk⟩
theorem RI.len {F:Nat→Prop} {w w1:World} {b:Nat} {r:Rd} {B:Nat→Prop} (ri:RI F w b r B w1):r.toks.length≤1000000000:=by
 obtain ⟨a,n,cap,xs,hb,hn,hncap,hnb,_⟩:=ri.rd
 omega
def aL7 (n:Nat):Prop:=∀ (b:Nat) (r:Rd) (least nest:Nat) {F:Nat→Prop} (w:World),(∀ k,F k→k<w.heap.size)→RdAt F w b r→r.nest=(nest:Int)→nest≤32→least≤5→10*r.toks.length+8≤n+least→
 Calls Tryz.prog 92 #[.pointer (some ⟨b,0,none⟩),.int .i64 (least:Int)] w (Reads F b (Sm r) (eK n least nest r.toks) CopyPr w)
def aL1 (n:Nat):Prop:=∀ (b:Nat) (r:Rd) (nest:Nat) {F:Nat→Prop} (w:World),(∀ k,F k→k<w.heap.size)→RdAt F w b r→r.nest=(nest:Int)→nest≤32→10*r.toks.length+2≤n→
 Calls Tryz.prog 115 #[.pointer (some ⟨b,0,none⟩)] w (Reads F b (Sm r) (eI n nest r.toks) CopyPr w)
def aPn (n:Nat):Prop:=∀ (b:Nat) (r:Rd) (nest:Nat) {F:Nat→Prop} (w:World),(∀ k,F k→k<w.heap.size)→RdAt F w b r→r.nest=(nest:Int)→nest≤32→10*r.toks.length+1≤n→
 Calls Tryz.prog 133 #[.pointer (some ⟨b,0,none⟩)] w (Reads F b (Sm r) (e7 n nest r.toks) CopyPr w)
def aMb (n:Nat):Prop:=∀ (b:Nat) (r:Rd) (nest:Nat) {F:Nat→Prop} (w:World),(∀ k,F k→k<w.heap.size)→RdAt F w b r→r.nest=(nest:Int)→1≤nest→nest≤32→10*r.toks.length+9≤n→
 Calls Tryz.prog 148 #[.pointer (some ⟨b,0,none⟩)] w (Reads F b (fun r'=>r'.nest=r.nest - 1∧r'.blocks=r.blocks) (gY n nest r.toks) CopyPr w)
open Go.Sy
theorem oO (b:Nat) (r:Rd) (p:Int) {F:Nat→Prop} (w:World) (hF:∀ k,F k→k<w.heap.size) (h:RdAt F w b r) (hn:0≤r.nest∧r.nest≤1000):Calls Tryz.prog 134 #[nP b,nI p] w (Reads F b (fun r'=>r'.nest=r.nest+1∧r'.blocks=r.blocks) (if r.nest+1≤32 then some ((),r.toks) else none) (fun _ _ v _=>v = .tuple #[]) w):=by
 have ri0:=RI.init hF h
 refine eN [nP b,nI p] Tryz.func134 (fun γ0 hγ0=>?_)
 refine rk ?_
 refine gV (nI r.nest) (S:=Instr.loadAt 3 (.pointer (some ⟨b,0+2,none⟩))) (fun W hk=>ri0.ld hk (by kernel_rfl) 2 (by decide) (fun a n cap=>rfl)) (rs [9] 60 0 ?_)
 refine gS 8 (x:=nI (cA .i64 (r.nest+1))) (nI (r.nest+1)) (by rw [cR (n:=r.nest+1) (by omega) (by omega)];) (rk ?_)
 refine nY (ty:=3) 2 (nI (r.nest+1)) ({ r with nest:=r.nest+1 }) ri0 (by kernel_rfl) (by kernel_rfl) (by kernel_rfl) (by decide) (fun a n cap=>rfl) rfl rfl rfl ?_
 intro w1 B1 ri1 hk1 hB1
 obtain ⟨r1,hr1⟩:∃ q:Rd,q={ r with nest:=r.nest+1 }:=⟨_,rfl⟩
 rw [← hr1] at ri1
 have ht1:r1.toks=r.toks:=by rw [hr1]
 refine rk ?_
 refine gV (nI r1.nest) (S:=Instr.loadAt 3 (.pointer (some ⟨b,0+2,none⟩))) (fun W hk=>ri1.ld hk (by kernel_rfl) 2 (by decide) (fun a n cap=>rfl)) (rk ?_)
 have hn1:r1.nest=r.nest+1:=by rw [hr1]
 by_cases hd:r.nest+1≤32
 ·
  refine ky 32 r1.nest (by omega) (rs [] 60 2 ?_)
  exact gR (.tuple #[]) (fun W hk => .ret (r':=r1) (by rw [if_pos hd,ht1]) (⟨hn1,by rw [hr1]⟩) (rfl) (ri1.to hk) (ri1.all hk))
 refine kx 32 r1.nest (by omega) (rk ?_)
 refine bU (bV _ _) [nI 160,nI p] ri1 (by kernel_rfl) (by kernel_rfl) (by kernel_rfl) (by kernel_rfl) (by kernel_rfl) (fun W hF hr hk=>jJ b _ 160 p (by decide) W hF hr) (fun ho W e p he hk => .pan (by rw [if_neg hd]) e p he hk) ?_
 rintro x2 ts2 r2 ho2 ht2 hn2 W v2 w2 B2 hv2 hkW2 ri2 hk2 hB2 hN2
 cases ho2
theorem tH (b:Nat) (r:Rd) (op p:Int) (a:Option Addr) (n cap:Nat) (xs:List Value) (kids:List Ex) {F:Nat→Prop} (w:World) (hF:∀ k,F k→k<w.heap.size) (h:RdAt F w b r) (hnk:n=kids.length) (hsl:SlAt (·<w.heap.size) w a n 5 xs) (hks:ExsAt (·<w.heap.size) w kids xs) (hw:wgt (.mk op 0 0 [] kids)≤1099511627776):Calls Tryz.prog 117 #[n8 op,nI p,.slice a n cap] w (Reads F b (Sm r) ((dY (.mk op 0 0 [] kids)).map fun e=>(e,r.toks)) (fun _ _ v _=>v=xV op 0 0 [] a n cap) w):=by
 have ri0:=RI.init hF h
 refine eN [n8 op,nI p,.slice a n cap] Tryz.func117 (fun γ0 hγ0=>?_)
 refine rk ?_
 refine gX [xV op 0 0 [] a n cap] (nI (hgt (.mk op 0 0 [] kids):Nat)) (fun W hk=>aIk _ (.mk op 0 0 [] kids) (xL op 0 0 [] a n cap) W (aH _) hw (by simp only [ExAt];exact ⟨a,cap,xs,by rw [hnk],by rw [← hnk];exact (hsl.keep hk).mono (kU hk),hks.keep hk (kU hk)⟩)) (rk ?_)
 by_cases hd:hgt (.mk op 0 0 [] kids)≤32
 ·
  refine ky 32 ((hgt (.mk op 0 0 [] kids):Nat):Int) (by omega) (rs [] 60 2 ?_)
  exact gR (xV op 0 0 [] a n cap) (fun W hk => .ret (r':=r) (by unfold dY;rw [if_pos hd];rfl) (.rfl) (rfl) (ri0.to hk) (ri0.all hk))
 refine kx 32 ((hgt (.mk op 0 0 [] kids):Nat):Int) (by omega) (rk ?_)
 refine bU (bV _ _) [nI 160,nI p] ri0 (by kernel_rfl) (by kernel_rfl) (by kernel_rfl) (by kernel_rfl) (by kernel_rfl) (fun W hF hr hk=>jJ b _ 160 p (by decide) W hF hr) (fun ho W e p he hk => .pan (by unfold dY;rw [if_neg hd];rfl) e p he hk) ?_
 rintro x1 ts1 r1 ho1 ht1 hn1 W v1 w1 B1 hv1 hkW1 ri1 hk1 hB1 hN1
 cases ho1
theorem aPp {n:Nat} (hb:aL7 n):aMb (n+1):=by
 intro b r nest F w hF h hn hn1 hn32 hm
 have ri0:=RI.init hF h
 refine eN [nP b] Tryz.func148 (fun γ0 hγ0=>?_)
 refine rk ?_
 refine bU (bV _ _) [nP b,nI (0:Nat)] ri0 (by kernel_rfl) (by kernel_rfl) (by kernel_rfl) (by kernel_rfl) (by kernel_rfl) (fun W hF hr hk=>hb b r 0 nest W hF hr hn hn32 (by omega) (by omega)) (fun ho W e p he hk => .pan (by simp only [gY,ho]) e p he hk) ?_
 rintro x1 ts1 r1 ho1 ht1 hn1 W v1 w1 B1 hv1 hkW1 ri1 hk1 hB1 hN1
 obtain ⟨op1,ty1,bits1,nm1,kids1,a1,cap1,xs1,hx1,rfl,hq1⟩:=CopyPr.opened hv1
 have he1_1:=iI hN1 hq1
 refine rk ?_
 refine bU (bV _ _) [nP b,nT [41]] ri1 (by kernel_rfl) (by kernel_rfl) (by kernel_rfl) (by kernel_rfl) (by kernel_rfl) (fun W hF hr hk=>e8 b _ [41] W hF hr) (fun ho W e p he hk => .pan (by simp only [gY,ho1];rw [ht1] at ho;unfold dD at ho;rw [aU] at ho ⊢;exact ho) e p he hk) ?_
 rintro x2 ts2 r2 ho2 ht2 hn2 W v2 w2 B2 hv2 hkW2 ri2 hk2 hB2 hN2
 unfold dD at ho2
 rw [ht1] at ho2
 obtain ⟨us,hus,e⟩:=aC ho2
 cases e
 subst hv2
 refine rk ?_
 have he1_2:=j9 ri1 he1_1 hk2 hB2
 have hn2n:r2.nest=nest:=by rw [hn2.1,hn1.1,hn]
 refine gV (nI r2.nest) (S:=Instr.loadAt 3 (.pointer (some ⟨b,0+2,none⟩))) (fun W hk=>ri2.ld hk (by kernel_rfl) 2 (by decide) (fun a n cap=>rfl)) (rs [13] 60 0 ?_)
 refine gS 12 (x:=nI (cA .i64 (r2.nest - 1))) (nI (r2.nest - 1)) (by rw [cR (by omega) (by omega)]) (rk ?_)
 refine nY (ty:=3) 2 (nI (r2.nest - 1)) ({ r2 with nest:=r2.nest - 1 }) ri2 (by kernel_rfl) (by kernel_rfl) (by kernel_rfl) (by decide) (fun a n cap=>rfl) rfl rfl rfl ?_
 intro w3 B3 ri3 hk3 hB3
 obtain ⟨r3,hr3⟩:∃ q:Rd,q={ r2 with nest:=r2.nest - 1 }:=⟨_,rfl⟩
 rw [← hr3] at ri3
 have ht3:r3.toks=r2.toks:=by rw [hr3]
 have he1_3:=j9 ri2 he1_2 hk3 hB3
 refine rs [] 60 2 ?_
 exact gR (xV op1 ty1 bits1 nm1 a1 kids1.length cap1) (fun W hk => .ret (r':=r3) (by simp only [gY,ho1];rw [hus,ht3,ht2];rfl) (⟨by rw [hr3,hn2n,hn],by rw [hr3,hn2.2,hn1.2]⟩) (⟨_,rfl,fF ri3 he1_3 hk⟩) (ri3.to hk) (ri3.all hk))
theorem aQ5 {n:Nat} (hc:aMb n) (b:Nat) (r:Rd) (nest:Nat) (p:Int) {F:Nat→Prop} (w:World) (hF:∀ k,F k→k<w.heap.size) (h:RdAt F w b r) (hn:r.nest=(nest:Int)) (hn32:nest≤32) (hm:10*r.toks.length+9≤n):Calls Tryz.prog 147 #[nP b,nI p] w (Reads F b (Sm r) (if nest+1≤32 then gY n (nest+1) r.toks else none) CopyPr w):=by
 have ri0:=RI.init hF h
 refine eN [nP b,nI p] Tryz.func147 (fun γ0 hγ0=>?_)
 refine rk ?_
 refine bU (bV _ _) [nP b,nI p] ri0 (by kernel_rfl) (by kernel_rfl) (by kernel_rfl) (by kernel_rfl) (by kernel_rfl) (fun W hF hr hk=>oO b r p W hF hr (by omega)) (fun ho W e p he hk => .pan (by split at ho;cases ho;rename_i h1;rw [if_neg (by omega)]) e p he hk) ?_
 rintro x1 ts1 r1 ho1 ht1 hn1 W v1 w1 B1 hv1 hkW1 ri1 hk1 hB1 hN1
 subst hv1
 refine rk ?_
 split at ho1
 rotate_left
 · cases ho1
 rename_i hd
 cases ho1
 refine bU (bV _ _) [nP b] ri1 (by kernel_rfl) (by kernel_rfl) (by kernel_rfl) (by kernel_rfl) (by kernel_rfl) (fun W hF hr hk=>hc b r1 (nest+1) W hF hr (by rw [hn1.1,hn];rfl) (by omega) (by omega) (by rw [ht1];omega)) (fun ho W e p he hk => .pan (by rw [if_pos (by omega),← ht1];exact ho) e p he hk) ?_
 rintro x2 ts2 r2 ho2 ht2 hn2 W v2 w2 B2 hv2 hkW2 ri2 hk2 hB2 hN2
 obtain ⟨op2,ty2,bits2,nm2,kids2,a2,cap2,xs2,hx2,rfl,hq2⟩:=CopyPr.opened hv2
 have he2_2:=iI hN2 hq2
 refine rk ?_
 refine rs [] 60 2 ?_
 exact gR (xV op2 ty2 bits2 nm2 a2 kids2.length cap2) (fun W hk => .ret (r':=r2) (by rw [if_pos (by omega),← ht1,ho2,ht2]) (⟨by rw [hn2.1,hn1.1];omega,by rw [hn2.2,hn1.2]⟩) (⟨_,rfl,fF ri2 he2_2 hk⟩) (ri2.to hk) (ri2.all hk))
end
end Go.Proofs.YtijopiphkgddhaaGreatDoor
