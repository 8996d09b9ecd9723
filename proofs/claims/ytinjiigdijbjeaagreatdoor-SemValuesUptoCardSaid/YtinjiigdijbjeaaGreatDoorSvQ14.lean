/- Texts of this proof, one behind the other. Conditions: those in each theorem. -/
import Derived.Test.YtinjiigdijbjeaaGreatDoorSvQ13
import Derived.Test.YtinjiigdijbjeaaGreatDoorSvQ9
import Derived.Test.YtinjiigdijbjeaaGreatDoorSvQ3
import Derived.Test.YtinjiigdijbjeaaGreatDoorSvQ11
import Derived.Test.YtinjiigdijbjeaaGreatDoorSvQ10
set_option linter.unusedVariables false
set_option linter.unusedSimpArgs false
namespace Go.Proofs.YtinjiigdijbjeaaGreatDoor
open Go.RowKit Go.As
section
set_option maxRecDepth 100000
open Go.Sy
theorem appI_5 (b:Nat) (x y:Int) (w:World):CB 82 #[n8 5,.iface 155 (.agg #[nP b,nI x,nI y])] w (boVal (intEq x y)):=by
 refine eN [n8 5,.iface 155 (.agg #[nP b,nI x,nI y])] Tryz.func82 (fun γ0 hγ0=>?_)
 refine rs [] 200 30 ?_
 refine gX [.agg #[nP b,nI x,nI y]] (.bool (intEq x y)) (fun W hk=>ieq_any b x y W) ?_
 refine rk ?_
 refine gX [.bool (intEq x y)] (boVal (intEq x y)) (fun W hk=>truth_any _ W) ?_
 refine rk ?_
 exact gR (boVal (intEq x y)) (fun W hk=>⟨rfl,hk.below⟩)
theorem appI_6 (b:Nat) (x y:Int) (w:World):CB 82 #[n8 6,.iface 155 (.agg #[nP b,nI x,nI y])] w (boVal (!intEq x y)):=by
 refine eN [n8 6,.iface 155 (.agg #[nP b,nI x,nI y])] Tryz.func82 (fun γ0 hγ0=>?_)
 refine rs [] 200 30 ?_
 refine gX [.agg #[nP b,nI x,nI y]] (.bool (intEq x y)) (fun W hk=>ieq_any b x y W) ?_
 refine rk ?_
 refine gX [.bool (!intEq x y)] (boVal (!intEq x y)) (fun W hk=>truth_any _ W) ?_
 refine rk ?_
 exact gR (boVal (!intEq x y)) (fun W hk=>⟨rfl,hk.below⟩)
theorem appI_7 (b:Nat) (x y:Int) (w:World):CB 82 #[n8 7,.iface 155 (.agg #[nP b,nI x,nI y])] w (boVal (intLt x y)):=by
 refine eN [n8 7,.iface 155 (.agg #[nP b,nI x,nI y])] Tryz.func82 (fun γ0 hγ0=>?_)
 refine rs [] 200 30 ?_
 refine gX [.agg #[nP b,nI x,nI y]] (.bool (intLt x y)) (fun W hk=>ilt_any b x y W) ?_
 refine rk ?_
 refine gX [.bool (intLt x y)] (boVal (intLt x y)) (fun W hk=>truth_any _ W) ?_
 refine rk ?_
 exact gR (boVal (intLt x y)) (fun W hk=>⟨rfl,hk.below⟩)
theorem appI_8 (b:Nat) (x y:Int) (w:World):CB 82 #[n8 8,.iface 155 (.agg #[nP b,nI x,nI y])] w (boVal (intLt x y || intEq x y)):=by
 refine eN [n8 8,.iface 155 (.agg #[nP b,nI x,nI y])] Tryz.func82 (fun γ0 hγ0=>?_)
 refine rs [] 200 30 ?_
 refine gX [.agg #[nP b,nI x,nI y]] (.bool (intLt x y)) (fun W hk=>ilt_any b x y W) ?_
 refine rs [29] 60 0 ?_
 rcases Bool.eq_false_or_eq_true (intLt x y) with hc | hc
 ·
  refine gS 28 (x := .bool (intLt x y)) (.bool true) (by rw [hc]) ?_
  refine rk ?_
  refine gX [.bool (true)] (boVal (true)) (fun W hk=>truth_any _ W) ?_
  refine rk ?_
  exact gR (boVal (true)) (fun W hk=>⟨by rw [hc];rfl,hk.below⟩)
 ·
  refine gS 28 (x := .bool (intLt x y)) (.bool false) (by rw [hc]) ?_
  refine rk ?_
  refine gX [.agg #[nP b,nI x,nI y]] (.bool (intEq x y)) (fun W hk=>ieq_any b x y W) ?_
  refine rk ?_
  refine gX [.bool (intEq x y)] (boVal (intEq x y)) (fun W hk=>truth_any _ W) ?_
  refine rk ?_
  exact gR (boVal (intEq x y)) (fun W hk=>⟨by rw [hc];rfl,hk.below⟩)
theorem appI_9 (b:Nat) (x y:Int) (w:World):CB 82 #[n8 9,.iface 155 (.agg #[nP b,nI x,nI y])] w (boVal (intLt y x)):=by
 refine eN [n8 9,.iface 155 (.agg #[nP b,nI x,nI y])] Tryz.func82 (fun γ0 hγ0=>?_)
 refine rs [] 200 30 ?_
 refine gN [.iface 155 (.agg #[nP b,nI x,nI y])] (fun v=>v = .iface 155 (.agg #[nP b,nI y,nI x])) (fun W hk=>(turnI_any b x y W).mono fun e w2 ⟨h1,h2⟩=>⟨_,h1,rfl,h2⟩) ?_
 intro r w2 hr hk2
 subst hr
 clear hk2 w2
 refine rk ?_
 refine gX [.agg #[nP b,nI y,nI x]] (.bool (intLt y x)) (fun W hk=>ilt_any b y x W) ?_
 refine rk ?_
 refine gX [.bool (intLt y x)] (boVal (intLt y x)) (fun W hk=>truth_any _ W) ?_
 refine rk ?_
 exact gR (boVal (intLt y x)) (fun W hk=>⟨rfl,hk.below⟩)
theorem appI_10 (b:Nat) (x y:Int) (w:World):CB 82 #[n8 10,.iface 155 (.agg #[nP b,nI x,nI y])] w (boVal (intLt y x || intEq x y)):=by
 refine eN [n8 10,.iface 155 (.agg #[nP b,nI x,nI y])] Tryz.func82 (fun γ0 hγ0=>?_)
 refine rs [] 200 30 ?_
 refine gN [.iface 155 (.agg #[nP b,nI x,nI y])] (fun v=>v = .iface 155 (.agg #[nP b,nI y,nI x])) (fun W hk=>(turnI_any b x y W).mono fun e w2 ⟨h1,h2⟩=>⟨_,h1,rfl,h2⟩) ?_
 intro r w2 hr hk2
 subst hr
 clear hk2 w2
 refine rk ?_
 refine gX [.agg #[nP b,nI y,nI x]] (.bool (intLt y x)) (fun W hk=>ilt_any b y x W) ?_
 refine rs [45] 60 0 ?_
 rcases Bool.eq_false_or_eq_true (intLt y x) with hc | hc
 ·
  refine gS 44 (x := .bool (intLt y x)) (.bool true) (by rw [hc]) ?_
  refine rk ?_
  refine gX [.bool (true)] (boVal (true)) (fun W hk=>truth_any _ W) ?_
  refine rk ?_
  exact gR (boVal (true)) (fun W hk=>⟨by rw [hc];rfl,hk.below⟩)
 ·
  refine gS 44 (x := .bool (intLt y x)) (.bool false) (by rw [hc]) ?_
  refine rk ?_
  refine gX [.agg #[nP b,nI x,nI y]] (.bool (intEq x y)) (fun W hk=>ieq_any b x y W) ?_
  refine rk ?_
  refine gX [.bool (intEq x y)] (boVal (intEq x y)) (fun W hk=>truth_any _ W) ?_
  refine rk ?_
  exact gR (boVal (intEq x y)) (fun W hk=>⟨by rw [hc];rfl,hk.below⟩)
theorem appR_5 (x y:Int) (w:World):CB 82 #[n8 5,.iface 159 (.agg #[n6 x,n6 y])] w (boVal (ordB x y .eq)):=by
 refine eN [n8 5,.iface 159 (.agg #[n6 x,n6 y])] Tryz.func82 (fun γ0 hγ0=>?_)
 refine rs [] 200 30 ?_
 refine gX [.agg #[n6 x,n6 y]] (.bool (ordB x y .eq)) (fun W hk=>req_any x y W) ?_
 refine rk ?_
 refine gX [.bool (ordB x y .eq)] (boVal (ordB x y .eq)) (fun W hk=>truth_any _ W) ?_
 refine rk ?_
 exact gR (boVal (ordB x y .eq)) (fun W hk=>⟨rfl,hk.below⟩)
theorem appR_6 (x y:Int) (w:World):CB 82 #[n8 6,.iface 159 (.agg #[n6 x,n6 y])] w (boVal (!ordB x y .eq)):=by
 refine eN [n8 6,.iface 159 (.agg #[n6 x,n6 y])] Tryz.func82 (fun γ0 hγ0=>?_)
 refine rs [] 200 30 ?_
 refine gX [.agg #[n6 x,n6 y]] (.bool (ordB x y .eq)) (fun W hk=>req_any x y W) ?_
 refine rk ?_
 refine gX [.bool (!ordB x y .eq)] (boVal (!ordB x y .eq)) (fun W hk=>truth_any _ W) ?_
 refine rk ?_
 exact gR (boVal (!ordB x y .eq)) (fun W hk=>⟨rfl,hk.below⟩)
theorem appR_7 (x y:Int) (w:World):CB 82 #[n8 7,.iface 159 (.agg #[n6 x,n6 y])] w (boVal (ordB x y .lt)):=by
 refine eN [n8 7,.iface 159 (.agg #[n6 x,n6 y])] Tryz.func82 (fun γ0 hγ0=>?_)
 refine rs [] 200 30 ?_
 refine gX [.agg #[n6 x,n6 y]] (.bool (ordB x y .lt)) (fun W hk=>rlt_any x y W) ?_
 refine rk ?_
 refine gX [.bool (ordB x y .lt)] (boVal (ordB x y .lt)) (fun W hk=>truth_any _ W) ?_
 refine rk ?_
 exact gR (boVal (ordB x y .lt)) (fun W hk=>⟨rfl,hk.below⟩)
theorem appR_8 (x y:Int) (w:World):CB 82 #[n8 8,.iface 159 (.agg #[n6 x,n6 y])] w (boVal (ordB x y .lt || ordB x y .eq)):=by
 refine eN [n8 8,.iface 159 (.agg #[n6 x,n6 y])] Tryz.func82 (fun γ0 hγ0=>?_)
 refine rs [] 200 30 ?_
 refine gX [.agg #[n6 x,n6 y]] (.bool (ordB x y .lt)) (fun W hk=>rlt_any x y W) ?_
 refine rs [29] 60 0 ?_
 rcases Bool.eq_false_or_eq_true (ordB x y .lt) with hc | hc
 ·
  refine gS 28 (x := .bool (ordB x y .lt)) (.bool true) (by rw [hc]) ?_
  refine rk ?_
  refine gX [.bool (true)] (boVal (true)) (fun W hk=>truth_any _ W) ?_
  refine rk ?_
  exact gR (boVal (true)) (fun W hk=>⟨by rw [hc];rfl,hk.below⟩)
 ·
  refine gS 28 (x := .bool (ordB x y .lt)) (.bool false) (by rw [hc]) ?_
  refine rk ?_
  refine gX [.agg #[n6 x,n6 y]] (.bool (ordB x y .eq)) (fun W hk=>req_any x y W) ?_
  refine rk ?_
  refine gX [.bool (ordB x y .eq)] (boVal (ordB x y .eq)) (fun W hk=>truth_any _ W) ?_
  refine rk ?_
  exact gR (boVal (ordB x y .eq)) (fun W hk=>⟨by rw [hc];rfl,hk.below⟩)
theorem appR_9 (x y:Int) (w:World):CB 82 #[n8 9,.iface 159 (.agg #[n6 x,n6 y])] w (boVal (ordB y x .lt)):=by
 refine eN [n8 9,.iface 159 (.agg #[n6 x,n6 y])] Tryz.func82 (fun γ0 hγ0=>?_)
 refine rs [] 200 30 ?_
 refine gN [.iface 159 (.agg #[n6 x,n6 y])] (fun v=>v = .iface 159 (.agg #[n6 y,n6 x])) (fun W hk=>(turnR_any x y W).mono fun e w2 ⟨h1,h2⟩=>⟨_,h1,rfl,h2⟩) ?_
 intro r w2 hr hk2
 subst hr
 clear hk2 w2
 refine rk ?_
 refine gX [.agg #[n6 y,n6 x]] (.bool (ordB y x .lt)) (fun W hk=>rlt_any y x W) ?_
 refine rk ?_
 refine gX [.bool (ordB y x .lt)] (boVal (ordB y x .lt)) (fun W hk=>truth_any _ W) ?_
 refine rk ?_
 exact gR (boVal (ordB y x .lt)) (fun W hk=>⟨rfl,hk.below⟩)
theorem appR_10 (x y:Int) (w:World):CB 82 #[n8 10,.iface 159 (.agg #[n6 x,n6 y])] w (boVal (ordB y x .lt || ordB x y .eq)):=by
 refine eN [n8 10,.iface 159 (.agg #[n6 x,n6 y])] Tryz.func82 (fun γ0 hγ0=>?_)
 refine rs [] 200 30 ?_
 refine gN [.iface 159 (.agg #[n6 x,n6 y])] (fun v=>v = .iface 159 (.agg #[n6 y,n6 x])) (fun W hk=>(turnR_any x y W).mono fun e w2 ⟨h1,h2⟩=>⟨_,h1,rfl,h2⟩) ?_
 intro r w2 hr hk2
 subst hr
 clear hk2 w2
 refine rk ?_
 refine gX [.agg #[n6 y,n6 x]] (.bool (ordB y x .lt)) (fun W hk=>rlt_any y x W) ?_
 refine rs [45] 60 0 ?_
 rcases Bool.eq_false_or_eq_true (ordB y x .lt) with hc | hc
 ·
  refine gS 44 (x := .bool (ordB y x .lt)) (.bool true) (by rw [hc]) ?_
  refine rk ?_
  refine gX [.bool (true)] (boVal (true)) (fun W hk=>truth_any _ W) ?_
  refine rk ?_
  exact gR (boVal (true)) (fun W hk=>⟨by rw [hc];rfl,hk.below⟩)
 ·
  refine gS 44 (x := .bool (ordB y x .lt)) (.bool false) (by rw [hc]) ?_
  refine rk ?_
  refine gX [.agg #[n6 x,n6 y]] (.bool (ordB x y .eq)) (fun W hk=>req_any x y W) ?_
  refine rk ?_
  refine gX [.bool (ordB x y .eq)] (boVal (ordB x y .eq)) (fun W hk=>truth_any _ W) ?_
  refine rk ?_
  exact gR (boVal (ordB x y .eq)) (fun W hk=>⟨by rw [hc];rfl,hk.below⟩)
theorem appB_5 (x y:Int) (w:World):CB 82 #[n8 5,.iface 160 (.agg #[n6 x,n6 y])] w (boVal (intEq x y)):=by
 refine eN [n8 5,.iface 160 (.agg #[n6 x,n6 y])] Tryz.func82 (fun γ0 hγ0=>?_)
 refine rs [] 200 30 ?_
 refine gX [.agg #[n6 x,n6 y]] (.bool (intEq x y)) (fun W hk=>beq_any x y W) ?_
 refine rk ?_
 refine gX [.bool (intEq x y)] (boVal (intEq x y)) (fun W hk=>truth_any _ W) ?_
 refine rk ?_
 exact gR (boVal (intEq x y)) (fun W hk=>⟨rfl,hk.below⟩)
theorem appB_6 (x y:Int) (w:World):CB 82 #[n8 6,.iface 160 (.agg #[n6 x,n6 y])] w (boVal (!intEq x y)):=by
 refine eN [n8 6,.iface 160 (.agg #[n6 x,n6 y])] Tryz.func82 (fun γ0 hγ0=>?_)
 refine rs [] 200 30 ?_
 refine gX [.agg #[n6 x,n6 y]] (.bool (intEq x y)) (fun W hk=>beq_any x y W) ?_
 refine rk ?_
 refine gX [.bool (!intEq x y)] (boVal (!intEq x y)) (fun W hk=>truth_any _ W) ?_
 refine rk ?_
 exact gR (boVal (!intEq x y)) (fun W hk=>⟨rfl,hk.below⟩)
theorem appI_add (b:Nat) (x y:Int) (w:World):CB 82 #[n8 11,.iface 155 (.agg #[nP b,nI x,nI y])] w (.agg #[n8 1,n6 (IntKind.u64.wrap (wrapF .i64 (x+y)))]):=by
 refine eN [n8 11,.iface 155 (.agg #[nP b,nI x,nI y])] Tryz.func82 (fun γ0 hγ0=>?_)
 refine rs [] 200 30 ?_
 refine gX [.agg #[nP b,nI x,nI y],n8 11] (nI (wrapF .i64 (x+y))) (fun W hk=>inum_add b x y  W) ?_
 refine rk ?_
 exact gR (.agg #[n8 1,n6 (IntKind.u64.wrap (wrapF .i64 (x+y)))]) (fun W hk=>⟨rfl,hk.below⟩)
theorem appI_sub (b:Nat) (x y:Int) (w:World):CB 82 #[n8 12,.iface 155 (.agg #[nP b,nI x,nI y])] w (.agg #[n8 1,n6 (IntKind.u64.wrap (wrapF .i64 (x - y)))]):=by
 refine eN [n8 12,.iface 155 (.agg #[nP b,nI x,nI y])] Tryz.func82 (fun γ0 hγ0=>?_)
 refine rs [] 200 30 ?_
 refine gX [.agg #[nP b,nI x,nI y],n8 12] (nI (wrapF .i64 (x - y))) (fun W hk=>inum_sub b x y  W) ?_
 refine rk ?_
 exact gR (.agg #[n8 1,n6 (IntKind.u64.wrap (wrapF .i64 (x - y)))]) (fun W hk=>⟨rfl,hk.below⟩)
theorem appI_mul (b:Nat) (x y:Int) (w:World):CB 82 #[n8 13,.iface 155 (.agg #[nP b,nI x,nI y])] w (.agg #[n8 1,n6 (IntKind.u64.wrap (wrapF .i64 (x*y)))]):=by
 refine eN [n8 13,.iface 155 (.agg #[nP b,nI x,nI y])] Tryz.func82 (fun γ0 hγ0=>?_)
 refine rs [] 200 30 ?_
 refine gX [.agg #[nP b,nI x,nI y],n8 13] (nI (wrapF .i64 (x*y))) (fun W hk=>inum_mul b x y  W) ?_
 refine rk ?_
 exact gR (.agg #[n8 1,n6 (IntKind.u64.wrap (wrapF .i64 (x*y)))]) (fun W hk=>⟨rfl,hk.below⟩)
theorem appI_neg (b:Nat) (x y:Int) (w:World):CB 82 #[n8 16,.iface 155 (.agg #[nP b,nI x,nI y])] w (.agg #[n8 1,n6 (IntKind.u64.wrap (IntKind.i64.wrap (0 - x)))]):=by
 refine eN [n8 16,.iface 155 (.agg #[nP b,nI x,nI y])] Tryz.func82 (fun γ0 hγ0=>?_)
 refine rs [] 200 30 ?_
 refine gX [.agg #[nP b,nI x,nI y],n8 16] (nI (IntKind.i64.wrap (0 - x))) (fun W hk=>inum_neg b x y  W) ?_
 refine rk ?_
 exact gR (.agg #[n8 1,n6 (IntKind.u64.wrap (IntKind.i64.wrap (0 - x)))]) (fun W hk=>⟨rfl,hk.below⟩)
theorem appI_div (b:Nat) (x y:Int) (hy:¬ y=0) (w:World):CB 82 #[n8 14,.iface 155 (.agg #[nP b,nI x,nI y])] w (.agg #[n8 1,n6 (IntKind.u64.wrap (wrapF .i64 (Int.tdiv x y)))]):=by
 refine eN [n8 14,.iface 155 (.agg #[nP b,nI x,nI y])] Tryz.func82 (fun γ0 hγ0=>?_)
 refine rs [] 200 30 ?_
 refine gX [.agg #[nP b,nI x,nI y],n8 14] (nI (wrapF .i64 (Int.tdiv x y))) (fun W hk=>inum_div b x y hy W) ?_
 refine rk ?_
 exact gR (.agg #[n8 1,n6 (IntKind.u64.wrap (wrapF .i64 (Int.tdiv x y)))]) (fun W hk=>⟨rfl,hk.below⟩)
theorem appI_mod (b:Nat) (x y:Int) (hy:¬ y=0) (w:World):CB 82 #[n8 15,.iface 155 (.agg #[nP b,nI x,nI y])] w (.agg #[n8 1,n6 (IntKind.u64.wrap (Int.tmod x y))]):=by
 refine eN [n8 15,.iface 155 (.agg #[nP b,nI x,nI y])] Tryz.func82 (fun γ0 hγ0=>?_)
 refine rs [] 200 30 ?_
 refine gX [.agg #[nP b,nI x,nI y],n8 15] (nI (Int.tmod x y)) (fun W hk=>inum_mod b x y hy W) ?_
 refine rk ?_
 exact gR (.agg #[n8 1,n6 (IntKind.u64.wrap (Int.tmod x y))]) (fun W hk=>⟨rfl,hk.below⟩)
theorem appI_div0 (b:Nat) (lo:Value) (n x:Int) (w:World) (hb:WkAt w b lo n):Calls Tryz.prog 82 #[n8 14,.iface 155 (.agg #[nP b,nI x,nI 0])] w fun e w'=>e = .panicked [{ v:=trapV n,recovered:=false }]∧Below w.heap.size w w':=by
 have hblt:b<w.heap.size:=(Array.getElem?_eq_some_iff.1 hb).1
 have hbl:∀ W,Keep (·<w.heap.size) w W→WkAt W b lo n:=fun W hk=>(hk.block b hblt).trans hb
 refine eN [n8 14,.iface 155 (.agg #[nP b,nI x,nI 0])] Tryz.func82 (fun γ0 hγ0=>?_)
 refine rs [] 200 30 ?_
 refine good_callP0 (sy_cx _ _) [.agg #[nP b,nI x,nI 0],n8 14] (fun _=>False) (Pr:=fun _ _ _=>False) (Pp:=fun _ v _=>v=trapV n) (by kernel_rfl) (by kernel_rfl) (fun γ vs hl=>closeLL_eq (by kernel_rfl) hl) (by kernel_rfl) (fun k h=>h.elim) (fun W hk=>(inum_div0 b lo n x W (hbl W hk)).mono fun en w' ⟨h1,h2⟩ => .inr ⟨_,h1,rfl,(Keep.of_below h2 (fun k h=>h)).mono fun k h=>h.1⟩) (fun _ _ _ _ _ h=>h.elim) ?_
 rintro W2 v w2 B2 hk2 rfl hkW2 hk12 hB12 hBn2 hB2
 exact goodP_endV (trapV n) (by kernel_rfl) (by kernel_rfl) (fun W3 hk3=>⟨rfl,((hk12.mono fun k h=>⟨h,fun h=>h⟩).trans (hk3.mono fun k h=>hB12 k h)).below⟩)
theorem appI_mod0 (b:Nat) (lo:Value) (n x:Int) (w:World) (hb:WkAt w b lo n):Calls Tryz.prog 82 #[n8 15,.iface 155 (.agg #[nP b,nI x,nI 0])] w fun e w'=>e = .panicked [{ v:=trapV n,recovered:=false }]∧Below w.heap.size w w':=by
 have hblt:b<w.heap.size:=(Array.getElem?_eq_some_iff.1 hb).1
 have hbl:∀ W,Keep (·<w.heap.size) w W→WkAt W b lo n:=fun W hk=>(hk.block b hblt).trans hb
 refine eN [n8 15,.iface 155 (.agg #[nP b,nI x,nI 0])] Tryz.func82 (fun γ0 hγ0=>?_)
 refine rs [] 200 30 ?_
 refine good_callP0 (sy_cx _ _) [.agg #[nP b,nI x,nI 0],n8 15] (fun _=>False) (Pr:=fun _ _ _=>False) (Pp:=fun _ v _=>v=trapV n) (by kernel_rfl) (by kernel_rfl) (fun γ vs hl=>closeLL_eq (by kernel_rfl) hl) (by kernel_rfl) (fun k h=>h.elim) (fun W hk=>(inum_mod0 b lo n x W (hbl W hk)).mono fun en w' ⟨h1,h2⟩ => .inr ⟨_,h1,rfl,(Keep.of_below h2 (fun k h=>h)).mono fun k h=>h.1⟩) (fun _ _ _ _ _ h=>h.elim) ?_
 rintro W2 v w2 B2 hk2 rfl hkW2 hk12 hB12 hBn2 hB2
 exact goodP_endV (trapV n) (by kernel_rfl) (by kernel_rfl) (fun W3 hk3=>⟨rfl,((hk12.mono fun k h=>⟨h,fun h=>h⟩).trans (hk3.mono fun k h=>hB12 k h)).below⟩)
theorem appR_add (x y:Int) (w:World):CB 82 #[n8 11,.iface 159 (.agg #[n6 x,n6 y])] w (.agg #[n8 3,n6 (arN .add x.toNat y.toNat:Int)]):=by
 refine eN [n8 11,.iface 159 (.agg #[n6 x,n6 y])] Tryz.func82 (fun γ0 hγ0=>?_)
 refine rs [] 200 30 ?_
 refine gX [.agg #[n6 x,n6 y],n8 11] (n6 (arN .add x.toNat y.toNat:Int)) (fun W hk=>rnum_add x y W) ?_
 refine rk ?_
 exact gR (.agg #[n8 3,n6 (arN .add x.toNat y.toNat:Int)]) (fun W hk=>⟨rfl,hk.below⟩)
theorem appR_sub (x y:Int) (w:World):CB 82 #[n8 12,.iface 159 (.agg #[n6 x,n6 y])] w (.agg #[n8 3,n6 (arN .sub x.toNat y.toNat:Int)]):=by
 refine eN [n8 12,.iface 159 (.agg #[n6 x,n6 y])] Tryz.func82 (fun γ0 hγ0=>?_)
 refine rs [] 200 30 ?_
 refine gX [.agg #[n6 x,n6 y],n8 12] (n6 (arN .sub x.toNat y.toNat:Int)) (fun W hk=>rnum_sub x y W) ?_
 refine rk ?_
 exact gR (.agg #[n8 3,n6 (arN .sub x.toNat y.toNat:Int)]) (fun W hk=>⟨rfl,hk.below⟩)
theorem appR_mul (x y:Int) (w:World):CB 82 #[n8 13,.iface 159 (.agg #[n6 x,n6 y])] w (.agg #[n8 3,n6 (arN .mul x.toNat y.toNat:Int)]):=by
 refine eN [n8 13,.iface 159 (.agg #[n6 x,n6 y])] Tryz.func82 (fun γ0 hγ0=>?_)
 refine rs [] 200 30 ?_
 refine gX [.agg #[n6 x,n6 y],n8 13] (n6 (arN .mul x.toNat y.toNat:Int)) (fun W hk=>rnum_mul x y W) ?_
 refine rk ?_
 exact gR (.agg #[n8 3,n6 (arN .mul x.toNat y.toNat:Int)]) (fun W hk=>⟨rfl,hk.below⟩)
theorem appR_quo (x y:Int) (w:World):CB 82 #[n8 14,.iface 159 (.agg #[n6 x,n6 y])] w (.agg #[n8 3,n6 (arN .quo x.toNat y.toNat:Int)]):=by
 refine eN [n8 14,.iface 159 (.agg #[n6 x,n6 y])] Tryz.func82 (fun γ0 hγ0=>?_)
 refine rs [] 200 30 ?_
 refine gX [.agg #[n6 x,n6 y],n8 14] (n6 (arN .quo x.toNat y.toNat:Int)) (fun W hk=>rnum_quo x y W) ?_
 refine rk ?_
 exact gR (.agg #[n8 3,n6 (arN .quo x.toNat y.toNat:Int)]) (fun W hk=>⟨rfl,hk.below⟩)
theorem appR_neg (x y:Int) (w:World):CB 82 #[n8 16,.iface 159 (.agg #[n6 x,n6 y])] w (.agg #[n8 3,n6 (ngN x)]):=by
 refine eN [n8 16,.iface 159 (.agg #[n6 x,n6 y])] Tryz.func82 (fun γ0 hγ0=>?_)
 refine rs [] 200 30 ?_
 refine gX [.agg #[n6 x,n6 y],n8 16] (n6 (ngN x)) (fun W hk=>rnum_neg x y W) ?_
 refine rk ?_
 exact gR (.agg #[n8 3,n6 (ngN x)]) (fun W hk=>⟨rfl,hk.below⟩)
end
section
abbrev Vl:=Int×Int
def toI (b:Int):Int:=IntKind.i64.wrap b
def toU (b:Int):Int:=IntKind.u64.wrap b
def boV (b:Bool):Vl:=(2,if b then 1 else 0)
def sameV (t x y:Int):Bool:=if t=3 then FloatKind.f64.format.order x.toNat y.toNat==some .eq else Sy.intEq x y
def lessV (t x y:Int):Bool:=if t=3 then FloatKind.f64.format.order x.toNat y.toNat==some .lt else Sy.intLt (toI x) (toI y)
def whV (op x y:Int):Option Int:=
 if op=11 then some (Sy.wrapF .i64 (x+y)) else if op=12 then some (Sy.wrapF .i64 (x - y)) else if op=13 then some (Sy.wrapF .i64 (x*y))
 else if y=0 then none else if op=14 then some (Sy.wrapF .i64 (Int.tdiv x y)) else some (Int.tmod x y)
def opR (op:Int):BinOp:=if op=11 then .add else if op=12 then .sub else if op=13 then .mul else .quo
def twoV (op:Int) (a b:Vl):Option Vl:=
 if op=3 then some (boV (Sy.intEq a.2 1 || Sy.intEq b.2 1)) else if op=4 then some (boV (Sy.intEq a.2 1&&Sy.intEq b.2 1))
 else if op=5 then some (boV (sameV a.1 a.2 b.2)) else if op=6 then some (boV (!sameV a.1 a.2 b.2))
 else if op=7 then some (boV (lessV a.1 a.2 b.2)) else if op=8 then some (boV (lessV a.1 a.2 b.2 || sameV a.1 a.2 b.2))
 else if op=9 then some (boV (lessV a.1 b.2 a.2)) else if op=10 then some (boV (lessV a.1 b.2 a.2 || sameV a.1 a.2 b.2))
 else if a.1=3 then some (3,(arN (opR op) a.2.toNat b.2.toNat:Int)) else (whV op (toI a.2) (toI b.2)).map fun n=>(1,toU n)
def oneV (op:Int) (a:Vl):Option Vl:=
 if op=17 then some (boV (Sy.intEq a.2 0)) else if op=19 then some (3,(toN (floatOfInt .f64 (toI a.2)):Int))
 else if op=18 then (if (tiN a.2.toNat).2 then some (1,toU (tiN a.2.toNat).1) else none)
 else if a.1=3 then some (3,ngN a.2) else some (1,toU (0 - a.2))
def evK (op:Int):List (Option Vl×Nat)→Option Vl×Nat
 | [(none,n)]=>(none,n)
 | [(some a,n)]=>(oneV op a,n+1)
 | [(none,n),_]=>(none,n)
 | [(some _,n),(none,m)]=>(none,n+m)
 | [(some a,n),(some b,m)]=>(twoV op a b,n+m+1)
 | _=>(none,0)
mutual
def evE (lk:List UInt8→Vl):Ex→Option Vl×Nat
 | .mk op ty bits name kids=>if op=1 then (some (ty,bits),1) else if op=2 then (some (lk name),1) else evK op (evEs lk kids)
def evEs (lk:List UInt8→Vl):List Ex→List (Option Vl×Nat)
 | []=>[]
 | e::l=>evE lk e::evEs lk l
end
mutual
def tyD (lk:List UInt8→Vl):Ex→Int
 | .mk op ty _ name kids=>if op=1 then ty else if op=2 then (lk name).1 else tyK op (tyDs lk kids)
def tyDs (lk:List UInt8→Vl):List Ex→List Int
 | []=>[]
 | e::l=>tyD lk e::tyDs lk l
end
theorem tyD_kids {lk:List UInt8→Vl} {op ty bits:Int} {name:List UInt8} {kids:List Ex} (c1:¬ op=1) (c2:¬ op=2):tyD lk (.mk op ty bits name kids)=tyK op (tyDs lk kids):=by
 rw [tyD,if_neg c1,if_neg c2]
theorem evE_kids {lk:List UInt8→Vl} {op ty bits:Int} {name:List UInt8} {kids:List Ex} (c1:¬ op=1) (c2:¬ op=2):evE lk (.mk op ty bits name kids)=evK op (evEs lk kids):=by
 rw [evE,if_neg c1,if_neg c2]
def tyG (t:Int):Prop:=t=1∨t=2∨t=3
def vlG (v:Vl):Prop:=tyG v.1∧(v.1=1→0≤v.2∧v.2<18446744073709551616)
theorem toU_rg (n:Int):0≤toU n∧toU n<18446744073709551616:=by
 unfold toU
 rw [IntKind.wrap_u64]
 omega
theorem boV_G (b:Bool):vlG (boV b):=⟨.inr (.inl rfl),fun h=>by cases b <;> simp [boV] at h⟩
theorem lit_G {ty bits:Int} {t:List UInt8} (h:litT ty bits=some t):tyG ty:=by
 unfold litT at h
 split at h
 · exact .inl (by assumption)
 split at h
 · exact .inr (.inl (by assumption))
 split at h
 · exact .inr (.inr (by assumption))
 cases h
theorem cw_or {b:Bool} {t:Int} (h:cw b t≠0):b=true∧cw b t=t:=by
 cases b
 · exact absurd rfl h
 · exact ⟨rfl,rfl⟩
theorem numT_or {a:Int} (h:numT a=true):a=1∨a=3:=by
 unfold numT at h
 rw [Sy.intEq_eq,Sy.intEq_eq] at h
 simpa using h
def atN (s:List UInt8):List (List UInt8)→Option Nat
 | []=>none
 | x::l=>if x=s then some 0 else (atN s l).map (·+1)
def lkV (ns:List (List UInt8)) (vs:List Vl) (s:List UInt8):Vl:=match atN s ns with
 | none=>(0,0)
 | some i=>vs.getD i (0,0)
mutual
def ngt (ns:List (List UInt8)) (vs:List Vl):Ex→Option Ex
 | .mk op ty bits name kids=>if op=2 then (match atN name ns with
  | none=>none
  | some i=>some (.mk 1 (vs.getD i (0,0)).1 0 [] [])) else (ngts ns vs kids).map fun ks => .mk op ty bits name ks
def ngts (ns:List (List UInt8)) (vs:List Vl):List Ex→Option (List Ex)
 | []=>some []
 | e::l=>match ngt ns vs e with
   | none=>none
   | some x=>(ngts ns vs l).map (x::·)
end
theorem atN_lt {s:List UInt8}:∀ {ns:List (List UInt8)} {i:Nat},atN s ns=some i→i<ns.length
 | [],i,h=>by cases h
 | x::l,i,h=>by
   unfold atN at h
   split at h
   · cases h;simp
   · rw [Option.map_eq_some_iff] at h
     obtain ⟨j,hj,rfl⟩:=h
     have:=atN_lt hj
     simp only [List.length_cons];omega
theorem resT_ne {op a b:Int} (hop:3≤op∧op≤19) (h:resT op a b≠0):resT op a b=1∨resT op a b=2∨resT op a b=3:=by
 have hc:op=3∨op=4∨op=5∨op=6∨op=7∨op=8∨op=9∨op=10∨op=11∨op=12∨op=13∨op=14∨op=15∨op=16∨op=17∨op=18∨op=19:=by omega
 rcases hc with rfl | rfl | rfl | rfl | rfl | rfl | rfl | rfl | rfl | rfl | rfl | rfl | rfl | rfl | rfl | rfl | rfl <;>
 (simp only [resT] at h ⊢
  simp at h ⊢
  obtain ⟨h1,h2⟩:=cw_or h
  rw [h2]
  first
  | omega
  | (simp only [Bool.and_eq_true] at h1;have:=numT_or h1.2;omega)
  | (have:=numT_or h1;omega))
theorem one_ty {op:Int} (hop:16≤op∧op≤19) {va v:Vl} (ha:vlG va) (hr:resT op va.1 0≠0) (h:oneV op va=some v):v.1=resT op va.1 0∧vlG v:=by
 have hc:op=16∨op=17∨op=18∨op=19:=by omega
 obtain ⟨a,x⟩:=va
 rcases hc with rfl | rfl | rfl | rfl
 all_goals
  simp only [resT] at hr ⊢
  simp only [oneV] at h
  simp at hr h ⊢
  obtain ⟨h1,h2⟩:=cw_or hr
  rw [h2]
 · rcases numT_or h1 with rfl | rfl
   · simp at h;subst h;exact ⟨rfl,.inl rfl,fun _=>toU_rg _⟩
   · simp at h;subst h;exact ⟨rfl,.inr (.inr rfl),fun h=>by simp at h⟩
 · subst h;exact ⟨rfl,boV_G _⟩
 · obtain ⟨_,h⟩:=h;subst h;exact ⟨rfl,.inl rfl,fun _=>toU_rg _⟩
 · subst h;exact ⟨rfl,.inr (.inr rfl),fun h=>by simp at h⟩
theorem two_ty {op:Int} (hop:3≤op∧op≤15) {va vb v:Vl} (ha:vlG va) (hb:vlG vb) (hr:resT op va.1 vb.1≠0) (h:twoV op va vb=some v):v.1=resT op va.1 vb.1∧vlG v:=by
 have hc:op=3∨op=4∨op=5∨op=6∨op=7∨op=8∨op=9∨op=10∨op=11∨op=12∨op=13∨op=14∨op=15:=by omega
 obtain ⟨a,x⟩:=va
 obtain ⟨b,y⟩:=vb
 rcases hc with rfl | rfl | rfl | rfl | rfl | rfl | rfl | rfl | rfl | rfl | rfl | rfl | rfl
 all_goals
  simp only [resT] at hr ⊢
  simp only [twoV] at h
  simp at hr h ⊢
  obtain ⟨h1,h2⟩:=cw_or hr
  rw [h2]
 iterate 8 (· subst h;exact ⟨rfl,boV_G _⟩)
 iterate 4
  (· simp only [Bool.and_eq_true] at h1
     rcases numT_or h1.2 with rfl | rfl
     · simp at h;obtain ⟨n,_,rfl⟩:=h;exact ⟨rfl,.inl rfl,fun _=>toU_rg _⟩
     · simp at h;subst h;exact ⟨rfl,.inr (.inr rfl),fun h=>by simp at h⟩)
 · rw [Sy.intEq_eq,Sy.intEq_eq] at h1
   simp at h1
   obtain ⟨rfl,rfl⟩:=h1
   simp at h;obtain ⟨n,_,rfl⟩:=h;exact ⟨rfl,.inl rfl,fun _=>toU_rg _⟩
end
section
def vlV (v:Vl):Value := .agg #[.int .u8 v.1,.int .u64 v.2]
def opdV (b:Nat) (va vb:Vl):Value:=if va.1=3 then .iface 159 (.agg #[.int .u64 va.2,.int .u64 vb.2]) else if va.1=2 then .iface 160 (.agg #[.int .u64 va.2,.int .u64 vb.2]) else .iface 155 (.agg #[.pointer (some ⟨b,0,none⟩),.int .i64 (toI va.2),.int .i64 (toI vb.2)])
def AppP (o:Option Vl) (m:Int) (w:World) (e:Ending) (w':World):Prop:=
 (∃ u,o=some u∧e = .returned (vlV u)∧Below w.heap.size w w')∨(o=none∧e = .panicked [{ v:=trapV m,recovered:=false }]∧Below w.heap.size w w')
theorem toI_inj {x y:Int} (hx:0≤x∧x<18446744073709551616) (hy:0≤y∧y<18446744073709551616):Sy.intEq (toI x) (toI y)=Sy.intEq x y:=by
 rw [Sy.intEq_eq,Sy.intEq_eq]
 unfold toI
 rw [IntKind.wrap_i64,IntKind.wrap_i64]
 by_cases h:x=y
 · subst h;simp
 · have:¬ ((x+9223372036854775808) % 18446744073709551616 - 9223372036854775808=(y+9223372036854775808) % 18446744073709551616 - 9223372036854775808):=by omega
   simp [h,this]
theorem resT_two {op a b:Int} (hop:5≤op∧op≤15) (h:resT op a b≠0):a=b∧(7≤op→a=1∨a=3)∧(op=15→a=1):=by
 have hc:op=5∨op=6∨op=7∨op=8∨op=9∨op=10∨op=11∨op=12∨op=13∨op=14∨op=15:=by omega
 rcases hc with rfl | rfl | rfl | rfl | rfl | rfl | rfl | rfl | rfl | rfl | rfl
 all_goals
  simp only [resT] at h
  simp at h
  obtain ⟨h1,_⟩:=cw_or h
 iterate 2 (· rw [Sy.intEq_eq] at h1;simp at h1;exact ⟨h1,by omega,by omega⟩)
 iterate 8 (· rw [Sy.intEq_eq] at h1;simp at h1;have:=numT_or h1.2;exact ⟨h1.1,fun _=>this,by omega⟩)
 · rw [Sy.intEq_eq,Sy.intEq_eq] at h1;simp at h1;exact ⟨h1.1.trans h1.2.symm,fun _ => .inl h1.1,fun _=>h1.1⟩
open Go.Sy in
theorem appI_any (op:Int) (hop:op=5∨op=6∨op=7∨op=8∨op=9∨op=10∨op=11∨op=12∨op=13∨op=14∨op=15) (b:Nat) (x y:Int) (hx:0≤x∧x<18446744073709551616) (hy:0≤y∧y<18446744073709551616) (lo:Value) (m:Int) (w:World) (hb:WkAt w b lo m):
  Calls Tryz.prog 82 #[.int .u8 op,opdV b (1,x) (1,y)] w (AppP (twoV op (1,x) (1,y)) m w):=by
 have hE:=toI_inj hx hy
 rw [show opdV b (1,x) (1,y) = .iface 155 (.agg #[.pointer (some ⟨b,0,none⟩),.int .i64 (toI x),.int .i64 (toI y)]) from by simp [opdV]]
 rcases hop with rfl | rfl | rfl | rfl | rfl | rfl | rfl | rfl | rfl | rfl | rfl
 · exact ((appI_5 b (toI x) (toI y) w).mono fun e w' ⟨h1,h2⟩ => .inl ⟨boV (intEq (toI x) (toI y)),by simp [twoV,sameV,lessV,ordB,hE],h1.trans rfl,h2⟩)
 · exact ((appI_6 b (toI x) (toI y) w).mono fun e w' ⟨h1,h2⟩ => .inl ⟨boV (!intEq (toI x) (toI y)),by simp [twoV,sameV,lessV,ordB,hE],h1.trans rfl,h2⟩)
 · exact ((appI_7 b (toI x) (toI y) w).mono fun e w' ⟨h1,h2⟩ => .inl ⟨boV (intLt (toI x) (toI y)),by simp [twoV,sameV,lessV,ordB,hE],h1.trans rfl,h2⟩)
 · exact ((appI_8 b (toI x) (toI y) w).mono fun e w' ⟨h1,h2⟩ => .inl ⟨boV (intLt (toI x) (toI y) || intEq (toI x) (toI y)),by simp [twoV,sameV,lessV,ordB,hE],h1.trans rfl,h2⟩)
 · exact ((appI_9 b (toI x) (toI y) w).mono fun e w' ⟨h1,h2⟩ => .inl ⟨boV (intLt (toI y) (toI x)),by simp [twoV,sameV,lessV,ordB,hE],h1.trans rfl,h2⟩)
 · exact ((appI_10 b (toI x) (toI y) w).mono fun e w' ⟨h1,h2⟩ => .inl ⟨boV (intLt (toI y) (toI x) || intEq (toI x) (toI y)),by simp [twoV,sameV,lessV,ordB,hE],h1.trans rfl,h2⟩)
 · exact (appI_add b (toI x) (toI y) w).mono fun e w' ⟨h1,h2⟩ => .inl ⟨(1,toU (wrapF .i64 ((toI x)+(toI y)))),by simp [twoV,whV],h1.trans rfl,h2⟩
 · exact (appI_sub b (toI x) (toI y) w).mono fun e w' ⟨h1,h2⟩ => .inl ⟨(1,toU (wrapF .i64 ((toI x) - (toI y)))),by simp [twoV,whV],h1.trans rfl,h2⟩
 · exact (appI_mul b (toI x) (toI y) w).mono fun e w' ⟨h1,h2⟩ => .inl ⟨(1,toU (wrapF .i64 ((toI x)*(toI y)))),by simp [twoV,whV],h1.trans rfl,h2⟩
 · by_cases h0:(toI y)=0
   · rw [h0]
     exact (appI_div0 b lo m (toI x) w hb).mono fun e w' ⟨h1,h2⟩ => .inr ⟨by simp [twoV,whV,h0],h1,h2⟩
   · exact (appI_div b (toI x) (toI y) h0 w).mono fun e w' ⟨h1,h2⟩ => .inl ⟨(1,toU (wrapF .i64 (Int.tdiv (toI x) (toI y)))),by simp [twoV,whV,h0],h1.trans rfl,h2⟩
 · by_cases h0:(toI y)=0
   · rw [h0]
     exact (appI_mod0 b lo m (toI x) w hb).mono fun e w' ⟨h1,h2⟩ => .inr ⟨by simp [twoV,whV,h0],h1,h2⟩
   · exact (appI_mod b (toI x) (toI y) h0 w).mono fun e w' ⟨h1,h2⟩ => .inl ⟨(1,toU (Int.tmod (toI x) (toI y))),by simp [twoV,whV,h0],h1.trans rfl,h2⟩
open Go.Sy in
theorem appR_any (op:Int) (hop:op=5∨op=6∨op=7∨op=8∨op=9∨op=10∨op=11∨op=12∨op=13∨op=14) (b:Nat) (x y:Int) (lo:Value) (m:Int) (w:World) (hb:WkAt w b lo m):
  Calls Tryz.prog 82 #[.int .u8 op,opdV b (3,x) (3,y)] w (AppP (twoV op (3,x) (3,y)) m w):=by
 have hE:True:=trivial
 rw [show opdV b (3,x) (3,y) = .iface 159 (.agg #[.int .u64 x,.int .u64 y]) from by simp [opdV]]
 rcases hop with rfl | rfl | rfl | rfl | rfl | rfl | rfl | rfl | rfl | rfl
 · exact ((appR_5 x y w).mono fun e w' ⟨h1,h2⟩ => .inl ⟨boV (ordB x y .eq),by simp [twoV,sameV,lessV,ordB,hE],h1.trans rfl,h2⟩)
 · exact ((appR_6 x y w).mono fun e w' ⟨h1,h2⟩ => .inl ⟨boV (!ordB x y .eq),by simp [twoV,sameV,lessV,ordB,hE],h1.trans rfl,h2⟩)
 · exact ((appR_7 x y w).mono fun e w' ⟨h1,h2⟩ => .inl ⟨boV (ordB x y .lt),by simp [twoV,sameV,lessV,ordB,hE],h1.trans rfl,h2⟩)
 · exact ((appR_8 x y w).mono fun e w' ⟨h1,h2⟩ => .inl ⟨boV (ordB x y .lt || ordB x y .eq),by simp [twoV,sameV,lessV,ordB,hE],h1.trans rfl,h2⟩)
 · exact ((appR_9 x y w).mono fun e w' ⟨h1,h2⟩ => .inl ⟨boV (ordB y x .lt),by simp [twoV,sameV,lessV,ordB,hE],h1.trans rfl,h2⟩)
 · exact ((appR_10 x y w).mono fun e w' ⟨h1,h2⟩ => .inl ⟨boV (ordB y x .lt || ordB x y .eq),by simp [twoV,sameV,lessV,ordB,hE],h1.trans rfl,h2⟩)
 · exact (appR_add x y w).mono fun e w' ⟨h1,h2⟩ => .inl ⟨(3,(arN .add x.toNat y.toNat:Int)),by simp [twoV,opR],h1.trans rfl,h2⟩
 · exact (appR_sub x y w).mono fun e w' ⟨h1,h2⟩ => .inl ⟨(3,(arN .sub x.toNat y.toNat:Int)),by simp [twoV,opR],h1.trans rfl,h2⟩
 · exact (appR_mul x y w).mono fun e w' ⟨h1,h2⟩ => .inl ⟨(3,(arN .mul x.toNat y.toNat:Int)),by simp [twoV,opR],h1.trans rfl,h2⟩
 · exact (appR_quo x y w).mono fun e w' ⟨h1,h2⟩ => .inl ⟨(3,(arN .quo x.toNat y.toNat:Int)),by simp [twoV,opR],h1.trans rfl,h2⟩
open Go.Sy in
theorem appB_any (op:Int) (hop:op=5∨op=6) (b:Nat) (x y:Int) (lo:Value) (m:Int) (w:World) (hb:WkAt w b lo m):
  Calls Tryz.prog 82 #[.int .u8 op,opdV b (2,x) (2,y)] w (AppP (twoV op (2,x) (2,y)) m w):=by
 have hE:True:=trivial
 rw [show opdV b (2,x) (2,y) = .iface 160 (.agg #[.int .u64 x,.int .u64 y]) from by simp [opdV]]
 rcases hop with rfl | rfl
 · exact ((appB_5 x y w).mono fun e w' ⟨h1,h2⟩ => .inl ⟨boV (intEq x y),by simp [twoV,sameV,lessV,ordB,hE],h1.trans rfl,h2⟩)
 · exact ((appB_6 x y w).mono fun e w' ⟨h1,h2⟩ => .inl ⟨boV (!intEq x y),by simp [twoV,sameV,lessV,ordB,hE],h1.trans rfl,h2⟩)
theorem app_any (op:Int) (hop:5≤op∧op≤15) (va vb:Vl) (ha:vlG va) (hv:vlG vb) (hr:resT op va.1 vb.1≠0) (b:Nat) (lo:Value) (m:Int) (w:World) (hb:WkAt w b lo m):
  Calls Tryz.prog 82 #[.int .u8 op,opdV b va vb] w (AppP (twoV op va vb) m w):=by
 obtain ⟨h1,h2,h3⟩:=resT_two hop hr
 obtain ⟨t,x⟩:=va
 obtain ⟨t',y⟩:=vb
 simp only at h1 h2 h3
 subst h1
 rcases ha.1 with h | h | h
 · have h:t=1:=h
   subst h
   exact appI_any op (by omega) b x y (ha.2 rfl) (hv.2 rfl) lo m w hb
 · have h:t=2:=h
   subst h
   exact appB_any op (by omega) b x y lo m w hb
 · have h:t=3:=h
   subst h
   exact appR_any op (by omega) b x y lo m w hb
theorem neg_raw (x:Int):IntKind.u64.wrap (IntKind.i64.wrap (0 - IntKind.i64.wrap x))=IntKind.u64.wrap (0 - x):=by
 rw [IntKind.wrap_i64,IntKind.wrap_i64,IntKind.wrap_u64,IntKind.wrap_u64]
 omega
theorem app_neg (va:Vl) (hr:va.1=1∨va.1=3) (b:Nat) (lo:Value) (m:Int) (w:World):
  Calls Tryz.prog 82 #[.int .u8 16,opdV b va (0,0)] w (AppP (oneV 16 va) m w):=by
 obtain ⟨t,x⟩:=va
 rcases hr with h | h
 · have h:t=1:=h
   subst h
   rw [show opdV b (1,x) (0,0) = .iface 155 (.agg #[.pointer (some ⟨b,0,none⟩),.int .i64 (toI x),.int .i64 (toI 0)]) from by simp [opdV]]
   exact (appI_neg b (toI x) (toI 0) w).mono fun e w' ⟨h1,h2⟩ => .inl ⟨(1,toU (0 - x)),by simp [oneV],by rw [h1];unfold toI;rw [neg_raw];rfl,h2⟩
 · have h:t=3:=h
   subst h
   rw [show opdV b (3,x) (0,0) = .iface 159 (.agg #[.int .u64 x,.int .u64 0]) from by simp [opdV]]
   exact (appR_neg x 0 w).mono fun e w' ⟨h1,h2⟩ => .inl ⟨(3,ngN x),by simp [oneV],h1.trans rfl,h2⟩
end
section
set_option maxRecDepth 100000
def twR (d:Vl) (o:Option Vl):Value:=match o with
 | some v => .tuple #[vlV v,.bool true]
 | none => .tuple #[vlV d,.bool false]
def whR (o:Option Int):Value:=match o with
 | some n => .tuple #[.int .i64 n,.bool true]
 | none => .tuple #[.int .i64 0,.bool false]
theorem mod_m1 (x:Int):Int.tmod x (-1)=0:=by
 rw [Int.tmod_neg,Int.tmod_one]
open Go.Sy
theorem dbool_any (c:Bool) (w:World):CB 88 #[.bool c] w (boVal c):=by
 cases c
 ·
  refine eN [.bool false] Tryz.func88 (fun γ0 hγ0=>?_)
  refine rs [] 60 2 ?_
  exact gR (boVal false) (fun W hk=>⟨rfl,hk.below⟩)
 ·
  refine eN [.bool true] Tryz.func88 (fun γ0 hγ0=>?_)
  refine rs [] 60 2 ?_
  exact gR (boVal true) (fun W hk=>⟨rfl,hk.below⟩)
theorem dwhole_any (op x y:Int) (hop:11≤op∧op≤15) (w:World):CB 95 #[n8 op,nI x,nI y] w (whR (whV op x y)):=by
 obtain rfl | rfl | rfl | ho:op=11∨op=12∨op=13∨(op=14∨op=15):=by omega
 ·
  refine eN [n8 11,nI x,nI y] Tryz.func95 (fun γ0 hγ0=>?_)
  refine rs [] 60 5 ?_
  exact gR (.tuple #[nI (wrapF .i64 (x+y)),.bool true]) (fun W hk=>⟨by simp [whV,whR],hk.below⟩)
 ·
  refine eN [n8 12,nI x,nI y] Tryz.func95 (fun γ0 hγ0=>?_)
  refine rs [] 60 5 ?_
  exact gR (.tuple #[nI (wrapF .i64 (x - y)),.bool true]) (fun W hk=>⟨by simp [whV,whR],hk.below⟩)
 ·
  refine eN [n8 13,nI x,nI y] Tryz.func95 (fun γ0 hγ0=>?_)
  refine rs [] 60 5 ?_
  exact gR (.tuple #[nI (wrapF .i64 (x*y)),.bool true]) (fun W hk=>⟨by simp [whV,whR],hk.below⟩)
 by_cases h0:y=0
 ·
  subst h0
  rcases ho with rfl | rfl
  all_goals
   refine eN [n8 _,nI x,nI 0] Tryz.func95 (fun γ0 hγ0=>?_)
   refine rs [] 60 6 ?_
   exact gR (.tuple #[nI 0,.bool false]) (fun W hk=>⟨by simp [whV,whR],hk.below⟩)
 by_cases h1:y = -1
 ·
  subst h1
  rcases ho with rfl | rfl
  ·
   refine eN [n8 14,nI x,nI (-1)] Tryz.func95 (fun γ0 hγ0=>?_)
   refine rs [] 60 8 ?_
   exact gR (.tuple #[nI (IntKind.i64.wrap (0 - x)),.bool true]) (fun W hk=>⟨by simp [whV,whR,Sy.wrapF_eq],hk.below⟩)
  ·
   refine eN [n8 15,nI x,nI (-1)] Tryz.func95 (fun γ0 hγ0=>?_)
   refine rs [] 60 8 ?_
   exact gR (.tuple #[nI 0,.bool true]) (fun W hk=>⟨by simp only [whV,whR];simp [mod_m1],hk.below⟩)
 rcases ho with rfl | rfl
 ·
  refine eN [n8 14,nI x,nI y] Tryz.func95 (fun γ0 hγ0=>?_)
  refine rs [] 60 3 ?_
  refine kw y 0 h0 ?_
  refine rk ?_
  refine kw y (-1) h1 ?_
  refine rs [36] 60 1 ?_
  refine gV (nI (wrapF .i64 (Int.tdiv x y))) (S:=(do eqGuard .quo 2 (.tmp 34) (.tmp 35) (nI x) (nI y);binOp .quo 2 (nI x) (nI y))) (fun W _=>run_quoI _ _ x y h0 W) ?_
  refine rk ?_
  exact gR (.tuple #[nI (wrapF .i64 (Int.tdiv x y)),.bool true]) (fun W hk=>⟨by simp [whV,whR,h0],hk.below⟩)
 ·
  refine eN [n8 15,nI x,nI y] Tryz.func95 (fun γ0 hγ0=>?_)
  refine rs [] 60 3 ?_
  refine kw y 0 h0 ?_
  refine rk ?_
  refine kw y (-1) h1 ?_
  refine rs [39] 60 1 ?_
  refine gV (nI (Int.tmod x y)) (S:=(do eqGuard .rem 2 (.tmp 37) (.tmp 38) (nI x) (nI y);binOp .rem 2 (nI x) (nI y))) (fun W _=>run_remI _ _ x y h0 W) ?_
  refine rk ?_
  exact gR (.tuple #[nI (Int.tmod x y),.bool true]) (fun W hk=>⟨by simp [whV,whR,h0],hk.below⟩)
theorem dreal_any (op x y:Int) (hop:11≤op∧op≤15) (w:World):CB 94 #[n8 op,n6 x,n6 y] w (n6 (arN (opR op) x.toNat y.toNat:Int)):=by
 obtain rfl | rfl | rfl | ho:op=11∨op=12∨op=13∨(op=14∨op=15):=by omega
 ·
  refine eN [n8 11,n6 x,n6 y] Tryz.func94 (fun γ0 hγ0=>?_)
  refine rs [] 60 5 ?_
  refine gX [n6 x,n6 y] (n6 (arN .add x.toNat y.toNat:Int)) (fun W hk=>(qadd_any x y W).mono fun e w' ⟨h1,q,h2⟩=>⟨h1,by rw [h2];exact below_drewN (Below.refl _ _) _⟩) ?_
  refine rk ?_
  exact gR (n6 (arN .add x.toNat y.toNat:Int)) (fun W hk=>⟨by simp [opR],hk.below⟩)
 ·
  refine eN [n8 12,n6 x,n6 y] Tryz.func94 (fun γ0 hγ0=>?_)
  refine rs [] 60 5 ?_
  refine gX [n6 x,n6 y] (n6 (arN .sub x.toNat y.toNat:Int)) (fun W hk=>(qsub_any x y W).mono fun e w' ⟨h1,q,h2⟩=>⟨h1,by rw [h2];exact below_drewN (Below.refl _ _) _⟩) ?_
  refine rk ?_
  exact gR (n6 (arN .sub x.toNat y.toNat:Int)) (fun W hk=>⟨by simp [opR],hk.below⟩)
 ·
  refine eN [n8 13,n6 x,n6 y] Tryz.func94 (fun γ0 hγ0=>?_)
  refine rs [] 60 5 ?_
  refine gX [n6 x,n6 y] (n6 (arN .mul x.toNat y.toNat:Int)) (fun W hk=>(qmul_any x y W).mono fun e w' ⟨h1,q,h2⟩=>⟨h1,by rw [h2];exact below_drewN (Below.refl _ _) _⟩) ?_
  refine rk ?_
  exact gR (n6 (arN .mul x.toNat y.toNat:Int)) (fun W hk=>⟨by simp [opR],hk.below⟩)
 rcases ho with rfl | rfl
 all_goals
  refine eN [n8 _,n6 x,n6 y] Tryz.func94 (fun γ0 hγ0=>?_)
  refine rs [] 60 5 ?_
  refine gX [n6 x,n6 y] (n6 (arN .quo x.toNat y.toNat:Int)) (fun W hk=>(qquo_any x y W).mono fun e w' ⟨h1,q,h2⟩=>⟨h1,by rw [h2];exact below_drewN (Below.refl _ _) _⟩) ?_
  refine rk ?_
  exact gR (n6 (arN .quo x.toNat y.toNat:Int)) (fun W hk=>⟨by simp [opR],hk.below⟩)
theorem done_any (op ta x:Int) (hop:16≤op∧op≤19) (w:World):CB 47 #[n8 op,.agg #[n8 ta,n6 x]] w (twR (0,0) (oneV op (ta,x))):=by
 obtain rfl | rfl | rfl | rfl:op=16∨op=17∨op=18∨op=19:=by omega
 ·
  refine eN [n8 16,.agg #[n8 ta,n6 x]] Tryz.func47 (fun γ0 hγ0=>?_)
  refine rs [] 60 3 ?_
  by_cases h3:ta=3
  ·
   refine kz ta 3 h3 ?_
   refine rk ?_
   refine gP [n6 x] (n6 (ngN x)) (fun W hk=>qneg_any x W) ?_
   refine rk ?_
   exact gR (.tuple #[vlV ((3,ngN x)),.bool true]) (fun W hk=>⟨by simp [oneV,twR,h3],hk.below⟩)
  ·
   refine kw ta 3 h3 ?_
   refine rk ?_
   exact gR (.tuple #[vlV ((1,toU (0 - x))),.bool true]) (fun W hk=>⟨by simp [oneV,twR,h3],hk.below⟩)
 ·
  refine eN [n8 17,.agg #[n8 ta,n6 x]] Tryz.func47 (fun γ0 hγ0=>?_)
  refine rs [] 60 3 ?_
  refine gX [.bool (intEq x 0)] (boVal (intEq x 0)) (fun W hk=>dbool_any _ W) ?_
  refine rk ?_
  exact gR (.tuple #[vlV (boV (intEq x 0)),.bool true]) (fun W hk=>⟨by simp [oneV,twR],hk.below⟩)
 ·
  refine eN [n8 18,.agg #[n8 ta,n6 x]] Tryz.func47 (fun γ0 hγ0=>?_)
  refine rs [] 60 3 ?_
  refine gP [n6 x] (.tuple #[nI (tiN x.toNat).1,.bool (tiN x.toNat).2]) (fun W hk=>qtoint_any x W) ?_
  refine rk ?_
  rcases Bool.eq_false_or_eq_true (tiN x.toNat).2 with hc | hc
  ·
   refine gK false (b:=(!(tiN x.toNat).2)) (by rw [hc];rfl) ?_
   refine rk ?_
   exact gR (.tuple #[vlV ((1,toU (tiN x.toNat).1)),.bool true]) (fun W hk=>⟨by simp [oneV,twR,hc],hk.below⟩)
  ·
   refine gK true (b:=(!(tiN x.toNat).2)) (by rw [hc];rfl) ?_
   refine rk ?_
   exact gR (.tuple #[vlV ((0,0)),.bool false]) (fun W hk=>⟨by simp [oneV,twR,hc],hk.below⟩)
 ·
  refine eN [n8 19,.agg #[n8 ta,n6 x]] Tryz.func47 (fun γ0 hγ0=>?_)
  refine rs [] 60 3 ?_
  refine gP [nI (toI x)] (n6 (toN (floatOfInt .f64 (toI x)):Int)) (fun W hk=>qfromint_any (toI x) W) ?_
  refine rk ?_
  exact gR (.tuple #[vlV ((3,(toN (floatOfInt .f64 (toI x)):Int))),.bool true]) (fun W hk=>⟨by simp [oneV,twR],hk.below⟩)
theorem dtwo_tail (op ta x tb y:Int) (S L M:Bool) (hS:S=sameV ta x y) (hL:L=lessV ta x y) (hM:M=lessV ta y x) (w:World) (γ0:Gm) (hγ0:∀ b,gz≤b→γ0 b=none) (hop:3≤op∧op≤15):
  Go.Sy.Good Tryz.prog (·<w.heap.size) w γ0 Tryz.f48.ntmps (bodyPostD Tryz.prog Tryz.f48 (fun e w'=>e = .returned (twR (1,0) (twoV op (ta,x) (tb,y)))∧Below w.heap.size w w')) ⟨[.code (seqR (seqR (seqR (seqR (seqR (seqR (Tryz.f48.body.getD .skip)))))))],⟨mkT [(0,v8 op),(4,.ptr gz 0),(6,.ptr (gz+2) 0),(7,vB false),(8,v6 x),(9,v6 y),(10,vB (S)),(11,vB (L)),(12,vB (M))],mkH [(gz,bK 26 2 [v8 ta,v6 x]),(gz+2,bK 26 2 [v8 0,v6 0])],gz+3,[]⟩⟩:=by
 obtain rfl | rfl | rfl | rfl | rfl | rfl | rfl | rfl | ho:op=3∨op=4∨op=5∨op=6∨op=7∨op=8∨op=9∨op=10∨11≤op:=by omega
 ·
  refine rs [50] 120 20 ?_
  rcases Bool.eq_false_or_eq_true (intEq x 1) with hc | hc
  ·
   refine gS 49 (x := .bool (intEq x 1)) (.bool true) (by rw [hc]) ?_
   refine rk ?_
   refine gX [.bool (true)] (boVal (true)) (fun W hk=>dbool_any _ W) ?_
   refine rk ?_
   exact gR (.tuple #[vlV (boV (true)),.bool true]) (fun W hk=>⟨by simp [twoV,twR,hc],hk.below⟩)
  ·
   refine gS 49 (x := .bool (intEq x 1)) (.bool false) (by rw [hc]) ?_
   refine rk ?_
   refine gX [.bool (intEq y 1)] (boVal (intEq y 1)) (fun W hk=>dbool_any _ W) ?_
   refine rk ?_
   exact gR (.tuple #[vlV (boV (intEq y 1)),.bool true]) (fun W hk=>⟨by simp [twoV,twR,hc],hk.below⟩)
 ·
  refine rs [59] 120 20 ?_
  rcases Bool.eq_false_or_eq_true (intEq x 1) with hc | hc
  ·
   refine gS 58 (x := .bool (intEq x 1)) (.bool true) (by rw [hc]) ?_
   refine rk ?_
   refine gX [.bool (intEq y 1)] (boVal (intEq y 1)) (fun W hk=>dbool_any _ W) ?_
   refine rk ?_
   exact gR (.tuple #[vlV (boV (intEq y 1)),.bool true]) (fun W hk=>⟨by simp [twoV,twR,hc],hk.below⟩)
  ·
   refine gS 58 (x := .bool (intEq x 1)) (.bool false) (by rw [hc]) ?_
   refine rk ?_
   refine gX [.bool (false)] (boVal (false)) (fun W hk=>dbool_any _ W) ?_
   refine rk ?_
   exact gR (.tuple #[vlV (boV (false)),.bool true]) (fun W hk=>⟨by simp [twoV,twR,hc],hk.below⟩)
 ·
  refine rs [] 120 20 ?_
  refine gX [.bool (S)] (boVal (S)) (fun W hk=>dbool_any _ W) ?_
  refine rk ?_
  exact gR (.tuple #[vlV (boV (S)),.bool true]) (fun W hk=>⟨by simp [twoV,twR,hS,hL,hM],hk.below⟩)
 ·
  refine rs [] 120 20 ?_
  refine gX [.bool (!S)] (boVal (!S)) (fun W hk=>dbool_any _ W) ?_
  refine rk ?_
  exact gR (.tuple #[vlV (boV (!S)),.bool true]) (fun W hk=>⟨by simp [twoV,twR,hS,hL,hM],hk.below⟩)
 ·
  refine rs [] 120 20 ?_
  refine gX [.bool (L)] (boVal (L)) (fun W hk=>dbool_any _ W) ?_
  refine rk ?_
  exact gR (.tuple #[vlV (boV (L)),.bool true]) (fun W hk=>⟨by simp [twoV,twR,hS,hL,hM],hk.below⟩)
 ·
  refine rs [80] 120 20 ?_
  rcases Bool.eq_false_or_eq_true L with hc | hc
  ·
   refine gS 79 (x := .bool L) (.bool true) (by rw [hc]) ?_
   refine rk ?_
   refine gX [.bool (true)] (boVal (true)) (fun W hk=>dbool_any _ W) ?_
   refine rk ?_
   exact gR (.tuple #[vlV (boV (true)),.bool true]) (fun W hk=>⟨by rw [hL] at hc;simp [twoV,twR,hc],hk.below⟩)
  ·
   refine gS 79 (x := .bool L) (.bool false) (by rw [hc]) ?_
   refine rk ?_
   refine gX [.bool (S)] (boVal (S)) (fun W hk=>dbool_any _ W) ?_
   refine rk ?_
   exact gR (.tuple #[vlV (boV (S)),.bool true]) (fun W hk=>⟨by rw [hL] at hc;simp [twoV,twR,hc,hS],hk.below⟩)
 ·
  refine rs [] 120 20 ?_
  refine gX [.bool (M)] (boVal (M)) (fun W hk=>dbool_any _ W) ?_
  refine rk ?_
  exact gR (.tuple #[vlV (boV (M)),.bool true]) (fun W hk=>⟨by simp [twoV,twR,hS,hL,hM],hk.below⟩)
 ·
  refine rs [91] 120 20 ?_
  rcases Bool.eq_false_or_eq_true M with hc | hc
  ·
   refine gS 90 (x := .bool M) (.bool true) (by rw [hc]) ?_
   refine rk ?_
   refine gX [.bool (true)] (boVal (true)) (fun W hk=>dbool_any _ W) ?_
   refine rk ?_
   exact gR (.tuple #[vlV (boV (true)),.bool true]) (fun W hk=>⟨by rw [hM] at hc;simp [twoV,twR,hc],hk.below⟩)
  ·
   refine gS 90 (x := .bool M) (.bool false) (by rw [hc]) ?_
   refine rk ?_
   refine gX [.bool (S)] (boVal (S)) (fun W hk=>dbool_any _ W) ?_
   refine rk ?_
   exact gR (.tuple #[vlV (boV (S)),.bool true]) (fun W hk=>⟨by rw [hM] at hc;simp [twoV,twR,hc,hS],hk.below⟩)
 ·
  refine rk ?_
  refine kw op 3 (by omega) ?_
  refine rk ?_
  refine kw op 4 (by omega) ?_
  refine rk ?_
  refine kw op 5 (by omega) ?_
  refine rk ?_
  refine kw op 6 (by omega) ?_
  refine rk ?_
  refine kw op 7 (by omega) ?_
  refine rk ?_
  refine kw op 8 (by omega) ?_
  refine rk ?_
  refine kw op 9 (by omega) ?_
  refine rk ?_
  refine kw op 10 (by omega) ?_
  refine rk ?_
  have h2:twoV op (ta,x) (tb,y)=if ta=3 then some (3,(arN (opR op) x.toNat y.toNat:Int)) else (whV op (toI x) (toI y)).map fun n=>(1,toU n):=by unfold twoV;rw [if_neg (show ¬ op=3 by omega),if_neg (show ¬ op=4 by omega),if_neg (show ¬ op=5 by omega),if_neg (show ¬ op=6 by omega),if_neg (show ¬ op=7 by omega),if_neg (show ¬ op=8 by omega),if_neg (show ¬ op=9 by omega),if_neg (show ¬ op=10 by omega)]
  rw [h2]
  by_cases h3:ta=3
  ·
   refine kz ta 3 h3 ?_
   refine rk ?_
   refine gX [n8 op,n6 x,n6 y] (n6 (arN (opR op) x.toNat y.toNat:Int)) (fun W hk=>dreal_any op x y (by omega) W) ?_
   refine rk ?_
   exact gR (.tuple #[vlV ((3,(arN (opR op) x.toNat y.toNat:Int))),.bool true]) (fun W hk=>⟨by simp [twR,h3],hk.below⟩)
  ·
   refine kw ta 3 h3 ?_
   refine rk ?_
   have hw:=fun (W:World)=>dwhole_any op (toI x) (toI y) (by omega) W
   cases hwv:whV op (toI x) (toI y) with
   | none=>
     rw [hwv] at hw
     refine gX [n8 op,nI (toI x),nI (toI y)] (.tuple #[nI 0,.bool false]) (fun W hk=>hw W) ?_
     refine rk ?_
     exact gR (.tuple #[vlV ((1,toU 0)),.bool false]) (fun W hk=>⟨by rw [if_neg h3];rfl,hk.below⟩)
   | some n=>
     rw [hwv] at hw
     refine gX [n8 op,nI (toI x),nI (toI y)] (.tuple #[nI n,.bool true]) (fun W hk=>hw W) ?_
     refine rk ?_
     exact gR (.tuple #[vlV ((1,toU n)),.bool true]) (fun W hk=>⟨by rw [if_neg h3];rfl,hk.below⟩)
theorem dtwo_any (op ta x tb y:Int) (hop:3≤op∧op≤15) (w:World):CB 48 #[n8 op,.agg #[n8 ta,n6 x],.agg #[n8 tb,n6 y]] w (twR (1,0) (twoV op (ta,x) (tb,y))):=by
 refine eN [n8 op,.agg #[n8 ta,n6 x],.agg #[n8 tb,n6 y]] Tryz.func48 (fun γ0 hγ0=>?_)
 have hγ0:∀ b,gz≤b→γ0 b=none:=hγ0
 refine rk ?_
 by_cases h3:ta=3
 ·
  refine kz ta 3 h3 ?_
  refine rk ?_
  refine gP [n6 x,n6 y] (.bool (ordB x y .eq)) (fun W hk=>qequal_any x y W) ?_
  refine rk ?_
  refine gP [n6 x,n6 y] (.bool (ordB x y .lt)) (fun W hk=>qless_any x y W) ?_
  refine rk ?_
  refine gP [n6 y,n6 x] (.bool (ordB y x .lt)) (fun W hk=>qless_any y x W) ?_
  refine rs [] 2 0 ?_
  refine gU [.code (seqR (seqR (seqR (seqR (seqR (seqR (Tryz.f48.body.getD .skip)))))))] [(0,v8 op),(4,.ptr gz 0),(6,.ptr (gz+2) 0),(7,vB false),(8,v6 x),(9,v6 y),(10,vB (ordB x y .eq)),(11,vB (ordB x y .lt)),(12,vB (ordB y x .lt))] [(gz,bK 26 2 [v8 ta,v6 x]),(gz+2,bK 26 2 [v8 0,v6 0])] (gz+3) (fun b hb=>hγ0 b (by omega)) (dtwo_tail op ta x tb y _ _ _ ?_ ?_ ?_ w γ0 hγ0 hop)
  all_goals simp [sameV,lessV,ordB,h3]
 ·
  refine kw ta 3 h3 ?_
  refine rs [] 1 0 ?_
  refine gU [.code (seqR (seqR (seqR (seqR (seqR (seqR (Tryz.f48.body.getD .skip)))))))] [(0,v8 op),(4,.ptr gz 0),(6,.ptr (gz+2) 0),(7,vB false),(8,v6 x),(9,v6 y),(10,vB (intEq x y)),(11,vB (intLt (toI x) (toI y))),(12,vB (intLt (toI y) (toI x)))] [(gz,bK 26 2 [v8 ta,v6 x]),(gz+2,bK 26 2 [v8 0,v6 0])] (gz+3) (fun b hb=>hγ0 b (by omega)) (dtwo_tail op ta x tb y _ _ _ ?_ ?_ ?_ w γ0 hγ0 hop)
  all_goals simp [sameV,lessV,ordB,h3]
end
section
set_option maxRecDepth 100000
theorem atN_app {s:List UInt8}:∀ {l1 l2:List (List UInt8)},atN s l1=none→atN s (l1++l2)=(atN s l2).map (·+l1.length)
 | [],l2,_=>by rw [List.nil_append];cases atN s l2 <;> simp
 | x::l1,l2,h=>by
   unfold atN at h
   split at h
   · cases h
   rename_i hx
   rw [Option.map_eq_none_iff] at h
   rw [List.cons_append]
   show (if x=s then some 0 else (atN s (l1++l2)).map (·+1))=_
   rw [if_neg hx,atN_app h]
   cases atN s l2 <;> simp [Nat.add_assoc]
def atI (s:List UInt8) (l:List (List UInt8)):Int:=match atN s l with
 | none => -1
 | some i=>(i:Int)
theorem strsV_at {l1 l3:List (List UInt8)} {x:List UInt8}:(strsV (l1++x::l3))[l1.length*1+0]?=some (.string (str x)):=by
 rw [strsV_app,List.getElem?_append_right (by rw [strsV_len];omega),strsV_len]
 simp [strsV]
open Go.Sy
theorem at_any (ns:List (List UInt8)) (name:List UInt8) (a:Option Addr) (n cap:Nat) (w:World) (hn:n=ns.length) (hbd:n≤1099511627776) (hsl:SlAt (·<w.heap.size) w a n 1 (strsV ns)):
  CB 19 #[.slice a n cap,nT name] w (nI (atI name ns)):=by
 refine eN [.slice a n cap,nT name] Tryz.func19 (fun γ0 hγ0=>?_)
 refine rk ?_
 refine good_toLp ?_
 refine good_loopI (fun i:List (List UInt8)×List (List UInt8)=>i.2.length) (fun i=>ns=i.1++i.2∧atN name i.1=none) (fun i=>⟨mkT [(1,vT name),(7,vL a n cap),(8,vI (n:Int)),(9,vI (i.1.length:Int))],mkH [],gz,[]⟩)
  ([],ns) ⟨rfl,rfl⟩ (by kernel_rfl)
  (fun h=>gU _ [(1,vT name),(7,vL a n cap),(8,vI (n:Int)),(9,vI (([]:List (List UInt8)).length:Int))] [] gz (fun b hb=>hγ0 b hb) h) ?_
 rintro ⟨l1,l2⟩ ⟨hI,hN⟩ ih
 simp only at hI hN
 have hq:n=l1.length+l2.length:=by rw [hn,hI,List.length_append]
 refine rk ?_
 cases l2 with
 | nil=>
   refine ky (l1.length:Int) (n:Int) (by rw [hq];simp) ?_
   refine rk ?_
   exact gR (nI (-1)) (fun W hk=>⟨by rw [hI,List.append_nil];unfold atI;rw [hN],hk.below⟩)
 | cons x l3=>
   have hin:l1.length<n:=by rw [hq,List.length_cons];omega
   rw [hI] at hsl
   refine kx (l1.length:Int) (n:Int) (by omega) ?_
   refine rk ?_
   refine gI 30 9 cap l1.length hsl hin ?_
   refine rk ?_
   refine gL 9 (nT x) l1.length 0 hsl strsV_at ?_
   refine rk ?_
   refine good_cond (b:=bEqL x name) (by kernel_rfl) (fun hss=>?_) (fun hss=>?_)
   ·
    have hx:x=name:=by rw [bEqL_eq] at hss;simpa using hss
    refine rk ?_
    exact gR (nI (l1.length:Int)) (fun W hk=>⟨by rw [hI];unfold atI;rw [atN_app hN];unfold atN;rw [if_pos hx];simp,hk.below⟩)
   ·
    have hx:¬ x=name:=by rw [bEqL_eq] at hss;simpa using hss
    refine rk ?_
    refine gJ 9 l1 x (by omega) ?_
    exact gU _ [(1,vT name),(7,vL a n cap),(8,vI (n:Int)),(9,vI ((l1++[x]).length:Int))] [] gz (fun b hb=>hγ0 b hb) (ih (l1++[x],l3) ⟨(by show ns=(l1++[_])++l3;rw [hI];simp),(by show atN name (l1++[x])=none;rw [atN_app hN];unfold atN;rw [if_neg hx];rfl)⟩ lS1)
def LkAt (F:Nat→Prop) (w:World) (kv kn:Nat) (ns:List (List UInt8)) (vs:List Vl):Prop:=
 ∃ (na va:Option Addr) (n nc vc:Nat) (xs:List Value),w.heap[kv]?=some (.cells #[.slice va n vc] 31 (0,0))∧w.heap[kn]?=some (.cells #[.slice na n nc] 30 (0,0))∧F kv∧F kn∧
   n=ns.length∧n=vs.length∧n≤1000000∧Sy.SlAt F w na n 1 (strsV ns)∧Sy.SlAt F w va n 2 xs∧LsAt VlAt vs xs
theorem LkAt.keep {F F':Nat→Prop} {w w':World} {kv kn:Nat} {ns:List (List UInt8)} {vs:List Vl} (h:LkAt F w kv kn ns vs) (hk:Sy.Keep F w w') (hF:∀ k,F k→F' k):LkAt F' w' kv kn ns vs:=by
 obtain ⟨na,va,n,nc,vc,xs,h1,h2,h3,h4,h5,h6,h7,h8,h9,h10⟩:=h
 exact ⟨na,va,n,nc,vc,xs,(hk.block _ h3).trans h1,(hk.block _ h4).trans h2,hF _ h3,hF _ h4,h5,h6,h7,(h8.keep hk).mono hF,(h9.keep hk).mono hF,h10⟩
theorem lsVl_at:∀ {vs:List Vl} {xs:List Value},LsAt VlAt vs xs→∀ {i:Nat},i<vs.length→xs[i*2+0]?=some (.int .u8 (vs.getD i (0,0)).1)∧xs[i*2+1]?=some (.int .u64 (vs.getD i (0,0)).2)
 | [],xs,_,i,h=>by simp at h
 | v::vs,xs,⟨c,r,hx,hc,hr⟩,i,h=>by
   have hc:c=_:=hc
   subst hc hx
   cases i with
   | zero=>exact ⟨rfl,rfl⟩
   | succ i=>
     obtain ⟨h1,h2⟩:=lsVl_at hr (i:=i) (by simpa using h)
     rw [show (i+1)*2+0=(i*2+0)+2 by omega,show (i+1)*2+1=(i*2+1)+2 by omega]
     exact ⟨h1,h2⟩
theorem look_any (F:Nat→Prop) (ns:List (List UInt8)) (vs:List Vl) (name:List UInt8) (kv kn i:Nat) (w:World) (hF:∀ k,F k→k<w.heap.size) (h:LkAt F w kv kn ns vs) (hat:atN name ns=some i):
  CB 18 #[nT name,nP kv,nP kn] w (.agg #[n8 (lkV ns vs name).1,n6 (lkV ns vs name).2]):=by
 obtain ⟨na,va,n,nc,vc,xs,h1,h2,h3,h4,h5,h6,h7,h8,h9,h10⟩:=h
 have hv:=rdBox (vals:=[.slice va n vc]) h1 h3 rfl
 have hnm:=rdBox (vals:=[.slice na n nc]) h2 h4 rfl
 have h9B:=h9.mono hF
 have hi:i<n:=by have:=atN_lt hat;omega
 have hiv:i<vs.length:=by omega
 obtain ⟨g1,g2⟩:=lsVl_at h10 hiv
 have hl:lkV ns vs name=vs.getD i (0,0):=by unfold lkV;rw [hat]
 rw [hl]
 generalize vs.getD i (0,0)=v at g1 g2 ⊢
 obtain ⟨ty,bits⟩:=v
 dsimp only at g1 g2 ⊢
 refine eN [nT name,nP kv,nP kn] Tryz.func18 (fun γ0 hγ0=>?_)
 refine rk ?_
 refine good_drawL sy_mixed (by kernel_rfl) ?_
 refine q_run [] 60 ?_
 refine qV (.slice va n vc) (S:=Instr.loadAt 31 (nP kv)) (fun W hk=>ldB hv (by kernel_rfl) 0 rfl (hk.mono hF)) ?_
 refine q_run [] 60 ?_
 refine qV (.slice na n nc) (S:=Instr.loadAt 30 (nP kn)) (fun W hk=>ldB hnm (by kernel_rfl) 0 rfl (hk.mono hF)) ?_
 refine q_run [] 60 ?_
 refine qB [.slice na n nc,nT name] (nI (i:Int)) (fun W hk=>(at_any ns name na n nc W h5 (by omega) ((h8.keep (hk.mono hF)).mono fun k h=>Nat.lt_of_lt_of_le (hF k h) hk.size)).mono fun e w' ⟨e1,e2⟩=>⟨by rw [e1];unfold atI;rw [hat],e2⟩) ?_
 refine q_run [] 60 ?_
 refine qI 31 26 vc i h9B hi ?_
 refine q_run [] 60 ?_
 refine qD 26 2 [n8 ty,n6 bits] i 0 h9B rfl (fun j v hv=>by rcases j with _ | _ | j <;> simp at hv <;> subst hv <;> assumption) ?_
 refine q_run [] 60 ?_
 refine qE ?_
 refine rk ?_
 exact gR (.agg #[n8 ty,n6 bits]) (fun W hk=>⟨rfl,hk.below⟩)
end
section
def NvAt (w:World) (na va:Option Addr) (k:Nat) (ns:List (List UInt8)) (vs:List Vl):Prop:=
 k=ns.length∧k=vs.length∧k≤1000000∧Sy.SlAt (·<w.heap.size) w na k 1 (strsV ns)∧∃ vx,Sy.SlAt (·<w.heap.size) w va k 2 vx∧LsAt VlAt vs vx
theorem NvAt.keep {w w':World} {na va:Option Addr} {k:Nat} {ns:List (List UInt8)} {vs:List Vl} (h:NvAt w na va k ns vs) (hk:Sy.Keep (·<w.heap.size) w w'):NvAt w' na va k ns vs:=by
 obtain ⟨h1,h2,h3,h4,vx,h5,h6⟩:=h
 have up:∀ j,j<w.heap.size→j<w'.heap.size:=fun j h=>Nat.lt_of_lt_of_le h hk.size
 exact ⟨h1,h2,h3,(h4.keep hk).mono up,vx,(h5.keep hk).mono up,h6⟩
def PlP (o:Option Ex) (w w':World) (v:Value):Prop:=
 ∃ (o1 o2 o3:Int) (nm:List UInt8) (s:Option Addr) (n' c':Nat),v = .tuple #[.agg #[.int .u8 o1,.int .u8 o2,.int .u64 o3,.string (str nm),.slice s n' c'],.bool o.isSome]∧
   ∀ x,o=some x→ExAt (NewIn w w') w' x [.int .u8 o1,.int .u8 o2,.int .u64 o3,.string (str nm),.slice s n' c']
theorem ngts_app {ns:List (List UInt8)} {vs:List Vl}:∀ {l1:List Ex} {ys:List Ex} {l2:List Ex},ngts ns vs l1=some ys→ngts ns vs (l1++l2)=(ngts ns vs l2).map (ys++·)
 | [],ys,l2,h=>by
   simp only [ngts,Option.some.injEq] at h
   subst h
   rw [List.nil_append]
   cases ngts ns vs l2 <;> simp
 | e::l1,ys,l2,h=>by
   simp only [ngts] at h
   rw [List.cons_append]
   simp only [ngts]
   cases hx:ngt ns vs e with
   | none=>rw [hx] at h;simp at h
   | some x=>
     rw [hx] at h
     simp only [Option.map_eq_some_iff] at h
     obtain ⟨zs,hz,rfl⟩:=h
     simp only [ngts_app hz]
     cases ngts ns vs l2 <;> simp
theorem ngts_len {ns:List (List UInt8)} {vs:List Vl}:∀ {l ys:List Ex},ngts ns vs l=some ys→ys.length=l.length
 | [],ys,h=>by simp only [ngts,Option.some.injEq] at h;subst h;rfl
 | e::l,ys,h=>by
   simp only [ngts] at h
   cases hx:ngt ns vs e with
   | none=>rw [hx] at h;simp at h
   | some x=>
     rw [hx] at h
     simp only [Option.map_eq_some_iff] at h
     obtain ⟨zs,hz,rfl⟩:=h
     simp [ngts_len hz]
theorem ngt_none {ns:List (List UInt8)} {vs:List Vl} {op ty bits:Int} {name:List UInt8} {kids:List Ex} (h:op=2) (hat:atN name ns=none):ngt ns vs (.mk op ty bits name kids)=none:=by rw [ngt,if_pos h,hat]
theorem ngt_some {ns:List (List UInt8)} {vs:List Vl} {op ty bits:Int} {name:List UInt8} {kids:List Ex} {i:Nat} (h:op=2) (hat:atN name ns=some i):ngt ns vs (.mk op ty bits name kids)=some (.mk 1 (vs.getD i (0,0)).1 0 [] []):=by rw [ngt,if_pos h,hat]
structure PlI where
 l1:List Ex
 l2:List Ex
 ys:List Ex
 xs:List Value
 X:Sy.AV
 ob:Option Sy.Blk
open Go.Sy in
set_option maxRecDepth 100000 in
theorem placed_any (ns:List (List UInt8)) (vs:List Vl) (na va:Option Addr) (k nc vc:Nat):∀ (N:Nat) (e:Ex) (cs:List Value) (w:World),wgt e≤N→wgt e≤1000000000000→ExAt (·<w.heap.size) w e cs→NvAt w na va k ns vs→
  Calls Tryz.prog 15 #[.agg cs.toArray,.slice na k nc,.slice va k vc] w fun r w'=>∃ v,r = .returned v∧PlP (ngt ns vs e) w w' v∧Below w.heap.size w w':=by
 intro N
 induction N with
 | zero=>intro e cs w h;have:=wgt_pos e;omega
 | succ N ihN=>
   intro e cs w hN hbd he hnv
   obtain ⟨op,ty,bits,name,kids⟩:=e
   simp only [ExAt] at he
   obtain ⟨a,cap,xs,rfl,hsl,hks⟩:=he
   obtain ⟨n,hn⟩:∃ n,n=kids.length:=⟨_,rfl⟩
   rw [← hn] at hsl ⊢
   simp only [wgt] at hN hbd
   have hkl:=wgts_len kids
   refine eN [xV op ty bits name a n cap,.slice na k nc,.slice va k vc] Tryz.func15 (fun γ0 hγ0=>?_)
   have hγ0:∀ b,gz≤b→γ0 b=none:=hγ0
   refine rk ?_
   by_cases ho:op=2
   ·
    refine kz op 2 ho ?_
    refine rk ?_
    obtain ⟨hk1,hk2,hk3,hsn,vx,hsv,hlv⟩:=hnv
    have hcl:=fun (W:World) (hk:Keep (·<w.heap.size) w W)=>at_any ns name na k nc W hk1 (by omega) ((hsn.keep hk).mono (kU hk))
    unfold atI at hcl
    cases hat:atN name ns with
    | none=>
      rw [hat] at hcl
      rw [ngt_none ho hat]
      refine gX [.slice na k nc,nT name] (nI (-1)) (fun W hk=>hcl W hk) ?_
      refine rs [] 60 2 ?_
      exact gR (.tuple #[xV op ty bits name a n cap,.bool false]) (fun W hk=>⟨_,rfl,⟨op,ty,bits,name,a,n,cap,rfl,fun x h=>by cases h⟩,hk.below⟩)
    | some i=>
      rw [hat] at hcl
      rw [ngt_some ho hat]
      have hin:i<k:=by have:=atN_lt hat;omega
      obtain ⟨g1,_⟩:=lsVl_at hlv (i:=i) (by omega)
      refine gX [.slice na k nc,nT name] (nI (i:Int)) (fun W hk=>hcl W hk) ?_
      refine rk ?_
      refine ky (i:Int) 0 (by omega) ?_
      refine rk ?_
      refine gI 31 26 vc i hsv hin ?_
      refine rk ?_
      refine gL 23 (n8 (vs.getD i (0,0)).1) i 0 hsv g1 ?_
      refine rk ?_
      exact gR (.tuple #[xV 1 (vs.getD i (0,0)).1 0 [] none 0 0,.bool true]) (fun W hk=>⟨_,rfl,⟨1,(vs.getD i (0,0)).1,0,[],none,0,0,rfl,fun x h=>by
       cases h
       simp only [ExAt]
       exact ⟨none,0,[],rfl,⟨rfl,.inl rfl⟩,by simp only [ExsAt]⟩⟩,hk.below⟩)
   refine kw op 2 ho ?_
   refine rk ?_
   refine good_toLp ?_
   have hng:ngt ns vs (.mk op ty bits name kids)=(ngts ns vs kids).map fun ks => .mk op ty bits name ks:=by rw [ngt,if_neg ho]
   refine good_loopB (fun i:PlI=>i.l2.length) (fun i B w1=>kids=i.l1++i.l2∧ngts ns vs i.l1=some i.ys∧ExsAt (fun j=>B j∧w.heap.size≤j) w1 i.ys i.xs∧RowAt 29 5 (gz+2) i.l1.length i.xs i.X i.ob∧WkI w B w1) (fun i=>⟨mkT [(1,vL na k nc),(2,vL va k vc),(3,.ptr gz 0),(6,.ptr (gz+1) 0),(9,i.X),(32,vL a n cap),(33,vI (n:Int)),(34,vI (i.l1.length:Int))],mkH [(gz,bK 29 5 (xA op ty bits name a n cap)),(gz+1,bK 29 5 (xA 0 0 0 [] none 0 0)),((gz+2),i.ob)],gz+3,[]⟩)
    ⟨[],kids,[],[],vL none 0 0,none⟩ ⟨rfl,rfl,by simp only [ExsAt],RowAt.nil _ _ _,.refl w⟩ (by kernel_rfl)
    (fun h=>good_sub _ [(1,vL na k nc),(2,vL va k vc),(3,.ptr gz 0),(6,.ptr (gz+1) 0),(9,vL none 0 0),(32,vL a n cap),(33,vI (n:Int)),(34,vI (([]:List Ex).length:Int))] [(gz,bK 29 5 (xA op ty bits name a n cap)),(gz+1,bK 29 5 (xA 0 0 0 [] none 0 0)),((gz+2),none)] (gz+3) rfl (by kernel_rfl) (by kernel_rfl) (allLtT_cons (by kernel_rfl) (allLtT_cons (by kernel_rfl) (allLtT_cons (by kernel_rfl) (allLtT_cons (by kernel_rfl) (allLtT_cons (by kernel_rfl) (allLtT_cons (by kernel_rfl) (allLtT_cons (by kernel_rfl) (allLtT_cons (by kernel_rfl) rfl)))))))) (by kernel_rfl) (allLtH_cons (by kernel_rfl) (by kernel_rfl) (allLtH_cons (by kernel_rfl) (by kernel_rfl) (allLtH_cons (by kernel_rfl) (by kernel_rfl) rfl))) (fun b hb=>hγ0 b (by omega)) (by kernel_rfl) h) ?_
   rintro ⟨l1,l2,ys,xk,X,ob⟩ B5 w5 ⟨hsp,hys,hxk,hrow,hN0⟩ ih
   simp only at hsp hys hxk hrow
   have hN:WkI w B5 w5:=hN0
   clear hN0
   have hn2:n=l1.length+l2.length:=by rw [hn,hsp,List.length_append]
   have hw1:wgts kids=wgts l1+wgts l2:=by rw [hsp,wgts_app]
   refine rk ?_
   cases l2 with
   | nil=>
     have hn3:n=l1.length:=by rw [hn2];simp
     have hl1:l1=kids:=by rw [hsp];simp
     rw [hl1] at hys
     refine ky (l1.length:Int) (n:Int) (by omega) ?_
     have hngs:ngt ns vs (.mk op ty bits name kids)=some (.mk op ty bits name ys):=by rw [hng,hys];rfl
     rw [hngs]
     have hyl:=ngts_len hys
     rcases hrow.2 with ⟨hX,hob,h0⟩ | ⟨hX,hob⟩
     ·
      subst hX hob
      refine rk ?_
      obtain rfl:ys=[]:=List.eq_nil_of_length_eq_zero (by omega)
      exact gR (.tuple #[xV op ty bits name none 0 0,.bool true]) (fun W hk=>⟨_,rfl,⟨op,ty,bits,name,none,0,0,rfl,fun x h=>by
       cases h
       simp only [ExAt]
       exact ⟨none,0,[],rfl,⟨rfl,.inl rfl⟩,by simp only [ExsAt]⟩⟩,(hN.to hk).below⟩)
     ·
      subst hX hob
      refine good_giveRN 9 (gz+2) 29 5 l1.length xk (by kernel_rfl) (by kernel_rfl) hrow.1 (fun kk cap1 w6 B6 hk56 hB56 hB6 hkk hs6=>?_)
      refine rk ?_
      exact gR (.tuple #[xV op ty bits name (some ⟨kk,0,none⟩) l1.length cap1,.bool true]) (fun W hk=>⟨_,rfl,⟨op,ty,bits,name,some ⟨kk,0,none⟩,l1.length,cap1,rfl,fun x h=>by
       cases h
       simp only [ExAt]
       rw [show l1.length=ys.length by omega] at hs6 ⊢
       have hsW:=hs6.keep hk
       refine ⟨_,cap1,xk,rfl,⟨hsW.len,hsW.place.imp (fun h=>h) fun ⟨h1,h2,h3⟩=>⟨h1,⟨Nat.le_of_not_lt fun h=>hkk (hN.old _ h),Nat.lt_of_lt_of_le (hB6 _ h2) hk.size⟩,h3⟩⟩,hxk.keep ((hk56.trans (hk.mono hB56)).mono fun j h=>h.1) fun j h=>⟨h.2,Nat.lt_of_lt_of_le (hB6 j (hB56 j h.1)) hk.size⟩⟩⟩,(hN.to (hk56.trans (hk.mono hB56))).below⟩)
   | cons s l3=>
     have hin:l1.length<n:=by rw [hn2,List.length_cons];omega
     have hks2:=hks
     rw [hsp] at hks2
     obtain ⟨c,hc,hcell⟩:=hks2.at_
     have hsl0:=(hsl.keep hN.keep).mono hN.old
     simp only [wgts] at hw1
     have hwl:=wgts_len l1
     have hwp:=wgt_pos s
     have hc0:=hc
     obtain ⟨op2,ty2,bits2,name2,kids2⟩:=s
     simp only [ExAt] at hc
     obtain ⟨a2,cap2,xs2,rfl,_⟩:=hc
     refine kx (l1.length:Int) (n:Int) (by omega) ?_
     refine rk ?_
     refine gI 27 29 cap l1.length hsl0 hin ?_
     refine rk ?_
     refine gD 29 5 (xL op2 ty2 bits2 name2 a2 kids2.length cap2) l1.length 0 hsl0 rfl hcell ?_
     refine rk ?_
     refine good_callM (sy_cx _ _) [xV op2 ty2 bits2 name2 a2 kids2.length cap2,.slice na k nc,.slice va k vc] (by kernel_rfl) (by kernel_rfl) (by kernel_rfl) (Pr:=fun W v W'=>PlP (ngt ns vs (Ex.mk op2 ty2 bits2 name2 kids2)) W W' v) (fun W hk=>ihN (Ex.mk op2 ty2 bits2 name2 kids2) (xL op2 ty2 bits2 name2 a2 kids2.length cap2) W (by omega) (by omega) (hc0.keep (hN.to hk) (hN.up hk)) (hnv.keep (hN.to hk))) ?_
     cases hx:ngt ns vs (Ex.mk op2 ty2 bits2 name2 kids2) with
     | none=>
       rintro V r V' B6 hkV ⟨o1,o2,o3,nm,s6,n6,c6,rfl,-⟩ hbl6 hk56 hB56 hBn6 hB6
       have hN6:=hN.step hk56 hB56 hB6
       refine rs [] 60 2 ?_
       have hngs:ngt ns vs (.mk op ty bits name kids)=none:=by rw [hng,hsp,ngts_app hys];simp only [ngts];rw [hx];rfl
       rw [hngs]
       exact gR (.tuple #[xV op ty bits name a n cap,.bool false]) (fun W hk=>⟨_,rfl,⟨op,ty,bits,name,a,n,cap,rfl,fun x h=>by cases h⟩,(hN6.to hk).below⟩)
     | some z=>
       rintro V r V' B6 hkV ⟨o1,o2,o3,nm,s6,n6,c6,rfl,hz⟩ hbl6 hk56 hB56 hBn6 hB6
       have hN6:=hN.step hk56 hB56 hB6
       have hz6:=hz z rfl
       refine rs [51] 60 2 ?_
       refine good_app (t:=27) (e:=29) (.slg (gz+5) 0 1 5) 5 64 (gz+2) l1.length 0 xk X ob (xL o1 o2 o3 nm s6 n6 c6) [9,48] (by kernel_rfl) (by kernel_rfl) (by kernel_rfl) (by kernel_rfl) hrow (by kernel_rfl) (by kernel_rfl) (by kernel_rfl)
        (by unfold maxLen;omega) (by omega) (hγ0 _ (by omega)) (by kernel_rfl) (by kernel_rfl) (by kernel_rfl) (by kernel_rfl) (by kernel_rfl) (fun X2 ob2 hrow2=>?_)
       refine rk ?_
       refine gJ 34 l1 (Ex.mk op2 ty2 bits2 name2 kids2) (by omega) ?_
       have hr2:RowAt 29 5 (gz+2) (l1++[(Ex.mk op2 ty2 bits2 name2 kids2)]).length (xk++(xL o1 o2 o3 nm s6 n6 c6)) X2 ob2:=by rw [List.length_append];exact hrow2
       exact good_sub _ [(1,vL na k nc),(2,vL va k vc),(3,.ptr gz 0),(6,.ptr (gz+1) 0),(9,X2),(32,vL a n cap),(33,vI (n:Int)),(34,vI ((l1++[(Ex.mk op2 ty2 bits2 name2 kids2)]).length:Int))] [(gz,bK 29 5 (xA op ty bits name a n cap)),(gz+1,bK 29 5 (xA 0 0 0 [] none 0 0)),((gz+2),ob2)] (gz+3) (by kernel_rfl) (by kernel_rfl) (by kernel_rfl) (allLtT_cons (by kernel_rfl) (allLtT_cons (by kernel_rfl) (allLtT_cons (by kernel_rfl) (allLtT_cons (by kernel_rfl) (allLtT_cons (hr2.lt (by omega)) (allLtT_cons (by kernel_rfl) (allLtT_cons (by kernel_rfl) (allLtT_cons (by kernel_rfl) rfl)))))))) (by kernel_rfl) (allLtH_cons (by kernel_rfl) (by kernel_rfl) (allLtH_cons (by kernel_rfl) (by kernel_rfl) (allLtH_row (by kernel_rfl) hr2 rfl))) (fun b hb=>hγ0 b (by omega)) (by kernel_rfl) (ih ⟨l1++[(Ex.mk op2 ty2 bits2 name2 kids2)],l3,ys++[z],_,X2,ob2⟩ B6 V' ⟨by show kids=(l1++[_])++l3;rw [hsp];simp,by show ngts ns vs (l1++[_])=_;rw [ngts_app hys];simp only [ngts];rw [hx];rfl,by show ExsAt _ V' (ys++[z]) _;exact (hxk.keep (hk56.mono fun j h=>h.1) (fun j h=>⟨hB56 j h.1,h.2⟩)).snoc (hz6.keep (Keep.refl _ _) fun j h=>⟨hBn6 j h.1 h.2,Nat.le_trans (hN.to hkV).size h.1⟩),hr2,hN6⟩ lS1)
end
section
theorem tyK1 {op a:Int} (h:tyK op [a]≠0):a≠0∧tyK op [a]=resT op a 0:=by
 simp only [tyK] at h ⊢
 by_cases c:a=0
 · rw [if_pos c] at h;exact absurd rfl h
 · rw [if_neg c];exact ⟨c,rfl⟩
theorem tyK2 {op a b:Int} (h:tyK op [a,b]≠0):a≠0∧b≠0∧tyK op [a,b]=resT op a b:=by
 simp only [tyK] at h ⊢
 by_cases c:a=0
 · rw [if_pos c] at h;exact absurd rfl h
 rw [if_neg c] at h ⊢
 by_cases d:b=0
 · rw [if_pos d] at h;exact absurd rfl h
 rw [if_neg d]
 exact ⟨c,d,rfl⟩
theorem exR_lit {op ty bits:Int} {name:List UInt8} {kids:List Ex} (h:exR (.mk op ty bits name kids)):(0≤bits∧bits<18446744073709551616)∧exRs kids:=by
 simp only [exR] at h
 exact ⟨h.2.2.1,h.2.2.2⟩
theorem nm_name {op ty bits:Int} {name:List UInt8} {kids:List Ex} (h:op=2):name∈nmE (.mk op ty bits name kids):=by
 simp [nmE,h]
theorem nm_kid {op ty bits:Int} {name:List UInt8} {kids:List Ex} {x:Ex} {s:List UInt8} (hx:x∈kids) (hs:s∈nmE x):s∈nmE (.mk op ty bits name kids):=by
 have h:∀ {l:List Ex},x∈l→s∈nmEs l:=by
  intro l
  induction l with
  | nil=>intro h;cases h
  | cons e l ih=>
    intro h
    simp only [nmEs,List.mem_append]
    rcases List.mem_cons.1 h with rfl | h
    · exact .inl hs
    · exact .inr (ih h)
 simp only [nmE,List.mem_append]
 exact .inr (h hx)
theorem ty_good (lk:List UInt8→Vl):∀ (N:Nat) (e:Ex) (t:List UInt8),wgt e≤N→exT e=some t→(∀ s∈nmE e,vlG (lk s))→tyD lk e≠0→tyG (tyD lk e)
 | 0,e,t,h,_,_,_=>by have:=wgt_pos e;omega
 | N+1,.mk op ty bits name kids,t,hN,ht,hn,h=>by
   rcases exT_inv ht with ⟨h1,h2,h3⟩ | ⟨h1,h2,h3⟩ | ⟨h1,x,tx,h2,h3,h4⟩ | ⟨h1,x,tx,h2,h3,h4⟩ | ⟨h1,x,tx,h2,h3,h4⟩ | ⟨h1,x,tx,h2,h3,h4⟩ | ⟨h1,x,y,tx,tY,h2,h3,h4,h5⟩
   · rw [tyD,if_pos h1];exact lit_G h3
   · rw [tyD,if_neg (by omega),if_pos h1];exact (hn _ (nm_name h1)).1
   all_goals
    rw [tyD_kids (by omega) (by omega)] at h ⊢
    subst h2
    simp only [tyDs] at h ⊢
   iterate 4 (· obtain ⟨_,e1⟩:=tyK1 h;rw [e1] at h ⊢;exact resT_ne (by omega) h)
   · obtain ⟨_,_,e1⟩:=tyK2 h;rw [e1] at h ⊢;exact resT_ne (by omega) h
theorem ev_good (lk:List UInt8→Vl):∀ (N:Nat) (e:Ex) (t:List UInt8),wgt e≤N→exT e=some t→exR e→(∀ s∈nmE e,vlG (lk s))→tyD lk e≠0→∀ v n,evE lk e=(some v,n)→v.1=tyD lk e∧vlG v
 | 0,e,t,h,_,_,_,_,_,_,_=>by have:=wgt_pos e;omega
 | N+1,.mk op ty bits name kids,t,hN,ht,hr,hn,h,v,n,hv=>by
   obtain ⟨hb,hrk⟩:=exR_lit hr
   have one:∀ (x:Ex) (tx:List UInt8),16≤op∧op≤19→kids=[x]→exT x=some tx→v.1=tyD lk (.mk op ty bits name kids)∧vlG v:=fun x tx ho h2 h3=>by
    subst h2
    rw [tyD_kids (by omega) (by omega)] at h ⊢
    rw [evE_kids (by omega) (by omega)] at hv
    simp only [tyDs] at h ⊢
    simp only [evEs] at hv
    obtain ⟨z1,e1⟩:=tyK1 h
    rw [e1] at h ⊢
    simp only [wgt,wgts] at hN
    simp only [exRs] at hrk
    rcases hx:evE lk x with ⟨_ | va,m⟩
    · rw [hx] at hv;simp only [evK] at hv;cases hv
    rw [hx] at hv
    simp only [evK,Prod.mk.injEq] at hv
    obtain ⟨i1,i2⟩:=ev_good lk N x tx (by omega) h3 hrk.1 (fun s hs=>hn s (nm_kid (by simp) hs)) z1 va m hx
    rw [← i1] at h ⊢
    exact one_ty ho i2 h hv.1
   rcases exT_inv ht with ⟨h1,h2,h3⟩ | ⟨h1,h2,h3⟩ | ⟨h1,x,tx,h2,h3,h4⟩ | ⟨h1,x,tx,h2,h3,h4⟩ | ⟨h1,x,tx,h2,h3,h4⟩ | ⟨h1,x,tx,h2,h3,h4⟩ | ⟨h1,x,y,tx,tY,h2,h3,h4,h5⟩
   · rw [tyD,if_pos h1]
     rw [evE,if_pos h1] at hv
     simp only [Prod.mk.injEq,Option.some.injEq] at hv
     rw [← hv.1]
     exact ⟨rfl,lit_G h3,fun _=>hb⟩
   · rw [tyD,if_neg (by omega),if_pos h1]
     rw [evE,if_neg (by omega),if_pos h1] at hv
     simp only [Prod.mk.injEq,Option.some.injEq] at hv
     rw [← hv.1]
     exact ⟨rfl,hn _ (nm_name h1)⟩
   · exact one x tx (by omega) h2 h3
   · exact one x tx (by omega) h2 h3
   · exact one x tx (by omega) h2 h3
   · exact one x tx (by omega) h2 h3
   · subst h2
     rw [tyD_kids (by omega) (by omega)] at h ⊢
     rw [evE_kids (by omega) (by omega)] at hv
     simp only [tyDs] at h ⊢
     simp only [evEs] at hv
     obtain ⟨z1,z2,e1⟩:=tyK2 h
     rw [e1] at h ⊢
     simp only [wgt,wgts] at hN
     simp only [exRs] at hrk
     rcases hx:evE lk x with ⟨_ | va,m⟩
     · rw [hx] at hv;simp only [evK] at hv;cases hv
     rcases hy:evE lk y with ⟨_ | vb,k⟩
     · rw [hx,hy] at hv;simp only [evK] at hv;cases hv
     rw [hx,hy] at hv
     simp only [evK,Prod.mk.injEq] at hv
     obtain ⟨i1,i2⟩:=ev_good lk N x tx (by omega) h3 hrk.1 (fun s hs=>hn s (nm_kid (by simp) hs)) z1 va m hx
     obtain ⟨j1,j2⟩:=ev_good lk N y tY (by omega) h4 hrk.2.1 (fun s hs=>hn s (nm_kid (by simp) hs)) z2 vb k hy
     rw [← i1,← j1] at h ⊢
     exact two_ty h1 i2 j2 h hv.1
theorem ev_n (lk:List UInt8→Vl):∀ (N:Nat) (e:Ex),wgt e≤N→(evE lk e).2≤wgt e
 | 0,e,h=>by have:=wgt_pos e;omega
 | N+1,.mk op ty bits name kids,hN=>by
   simp only [wgt] at hN ⊢
   rw [evE]
   split
   · simp
   split
   · simp
   rcases kids with _ | ⟨x,_ | ⟨y,_ | ⟨z,l⟩⟩⟩ <;> simp only [evEs]
   · simp [evK]
   · simp only [wgts] at hN ⊢
     have:=ev_n lk N x (by omega)
     rcases hx:evE lk x with ⟨_ | va,m⟩ <;> rw [hx] at this <;> simp only [evK] <;> simp only at this <;> omega
   · simp only [wgts] at hN ⊢
     have:=ev_n lk N x (by omega)
     have:=ev_n lk N y (by omega)
     rcases hx:evE lk x with ⟨_ | va,m⟩ <;> rcases hy:evE lk y with ⟨_ | vb,k⟩ <;> simp_all only [evK] <;> omega
   · rcases hx:evE lk x with ⟨_ | va,m⟩ <;> rcases hy:evE lk y with ⟨_ | vb,k⟩ <;> simp [evK]
end
section
set_option maxRecDepth 100000
def dvT:List (Option Vl×Nat)→Vl
 | [(some _,_),(some _,_)]=>(1,0)
 | _=>(0,0)
def dvD (lk:List UInt8→Vl):Ex→Vl
 | .mk _ _ _ _ kids=>dvT (evEs lk kids)
def dvR (lk:List UInt8→Vl) (e:Ex):Value:=match (evE lk e).1 with
 | some v => .tuple #[vlV v,.int .i64 (evE lk e).2,.bool true]
 | none => .tuple #[vlV (dvD lk e),.int .i64 (evE lk e).2,.bool false]
open Go.Sy
theorem dof_any (ns:List (List UInt8)) (vs:List Vl) (na va:Option Addr) (k nc vc:Nat) (name:List UInt8) (w:World) (hnv:NvAt w na va k ns vs):
  CB 46 #[.agg #[.slice na k nc,.slice va k vc],nT name] w (vlV (lkV ns vs name)):=by
 obtain ⟨hk1,hk2,hkb,hsn,vx,hsv,hlv⟩:=hnv
 refine eN [.agg #[.slice na k nc,.slice va k vc],nT name] Tryz.func46 (fun γ0 hγ0=>?_)
 refine rk ?_
 refine good_toLp ?_
 refine good_loopI (fun i:List (List UInt8)×List (List UInt8)=>i.2.length) (fun i=>ns=i.1++i.2∧atN name i.1=none) (fun i=>⟨mkT [(1,vT name),(2,.ptr gz 0),(4,.ptr (gz+1) 0),(5,vI (i.1.length:Int))],mkH [(gz,bK 67 2 [vL na k nc,vL va k vc]),(gz+1,bK 26 2 [v8 0,v6 0])],gz+2,[]⟩)
  ([],ns) ⟨rfl,rfl⟩ (by kernel_rfl)
  (fun h=>gU _ [(1,vT name),(2,.ptr gz 0),(4,.ptr (gz+1) 0),(5,vI (([]:List (List UInt8)).length:Int))] [(gz,bK 67 2 [vL na k nc,vL va k vc]),(gz+1,bK 26 2 [v8 0,v6 0])] (gz+2) (gA hγ0) h) ?_
 rintro ⟨l1,l2⟩ ⟨hI,hN⟩ ih
 simp only at hI hN
 have hq:k=l1.length+l2.length:=by rw [hk1,hI,List.length_append]
 refine rk ?_
 cases l2 with
 | nil=>
   refine ky (l1.length:Int) (k:Int) (by rw [hq];simp) ?_
   refine rk ?_
   exact gR (vlV (0,0)) (fun W hk=>⟨by rw [hI,List.append_nil];unfold lkV;rw [hN],hk.below⟩)
 | cons x l3=>
   have hin:l1.length<k:=by rw [hq,List.length_cons];omega
   have hsn0:=hsn
   rw [hI] at hsn
   refine kx (l1.length:Int) (k:Int) (by omega) ?_
   refine rk ?_
   refine gI 30 9 nc l1.length hsn hin ?_
   refine rk ?_
   refine gL 9 (nT x) l1.length 0 hsn strsV_at ?_
   refine rk ?_
   refine good_cond (b:=bEqL x name) (by kernel_rfl) (fun hss=>?_) (fun hss=>?_)
   ·
    have hx:x=name:=by rw [bEqL_eq] at hss;simpa using hss
    have hat:atN name ns=some l1.length:=by rw [hI,atN_app hN];unfold atN;rw [if_pos hx];simp
    have hl:lkV ns vs name=vs.getD l1.length (0,0):=by unfold lkV;rw [hat]
    obtain ⟨g1,g2⟩:=lsVl_at hlv (i:=l1.length) (by omega)
    rw [hl]
    generalize vs.getD l1.length (0,0)=v at g1 g2 ⊢
    obtain ⟨ty,bits⟩:=v
    dsimp only at g1 g2 ⊢
    refine rk ?_
    refine gI 31 26 vc l1.length hsv hin ?_
    refine rk ?_
    refine gD 26 2 [n8 ty,n6 bits] l1.length 0 hsv rfl (fun j v hv=>by rcases j with _ | _ | j <;> simp at hv <;> subst hv <;> assumption) ?_
    refine rk ?_
    exact gR (vlV (ty,bits)) (fun W hk=>⟨rfl,hk.below⟩)
   ·
    have hx:¬ x=name:=by rw [bEqL_eq] at hss;simpa using hss
    refine rk ?_
    refine gJ 5 l1 x (by omega) ?_
    exact gU _ [(1,vT name),(2,.ptr gz 0),(4,.ptr (gz+1) 0),(5,vI ((l1++[x]).length:Int))] [(gz,bK 67 2 [vL na k nc,vL va k vc]),(gz+1,bK 26 2 [v8 0,v6 0])] (gz+2) (gA hγ0) (ih (l1++[x],l3) ⟨(by show ns=(l1++[_])++l3;rw [hI];simp),(by show atN name (l1++[x])=none;rw [atN_app hN];unfold atN;rw [if_neg hx];rfl)⟩ lS1)
theorem dval_lit (ns:List (List UInt8)) (vs:List Vl) (na va:Option Addr) (k nc vc:Nat) (ty bits:Int) (name:List UInt8) (a:Option Addr) (cap:Nat) (w:World):
  CB 24 #[.agg #[.slice na k nc,.slice va k vc],xV 1 ty bits name a 0 cap] w (dvR (lkV ns vs) (.mk 1 ty bits name [])):=by
 refine eN [.agg #[.slice na k nc,.slice va k vc],xV 1 ty bits name a 0 cap] Tryz.func24 (fun γ0 hγ0=>?_)
 refine rs [] 60 2 ?_
 exact gR (.tuple #[vlV (ty,bits),nI 1,.bool true]) (fun W hk=>⟨by simp [dvR,evE],hk.below⟩)
theorem dval_name (ns:List (List UInt8)) (vs:List Vl) (na va:Option Addr) (k nc vc:Nat) (ty bits:Int) (name:List UInt8) (a:Option Addr) (cap:Nat) (w:World) (hnv:NvAt w na va k ns vs):
  CB 24 #[.agg #[.slice na k nc,.slice va k vc],xV 2 ty bits name a 0 cap] w (dvR (lkV ns vs) (.mk 2 ty bits name [])):=by
 refine eN [.agg #[.slice na k nc,.slice va k vc],xV 2 ty bits name a 0 cap] Tryz.func24 (fun γ0 hγ0=>?_)
 refine rs [] 60 2 ?_
 refine gX [.agg #[.slice na k nc,.slice va k vc],nT name] (vlV (lkV ns vs name)) (fun W hk=>dof_any ns vs na va k nc vc name W (hnv.keep hk)) ?_
 refine rk ?_
 exact gR (.tuple #[vlV (lkV ns vs name),nI 1,.bool true]) (fun W hk=>⟨by simp [dvR,evE],hk.below⟩)
theorem dval_1 (ns:List (List UInt8)) (vs:List Vl) (na va:Option Addr) (k nc vc:Nat) (N:Nat) (ihN:∀ (e:Ex) (cs:List Value) (w:World) (t:List UInt8),wgt e≤N→wgt e≤1000000000000→exT e=some t→ExAt (·<w.heap.size) w e cs→NvAt w na va k ns vs→
  CB 24 #[.agg #[.slice na k nc,.slice va k vc],.agg cs.toArray] w (dvR (lkV ns vs) e))
  (op ty bits:Int) (name:List UInt8) (op1 ty1 bits1:Int) (name1:List UInt8) (kids1:List Ex) (t1:List UInt8) (ht1:exT (Ex.mk op1 ty1 bits1 name1 kids1)=some t1) (hw1:wgt (Ex.mk op1 ty1 bits1 name1 kids1)≤N) (hwb1:wgt (Ex.mk op1 ty1 bits1 name1 kids1)≤1000000000000) (a:Option Addr) (cap:Nat) (xs:List Value) (w:World) (hop:16≤op∧op≤19) (hnv:NvAt w na va k ns vs)
  (hsl:SlAt (·<w.heap.size) w a 1 5 xs) (hks:ExsAt (·<w.heap.size) w [(Ex.mk op1 ty1 bits1 name1 kids1)] xs):
  CB 24 #[.agg #[.slice na k nc,.slice va k vc],xV op ty bits name a 1 cap] w (dvR (lkV ns vs) (.mk op ty bits name [(Ex.mk op1 ty1 bits1 name1 kids1)])):=by
 have c1:¬ op=1:=by omega
 have c2:¬ op=2:=by omega
 obtain ⟨c1,hc1,hcell1⟩:=ExsAt.at_ (l1:=([]:List Ex)) (e:=(Ex.mk op1 ty1 bits1 name1 kids1)) (l3:=[]) hks
 have hcl1:=hc1.len
 have hc10:=hc1
 simp only [ExAt] at hc10
 obtain ⟨a1,cap1,xs1,rfl,_⟩:=hc10
 have hi1:=fun (W:World) (hk:Keep (·<w.heap.size) w W)=>ihN (Ex.mk op1 ty1 bits1 name1 kids1) _ W t1 hw1 hwb1 ht1 (hc1.keep hk (kU hk)) (hnv.keep hk)
 obtain ⟨d1,b1,hd1,hb1,hs1⟩:∃ (d:Vl) (b:Bool),dvR (lkV ns vs) (Ex.mk op1 ty1 bits1 name1 kids1) = .tuple #[vlV d,nI (evE (lkV ns vs) (Ex.mk op1 ty1 bits1 name1 kids1)).2,.bool b]∧(b=true→(evE (lkV ns vs) (Ex.mk op1 ty1 bits1 name1 kids1)).1=some d)∧(b=false→(evE (lkV ns vs) (Ex.mk op1 ty1 bits1 name1 kids1)).1=none):=by
  unfold dvR
  cases h:(evE (lkV ns vs) (Ex.mk op1 ty1 bits1 name1 kids1)).1 with
  | some v=>exact ⟨v,true,rfl,fun _=>rfl,fun h=>by cases h⟩
  | none=>exact ⟨_,false,rfl,fun h=>(by cases h),fun _=>rfl⟩
 rw [hd1] at hi1
 have hn1:=ev_n (lkV ns vs) _ (Ex.mk op1 ty1 bits1 name1 kids1) (Nat.le_refl _)
 refine eN [.agg #[.slice na k nc,.slice va k vc],xV op ty bits name a 1 cap] Tryz.func24 (fun γ0 hγ0=>?_)
 have hγ0:∀ b,gz≤b→γ0 b=none:=hγ0
 refine rk ?_
 refine kw op 1 c1 ?_
 refine rk ?_
 refine kw op 2 c2 ?_
 refine rk ?_
 refine good_lock [gz,gz+1] (gz+2) (by kernel_rfl) (fun b hb=>hγ0 b (by omega)) ?_
 intro γ1 B2 w2 hle1 hγ1 hB12 hB2 hk12 hLk
 have hL2:∀ b,hasNat b [gz,gz+1]=true→∃ p,γ1 b=some p∧B2 p.1:=fun b hb=>let ⟨p,h1,h2,_⟩:=hLk b hb;⟨p,h1,h2⟩
 have hsl2:SlAt B2 w2 a 1 5 xs:=(hsl.keep hk12).mono hB12
 have hcall1:=fun (W:World) (hk:Keep B2 w2 W)=>hi1 W (hk12.trans (hk.mono hB12))
 have hev0:evE (lkV ns vs) (.mk op ty bits name [(Ex.mk op1 ty1 bits1 name1 kids1)])=evK op (evEs (lkV ns vs) [(Ex.mk op1 ty1 bits1 name1 kids1)]):=evE_kids c1 c2
 simp only [evEs] at hev0
 have hdv0:dvD (lkV ns vs) (.mk op ty bits name [(Ex.mk op1 ty1 bits1 name1 kids1)])=dvT (evEs (lkV ns vs) [(Ex.mk op1 ty1 bits1 name1 kids1)]):=by simp only [dvD]
 simp only [evEs] at hdv0
 have rest1:Go.Sy.Good Tryz.prog B2 w2 γ1 Tryz.f24.ntmps (bodyPostD Tryz.prog Tryz.f24 (fun r w'=>r = .returned (dvR (lkV ns vs) (.mk op ty bits name [(Ex.mk op1 ty1 bits1 name1 kids1)]))∧Below w.heap.size w w')) ⟨[.code (seqR (seqR (seqR (seqR (Tryz.f24.body.getD .skip)))))],⟨mkT [(2,.ptr gz 0),(3,.ptr (gz+1) 0),(4,.ptr (gz+2) 0),(7,.ptr (gz+3) 0),(8,vI (evE (lkV ns vs) (Ex.mk op1 ty1 bits1 name1 kids1)).2),(9,vB b1)],mkH [(gz,some (.cells 67 false true true 2 (putL .leaf 0 [vL na k nc,vL va k vc]))),(gz+1,some (.cells 29 false true true 5 (putL .leaf 0 (xA op ty bits name a 1 cap)))),(gz+2,bK 26 2 [v8 0,v6 0]),(gz+3,bK 26 2 [v8 d1.1,v6 d1.2])],gz+4,[]⟩⟩:=by
  refine rk ?_
  cases b1 with
  | false=>
    have e1:evE (lkV ns vs) (Ex.mk op1 ty1 bits1 name1 kids1)=(none,(evE (lkV ns vs) (Ex.mk op1 ty1 bits1 name1 kids1)).2):=Prod.ext (hs1 rfl) rfl
    rw [e1] at hev0 hdv0
    simp only [evK,dvT] at hev0 hdv0
    refine gK true (b:=!false) (rfl) ?_
    refine rk ?_
    exact gR (.tuple #[vlV (0,0),nI (evE (lkV ns vs) (Ex.mk op1 ty1 bits1 name1 kids1)).2,.bool false]) (fun W hk=>⟨by unfold dvR;rw [hev0,hdv0],(hk12.trans (hk.mono hB12)).below⟩)
  | true=>
    have e1:evE (lkV ns vs) (Ex.mk op1 ty1 bits1 name1 kids1)=(some d1,(evE (lkV ns vs) (Ex.mk op1 ty1 bits1 name1 kids1)).2):=Prod.ext (hb1 rfl) rfl
    rw [e1] at hev0 hdv0
    simp only [evK,dvT] at hev0 hdv0
    refine gK false (b:=!true) (rfl) ?_
    refine rs [] 60 1 ?_
    have hop1:=fun (W:World)=>done_any op d1.1 d1.2 (by omega) W
    have hopE:oneV op (d1.1,d1.2)=oneV op d1:=rfl
    rw [hopE] at hop1
    cases ho:oneV op d1 with
    | none=>
      rw [ho] at hop1 hev0
      refine gX [n8 op,.agg #[n8 d1.1,n6 d1.2]] (.tuple #[vlV (0,0),.bool false]) (fun W hk=>hop1 W) ?_
      refine rk ?_
      refine gS 5 (x:=nI (wrapF .i64 (((evE (lkV ns vs) (Ex.mk op1 ty1 bits1 name1 kids1)).2:Int)+1))) (nI (((evE (lkV ns vs) (Ex.mk op1 ty1 bits1 name1 kids1)).2+1:Nat):Int)) (by rw [wr64 (by omega) (by omega)];rfl) ?_
      exact gR (.tuple #[vlV (0,0),nI (((evE (lkV ns vs) (Ex.mk op1 ty1 bits1 name1 kids1)).2+1:Nat):Int),.bool false]) (fun W hk=>⟨by unfold dvR;rw [hev0,hdv0],(hk12.trans (hk.mono hB12)).below⟩)
    | some u=>
      rw [ho] at hop1 hev0
      refine gX [n8 op,.agg #[n8 d1.1,n6 d1.2]] (.tuple #[vlV u,.bool true]) (fun W hk=>hop1 W) ?_
      refine rk ?_
      refine gS 5 (x:=nI (wrapF .i64 (((evE (lkV ns vs) (Ex.mk op1 ty1 bits1 name1 kids1)).2:Int)+1))) (nI (((evE (lkV ns vs) (Ex.mk op1 ty1 bits1 name1 kids1)).2+1:Nat):Int)) (by rw [wr64 (by omega) (by omega)];rfl) ?_
      exact gR (.tuple #[vlV u,nI (((evE (lkV ns vs) (Ex.mk op1 ty1 bits1 name1 kids1)).2+1:Nat):Int),.bool true]) (fun W hk=>⟨by unfold dvR;rw [hev0],(hk12.trans (hk.mono hB12)).below⟩)
 refine good_plan sy_mixed (.take 0 (.take 1 (.take 2 (.take 3 (.take 4 (.alt (.run 5 (.take 6 (.take 7 (.take 8 (.take 9 (.run 10 (.run 11 (.take 12 .done)))))))) (.run 10 (.run 5 (.take 6 (.take 7 (.take 8 (.take 9 (.run 11 (.take 12 .done)))))))))))))) 13 (by kernel_rfl) ?_
 refine p_takes [gz,gz+1] 3 (Bs:=B2) (ws:=w2) (by kernel_rfl) (fun _ h=>h) hL2 ?_
 refine p_val (.pointer (some ⟨gB a,oB a+0*5,none⟩)) (S:=Instr.indexAt 27 (.slice a 1 cap) (nI 0)) (by kernel_rfl) (Bs:=B2) (ws:=w2) (by kernel_rfl) (fun _ h=>h) (fun W _=>idx_sl (e:=29) hsl2 (by kernel_rfl) (by kernel_rfl) (by decide) W) ?_
 refine p_val (xV op1 ty1 bits1 name1 a1 kids1.length cap1) (S:=Instr.loadAt 29 (.pointer (some ⟨gB a,oB a+0*5+0,none⟩))) (by kernel_rfl) (Bs:=B2) (ws:=w2) (by kernel_rfl) (fun _ h=>h) (fun W hk=>load_slA (P:=Tryz.prog) (ty:=29) (m:=5) (cs:=(xL op1 ty1 bits1 name1 a1 kids1.length cap1)) hsl2 (by kernel_rfl) (by kernel_rfl) 0 0 hcl1 hcell1 (W:=W) hk) ?_
 refine p_alt (by kernel_rfl) ?_ ?_
 ·
  refine pR (Keep B2 w2) (fun _ h=>h) ?_
  refine gX [.agg #[.slice na k nc,.slice va k vc],xV op1 ty1 bits1 name1 a1 kids1.length cap1] (.tuple #[vlV d1,nI (evE (lkV ns vs) (Ex.mk op1 ty1 bits1 name1 kids1)).2,.bool b1]) (fun W hk=>hcall1 W hk) ?_
  refine rk ?_
  refine p_takes [gz,gz+1] 4 (Bs:=B2) (ws:=w2) (by kernel_rfl) (fun _ h=>h) hL2 ?_
  refine pR (Keep B2 w2) (fun _ h=>h) ?_
  refine rk ?_
  refine pR (Keep B2 w2) (fun _ h=>h) ?_
  refine rk ?_
  refine p_takes [gz,gz+1] 1 (Bs:=B2) (ws:=w2) (by kernel_rfl) (fun _ h=>h) hL2 ?_
  refine p_done (by kernel_rfl) ?_ (Keep B2 w2) (by kernel_rfl) (fun _ h=>h)
  refine rs [] 3 0 ?_
  exact gU [.code (seqR (seqR (seqR (seqR (Tryz.f24.body.getD .skip)))))] [(2,.ptr gz 0),(3,.ptr (gz+1) 0),(4,.ptr (gz+2) 0),(7,.ptr (gz+3) 0),(8,vI (evE (lkV ns vs) (Ex.mk op1 ty1 bits1 name1 kids1)).2),(9,vB b1)] [(gz,some (.cells 67 false true true 2 (putL .leaf 0 [vL na k nc,vL va k vc]))),(gz+1,some (.cells 29 false true true 5 (putL .leaf 0 (xA op ty bits name a 1 cap)))),(gz+2,bK 26 2 [v8 0,v6 0]),(gz+3,bK 26 2 [v8 d1.1,v6 d1.2])] (gz+4) (fun b hb=>hγ1 b (by omega)) rest1
 ·
  refine pR (Keep B2 w2) (fun _ h=>h) ?_
  refine rk ?_
  refine pR (Keep B2 w2) (fun _ h=>h) ?_
  refine gX [.agg #[.slice na k nc,.slice va k vc],xV op1 ty1 bits1 name1 a1 kids1.length cap1] (.tuple #[vlV d1,nI (evE (lkV ns vs) (Ex.mk op1 ty1 bits1 name1 kids1)).2,.bool b1]) (fun W hk=>hcall1 W hk) ?_
  refine rk ?_
  refine p_takes [gz,gz+1] 4 (Bs:=B2) (ws:=w2) (by kernel_rfl) (fun _ h=>h) hL2 ?_
  refine pR (Keep B2 w2) (fun _ h=>h) ?_
  refine rk ?_
  refine p_takes [gz,gz+1] 1 (Bs:=B2) (ws:=w2) (by kernel_rfl) (fun _ h=>h) hL2 ?_
  refine p_done (by kernel_rfl) ?_ (Keep B2 w2) (by kernel_rfl) (fun _ h=>h)
  refine rs [] 3 0 ?_
  exact gU [.code (seqR (seqR (seqR (seqR (Tryz.f24.body.getD .skip)))))] [(2,.ptr gz 0),(3,.ptr (gz+1) 0),(4,.ptr (gz+2) 0),(7,.ptr (gz+3) 0),(8,vI (evE (lkV ns vs) (Ex.mk op1 ty1 bits1 name1 kids1)).2),(9,vB b1)] [(gz,some (.cells 67 false true true 2 (putL .leaf 0 [vL na k nc,vL va k vc]))),(gz+1,some (.cells 29 false true true 5 (putL .leaf 0 (xA op ty bits name a 1 cap)))),(gz+2,bK 26 2 [v8 0,v6 0]),(gz+3,bK 26 2 [v8 d1.1,v6 d1.2])] (gz+4) (fun b hb=>hγ1 b (by omega)) rest1
theorem dval_2 (ns:List (List UInt8)) (vs:List Vl) (na va:Option Addr) (k nc vc:Nat) (N:Nat) (ihN:∀ (e:Ex) (cs:List Value) (w:World) (t:List UInt8),wgt e≤N→wgt e≤1000000000000→exT e=some t→ExAt (·<w.heap.size) w e cs→NvAt w na va k ns vs→
  CB 24 #[.agg #[.slice na k nc,.slice va k vc],.agg cs.toArray] w (dvR (lkV ns vs) e))
  (op ty bits:Int) (name:List UInt8) (op1 ty1 bits1:Int) (name1:List UInt8) (kids1:List Ex) (t1:List UInt8) (ht1:exT (Ex.mk op1 ty1 bits1 name1 kids1)=some t1) (hw1:wgt (Ex.mk op1 ty1 bits1 name1 kids1)≤N) (hwb1:wgt (Ex.mk op1 ty1 bits1 name1 kids1)≤1000000000000) (op2 ty2 bits2:Int) (name2:List UInt8) (kids2:List Ex) (t2:List UInt8) (ht2:exT (Ex.mk op2 ty2 bits2 name2 kids2)=some t2) (hw2:wgt (Ex.mk op2 ty2 bits2 name2 kids2)≤N) (hwb2:wgt (Ex.mk op2 ty2 bits2 name2 kids2)≤1000000000000) (a:Option Addr) (cap:Nat) (xs:List Value) (w:World) (hop:3≤op∧op≤15) (hnv:NvAt w na va k ns vs)
  (hsl:SlAt (·<w.heap.size) w a 2 5 xs) (hks:ExsAt (·<w.heap.size) w [(Ex.mk op1 ty1 bits1 name1 kids1),(Ex.mk op2 ty2 bits2 name2 kids2)] xs):
  CB 24 #[.agg #[.slice na k nc,.slice va k vc],xV op ty bits name a 2 cap] w (dvR (lkV ns vs) (.mk op ty bits name [(Ex.mk op1 ty1 bits1 name1 kids1),(Ex.mk op2 ty2 bits2 name2 kids2)])):=by
 have c1:¬ op=1:=by omega
 have c2:¬ op=2:=by omega
 obtain ⟨c1,hc1,hcell1⟩:=ExsAt.at_ (l1:=([]:List Ex)) (e:=(Ex.mk op1 ty1 bits1 name1 kids1)) (l3:=[(Ex.mk op2 ty2 bits2 name2 kids2)]) hks
 have hcl1:=hc1.len
 have hc10:=hc1
 simp only [ExAt] at hc10
 obtain ⟨a1,cap1,xs1,rfl,_⟩:=hc10
 have hi1:=fun (W:World) (hk:Keep (·<w.heap.size) w W)=>ihN (Ex.mk op1 ty1 bits1 name1 kids1) _ W t1 hw1 hwb1 ht1 (hc1.keep hk (kU hk)) (hnv.keep hk)
 obtain ⟨d1,b1,hd1,hb1,hs1⟩:∃ (d:Vl) (b:Bool),dvR (lkV ns vs) (Ex.mk op1 ty1 bits1 name1 kids1) = .tuple #[vlV d,nI (evE (lkV ns vs) (Ex.mk op1 ty1 bits1 name1 kids1)).2,.bool b]∧(b=true→(evE (lkV ns vs) (Ex.mk op1 ty1 bits1 name1 kids1)).1=some d)∧(b=false→(evE (lkV ns vs) (Ex.mk op1 ty1 bits1 name1 kids1)).1=none):=by
  unfold dvR
  cases h:(evE (lkV ns vs) (Ex.mk op1 ty1 bits1 name1 kids1)).1 with
  | some v=>exact ⟨v,true,rfl,fun _=>rfl,fun h=>by cases h⟩
  | none=>exact ⟨_,false,rfl,fun h=>(by cases h),fun _=>rfl⟩
 rw [hd1] at hi1
 have hn1:=ev_n (lkV ns vs) _ (Ex.mk op1 ty1 bits1 name1 kids1) (Nat.le_refl _)
 obtain ⟨c2,hc2,hcell2⟩:=ExsAt.at_ (l1:=[(Ex.mk op1 ty1 bits1 name1 kids1)]) (e:=(Ex.mk op2 ty2 bits2 name2 kids2)) (l3:=[]) hks
 have hcl2:=hc2.len
 have hc20:=hc2
 simp only [ExAt] at hc20
 obtain ⟨a2,cap2,xs2,rfl,_⟩:=hc20
 have hi2:=fun (W:World) (hk:Keep (·<w.heap.size) w W)=>ihN (Ex.mk op2 ty2 bits2 name2 kids2) _ W t2 hw2 hwb2 ht2 (hc2.keep hk (kU hk)) (hnv.keep hk)
 obtain ⟨d2,b2,hd2,hb2,hs2⟩:∃ (d:Vl) (b:Bool),dvR (lkV ns vs) (Ex.mk op2 ty2 bits2 name2 kids2) = .tuple #[vlV d,nI (evE (lkV ns vs) (Ex.mk op2 ty2 bits2 name2 kids2)).2,.bool b]∧(b=true→(evE (lkV ns vs) (Ex.mk op2 ty2 bits2 name2 kids2)).1=some d)∧(b=false→(evE (lkV ns vs) (Ex.mk op2 ty2 bits2 name2 kids2)).1=none):=by
  unfold dvR
  cases h:(evE (lkV ns vs) (Ex.mk op2 ty2 bits2 name2 kids2)).1 with
  | some v=>exact ⟨v,true,rfl,fun _=>rfl,fun h=>by cases h⟩
  | none=>exact ⟨_,false,rfl,fun h=>(by cases h),fun _=>rfl⟩
 rw [hd2] at hi2
 have hn2:=ev_n (lkV ns vs) _ (Ex.mk op2 ty2 bits2 name2 kids2) (Nat.le_refl _)
 refine eN [.agg #[.slice na k nc,.slice va k vc],xV op ty bits name a 2 cap] Tryz.func24 (fun γ0 hγ0=>?_)
 have hγ0:∀ b,gz≤b→γ0 b=none:=hγ0
 refine rk ?_
 refine kw op 1 c1 ?_
 refine rk ?_
 refine kw op 2 c2 ?_
 refine rk ?_
 refine good_lock [gz,gz+1] (gz+2) (by kernel_rfl) (fun b hb=>hγ0 b (by omega)) ?_
 intro γ1 B2 w2 hle1 hγ1 hB12 hB2 hk12 hLk
 have hL2:∀ b,hasNat b [gz,gz+1]=true→∃ p,γ1 b=some p∧B2 p.1:=fun b hb=>let ⟨p,h1,h2,_⟩:=hLk b hb;⟨p,h1,h2⟩
 have hsl2:SlAt B2 w2 a 2 5 xs:=(hsl.keep hk12).mono hB12
 have hcall1:=fun (W:World) (hk:Keep B2 w2 W)=>hi1 W (hk12.trans (hk.mono hB12))
 have hcall2:=fun (W:World) (hk:Keep B2 w2 W)=>hi2 W (hk12.trans (hk.mono hB12))
 have hev0:evE (lkV ns vs) (.mk op ty bits name [(Ex.mk op1 ty1 bits1 name1 kids1),(Ex.mk op2 ty2 bits2 name2 kids2)])=evK op (evEs (lkV ns vs) [(Ex.mk op1 ty1 bits1 name1 kids1),(Ex.mk op2 ty2 bits2 name2 kids2)]):=evE_kids c1 c2
 simp only [evEs] at hev0
 have hdv0:dvD (lkV ns vs) (.mk op ty bits name [(Ex.mk op1 ty1 bits1 name1 kids1),(Ex.mk op2 ty2 bits2 name2 kids2)])=dvT (evEs (lkV ns vs) [(Ex.mk op1 ty1 bits1 name1 kids1),(Ex.mk op2 ty2 bits2 name2 kids2)]):=by simp only [dvD]
 simp only [evEs] at hdv0
 have rest1:Go.Sy.Good Tryz.prog B2 w2 γ1 Tryz.f24.ntmps (bodyPostD Tryz.prog Tryz.f24 (fun r w'=>r = .returned (dvR (lkV ns vs) (.mk op ty bits name [(Ex.mk op1 ty1 bits1 name1 kids1),(Ex.mk op2 ty2 bits2 name2 kids2)]))∧Below w.heap.size w w')) ⟨[.code (seqR (seqR (seqR (seqR (Tryz.f24.body.getD .skip)))))],⟨mkT [(2,.ptr gz 0),(3,.ptr (gz+1) 0),(4,.ptr (gz+2) 0),(7,.ptr (gz+3) 0),(8,vI (evE (lkV ns vs) (Ex.mk op1 ty1 bits1 name1 kids1)).2),(9,vB b1)],mkH [(gz,some (.cells 67 false true true 2 (putL .leaf 0 [vL na k nc,vL va k vc]))),(gz+1,some (.cells 29 false true true 5 (putL .leaf 0 (xA op ty bits name a 2 cap)))),(gz+2,bK 26 2 [v8 0,v6 0]),(gz+3,bK 26 2 [v8 d1.1,v6 d1.2])],gz+4,[]⟩⟩:=by
  refine rk ?_
  cases b1 with
  | false=>
    have e1:evE (lkV ns vs) (Ex.mk op1 ty1 bits1 name1 kids1)=(none,(evE (lkV ns vs) (Ex.mk op1 ty1 bits1 name1 kids1)).2):=Prod.ext (hs1 rfl) rfl
    rw [e1] at hev0 hdv0
    simp only [evK,dvT] at hev0 hdv0
    refine gK true (b:=!false) (rfl) ?_
    refine rk ?_
    exact gR (.tuple #[vlV (0,0),nI (evE (lkV ns vs) (Ex.mk op1 ty1 bits1 name1 kids1)).2,.bool false]) (fun W hk=>⟨by unfold dvR;rw [hev0,hdv0],(hk12.trans (hk.mono hB12)).below⟩)
  | true=>
    have e1:evE (lkV ns vs) (Ex.mk op1 ty1 bits1 name1 kids1)=(some d1,(evE (lkV ns vs) (Ex.mk op1 ty1 bits1 name1 kids1)).2):=Prod.ext (hb1 rfl) rfl
    rw [e1] at hev0 hdv0
    refine gK false (b:=!true) (rfl) ?_
    refine rs [] 60 1 ?_
    have rest2:Go.Sy.Good Tryz.prog B2 w2 γ1 Tryz.f24.ntmps (bodyPostD Tryz.prog Tryz.f24 (fun r w'=>r = .returned (dvR (lkV ns vs) (.mk op ty bits name [(Ex.mk op1 ty1 bits1 name1 kids1),(Ex.mk op2 ty2 bits2 name2 kids2)]))∧Below w.heap.size w w')) ⟨[.code (seqR (seqR (seqR (seqR (seqR (seqR (seqR (Tryz.f24.body.getD .skip))))))))],⟨mkT [(2,.ptr gz 0),(3,.ptr (gz+1) 0),(4,.ptr (gz+2) 0),(7,.ptr (gz+3) 0),(8,vI (evE (lkV ns vs) (Ex.mk op1 ty1 bits1 name1 kids1)).2),(12,.ptr (gz+4) 0),(13,vI (evE (lkV ns vs) (Ex.mk op2 ty2 bits2 name2 kids2)).2),(9,vB b2)],mkH [(gz,some (.cells 67 false true true 2 (putL .leaf 0 [vL na k nc,vL va k vc]))),(gz+1,some (.cells 29 false true true 5 (putL .leaf 0 (xA op ty bits name a 2 cap)))),(gz+2,bK 26 2 [v8 0,v6 0]),(gz+3,bK 26 2 [v8 d1.1,v6 d1.2]),(gz+4,bK 26 2 [v8 d2.1,v6 d2.2])],gz+5,[]⟩⟩:=by
     refine rk ?_
     cases b2 with
     | false=>
       have e2:evE (lkV ns vs) (Ex.mk op2 ty2 bits2 name2 kids2)=(none,(evE (lkV ns vs) (Ex.mk op2 ty2 bits2 name2 kids2)).2):=Prod.ext (hs2 rfl) rfl
       rw [e2] at hev0 hdv0
       simp only [evK,dvT] at hev0 hdv0
       refine gK true (b:=!false) (rfl) ?_
       refine rk ?_
       refine gS 5 (x:=nI (wrapF .i64 (((evE (lkV ns vs) (Ex.mk op1 ty1 bits1 name1 kids1)).2:Int)+((evE (lkV ns vs) (Ex.mk op2 ty2 bits2 name2 kids2)).2:Int)))) (nI (((evE (lkV ns vs) (Ex.mk op1 ty1 bits1 name1 kids1)).2+(evE (lkV ns vs) (Ex.mk op2 ty2 bits2 name2 kids2)).2:Nat):Int)) (by rw [wr64 (by omega) (by omega)];rfl) ?_
       exact gR (.tuple #[vlV (0,0),nI (((evE (lkV ns vs) (Ex.mk op1 ty1 bits1 name1 kids1)).2+(evE (lkV ns vs) (Ex.mk op2 ty2 bits2 name2 kids2)).2:Nat):Int),.bool false]) (fun W hk=>⟨by unfold dvR;rw [hev0,hdv0],(hk12.trans (hk.mono hB12)).below⟩)
     | true=>
       have e2:evE (lkV ns vs) (Ex.mk op2 ty2 bits2 name2 kids2)=(some d2,(evE (lkV ns vs) (Ex.mk op2 ty2 bits2 name2 kids2)).2):=Prod.ext (hb2 rfl) rfl
       rw [e2] at hev0 hdv0
       simp only [evK,dvT] at hev0 hdv0
       refine gK false (b:=!true) (rfl) ?_
       refine rk ?_
       have hop1:=fun (W:World)=>dtwo_any op d1.1 d1.2 d2.1 d2.2 (by omega) W
       have hopE:twoV op (d1.1,d1.2) (d2.1,d2.2)=twoV op d1 d2:=rfl
       rw [hopE] at hop1
       cases ho:twoV op d1 d2 with
       | none=>
         rw [ho] at hop1 hev0
         refine gX [n8 op,.agg #[n8 d1.1,n6 d1.2],.agg #[n8 d2.1,n6 d2.2]] (.tuple #[vlV (1,0),.bool false]) (fun W hk=>hop1 W) ?_
         refine rk ?_
         refine gS 5 (x:=nI (wrapF .i64 (wrapF .i64 (((evE (lkV ns vs) (Ex.mk op1 ty1 bits1 name1 kids1)).2:Int)+((evE (lkV ns vs) (Ex.mk op2 ty2 bits2 name2 kids2)).2:Int))+1))) (nI (((evE (lkV ns vs) (Ex.mk op1 ty1 bits1 name1 kids1)).2+(evE (lkV ns vs) (Ex.mk op2 ty2 bits2 name2 kids2)).2+1:Nat):Int)) (by rw [wr64 (n:=((evE (lkV ns vs) (Ex.mk op1 ty1 bits1 name1 kids1)).2:Int)+((evE (lkV ns vs) (Ex.mk op2 ty2 bits2 name2 kids2)).2:Int)) (by omega) (by omega),wr64 (by omega) (by omega)];rfl) ?_
         exact gR (.tuple #[vlV (1,0),nI (((evE (lkV ns vs) (Ex.mk op1 ty1 bits1 name1 kids1)).2+(evE (lkV ns vs) (Ex.mk op2 ty2 bits2 name2 kids2)).2+1:Nat):Int),.bool false]) (fun W hk=>⟨by unfold dvR;rw [hev0,hdv0],(hk12.trans (hk.mono hB12)).below⟩)
       | some u=>
         rw [ho] at hop1 hev0
         refine gX [n8 op,.agg #[n8 d1.1,n6 d1.2],.agg #[n8 d2.1,n6 d2.2]] (.tuple #[vlV u,.bool true]) (fun W hk=>hop1 W) ?_
         refine rk ?_
         refine gS 5 (x:=nI (wrapF .i64 (wrapF .i64 (((evE (lkV ns vs) (Ex.mk op1 ty1 bits1 name1 kids1)).2:Int)+((evE (lkV ns vs) (Ex.mk op2 ty2 bits2 name2 kids2)).2:Int))+1))) (nI (((evE (lkV ns vs) (Ex.mk op1 ty1 bits1 name1 kids1)).2+(evE (lkV ns vs) (Ex.mk op2 ty2 bits2 name2 kids2)).2+1:Nat):Int)) (by rw [wr64 (n:=((evE (lkV ns vs) (Ex.mk op1 ty1 bits1 name1 kids1)).2:Int)+((evE (lkV ns vs) (Ex.mk op2 ty2 bits2 name2 kids2)).2:Int)) (by omega) (by omega),wr64 (by omega) (by omega)];rfl) ?_
         exact gR (.tuple #[vlV u,nI (((evE (lkV ns vs) (Ex.mk op1 ty1 bits1 name1 kids1)).2+(evE (lkV ns vs) (Ex.mk op2 ty2 bits2 name2 kids2)).2+1:Nat):Int),.bool true]) (fun W hk=>⟨by unfold dvR;rw [hev0],(hk12.trans (hk.mono hB12)).below⟩)
    refine good_plan sy_mixed (.take 0 (.take 1 (.take 2 (.take 3 (.take 4 (.alt (.run 5 (.take 6 (.take 7 (.take 8 (.take 9 (.run 10 (.run 11 (.take 12 .done)))))))) (.run 10 (.run 5 (.take 6 (.take 7 (.take 8 (.take 9 (.run 11 (.take 12 .done)))))))))))))) 13 (by kernel_rfl) ?_
    refine p_takes [gz,gz+1] 3 (Bs:=B2) (ws:=w2) (by kernel_rfl) (fun _ h=>h) hL2 ?_
    refine p_val (.pointer (some ⟨gB a,oB a+1*5,none⟩)) (S:=Instr.indexAt 27 (.slice a 2 cap) (nI 1)) (by kernel_rfl) (Bs:=B2) (ws:=w2) (by kernel_rfl) (fun _ h=>h) (fun W _=>idx_sl (e:=29) hsl2 (by kernel_rfl) (by kernel_rfl) (by decide) W) ?_
    refine p_val (xV op2 ty2 bits2 name2 a2 kids2.length cap2) (S:=Instr.loadAt 29 (.pointer (some ⟨gB a,oB a+1*5+0,none⟩))) (by kernel_rfl) (Bs:=B2) (ws:=w2) (by kernel_rfl) (fun _ h=>h) (fun W hk=>load_slA (P:=Tryz.prog) (ty:=29) (m:=5) (cs:=(xL op2 ty2 bits2 name2 a2 kids2.length cap2)) hsl2 (by kernel_rfl) (by kernel_rfl) 1 0 hcl2 hcell2 (W:=W) hk) ?_
    refine p_alt (by kernel_rfl) ?_ ?_
    ·
     refine pR (Keep B2 w2) (fun _ h=>h) ?_
     refine gX [.agg #[.slice na k nc,.slice va k vc],xV op2 ty2 bits2 name2 a2 kids2.length cap2] (.tuple #[vlV d2,nI (evE (lkV ns vs) (Ex.mk op2 ty2 bits2 name2 kids2)).2,.bool b2]) (fun W hk=>hcall2 W hk) ?_
     refine rk ?_
     refine p_takes [gz,gz+1] 4 (Bs:=B2) (ws:=w2) (by kernel_rfl) (fun _ h=>h) hL2 ?_
     refine pR (Keep B2 w2) (fun _ h=>h) ?_
     refine rk ?_
     refine pR (Keep B2 w2) (fun _ h=>h) ?_
     refine rk ?_
     refine p_takes [gz,gz+1] 1 (Bs:=B2) (ws:=w2) (by kernel_rfl) (fun _ h=>h) hL2 ?_
     refine p_done (by kernel_rfl) ?_ (Keep B2 w2) (by kernel_rfl) (fun _ h=>h)
     refine rs [] 3 0 ?_
     exact gU [.code (seqR (seqR (seqR (seqR (seqR (seqR (seqR (Tryz.f24.body.getD .skip))))))))] [(2,.ptr gz 0),(3,.ptr (gz+1) 0),(4,.ptr (gz+2) 0),(7,.ptr (gz+3) 0),(8,vI (evE (lkV ns vs) (Ex.mk op1 ty1 bits1 name1 kids1)).2),(12,.ptr (gz+4) 0),(13,vI (evE (lkV ns vs) (Ex.mk op2 ty2 bits2 name2 kids2)).2),(9,vB b2)] [(gz,some (.cells 67 false true true 2 (putL .leaf 0 [vL na k nc,vL va k vc]))),(gz+1,some (.cells 29 false true true 5 (putL .leaf 0 (xA op ty bits name a 2 cap)))),(gz+2,bK 26 2 [v8 0,v6 0]),(gz+3,bK 26 2 [v8 d1.1,v6 d1.2]),(gz+4,bK 26 2 [v8 d2.1,v6 d2.2])] (gz+5) (fun b hb=>hγ1 b (by omega)) rest2
    ·
     refine pR (Keep B2 w2) (fun _ h=>h) ?_
     refine rk ?_
     refine pR (Keep B2 w2) (fun _ h=>h) ?_
     refine gX [.agg #[.slice na k nc,.slice va k vc],xV op2 ty2 bits2 name2 a2 kids2.length cap2] (.tuple #[vlV d2,nI (evE (lkV ns vs) (Ex.mk op2 ty2 bits2 name2 kids2)).2,.bool b2]) (fun W hk=>hcall2 W hk) ?_
     refine rk ?_
     refine p_takes [gz,gz+1] 4 (Bs:=B2) (ws:=w2) (by kernel_rfl) (fun _ h=>h) hL2 ?_
     refine pR (Keep B2 w2) (fun _ h=>h) ?_
     refine rk ?_
     refine p_takes [gz,gz+1] 1 (Bs:=B2) (ws:=w2) (by kernel_rfl) (fun _ h=>h) hL2 ?_
     refine p_done (by kernel_rfl) ?_ (Keep B2 w2) (by kernel_rfl) (fun _ h=>h)
     refine rs [] 3 0 ?_
     exact gU [.code (seqR (seqR (seqR (seqR (seqR (seqR (seqR (Tryz.f24.body.getD .skip))))))))] [(2,.ptr gz 0),(3,.ptr (gz+1) 0),(4,.ptr (gz+2) 0),(7,.ptr (gz+3) 0),(8,vI (evE (lkV ns vs) (Ex.mk op1 ty1 bits1 name1 kids1)).2),(12,.ptr (gz+4) 0),(13,vI (evE (lkV ns vs) (Ex.mk op2 ty2 bits2 name2 kids2)).2),(9,vB b2)] [(gz,some (.cells 67 false true true 2 (putL .leaf 0 [vL na k nc,vL va k vc]))),(gz+1,some (.cells 29 false true true 5 (putL .leaf 0 (xA op ty bits name a 2 cap)))),(gz+2,bK 26 2 [v8 0,v6 0]),(gz+3,bK 26 2 [v8 d1.1,v6 d1.2]),(gz+4,bK 26 2 [v8 d2.1,v6 d2.2])] (gz+5) (fun b hb=>hγ1 b (by omega)) rest2
 refine good_plan sy_mixed (.take 0 (.take 1 (.take 2 (.take 3 (.take 4 (.alt (.run 5 (.take 6 (.take 7 (.take 8 (.take 9 (.run 10 (.run 11 (.take 12 .done)))))))) (.run 10 (.run 5 (.take 6 (.take 7 (.take 8 (.take 9 (.run 11 (.take 12 .done)))))))))))))) 13 (by kernel_rfl) ?_
 refine p_takes [gz,gz+1] 3 (Bs:=B2) (ws:=w2) (by kernel_rfl) (fun _ h=>h) hL2 ?_
 refine p_val (.pointer (some ⟨gB a,oB a+0*5,none⟩)) (S:=Instr.indexAt 27 (.slice a 2 cap) (nI 0)) (by kernel_rfl) (Bs:=B2) (ws:=w2) (by kernel_rfl) (fun _ h=>h) (fun W _=>idx_sl (e:=29) hsl2 (by kernel_rfl) (by kernel_rfl) (by decide) W) ?_
 refine p_val (xV op1 ty1 bits1 name1 a1 kids1.length cap1) (S:=Instr.loadAt 29 (.pointer (some ⟨gB a,oB a+0*5+0,none⟩))) (by kernel_rfl) (Bs:=B2) (ws:=w2) (by kernel_rfl) (fun _ h=>h) (fun W hk=>load_slA (P:=Tryz.prog) (ty:=29) (m:=5) (cs:=(xL op1 ty1 bits1 name1 a1 kids1.length cap1)) hsl2 (by kernel_rfl) (by kernel_rfl) 0 0 hcl1 hcell1 (W:=W) hk) ?_
 refine p_alt (by kernel_rfl) ?_ ?_
 ·
  refine pR (Keep B2 w2) (fun _ h=>h) ?_
  refine gX [.agg #[.slice na k nc,.slice va k vc],xV op1 ty1 bits1 name1 a1 kids1.length cap1] (.tuple #[vlV d1,nI (evE (lkV ns vs) (Ex.mk op1 ty1 bits1 name1 kids1)).2,.bool b1]) (fun W hk=>hcall1 W hk) ?_
  refine rk ?_
  refine p_takes [gz,gz+1] 4 (Bs:=B2) (ws:=w2) (by kernel_rfl) (fun _ h=>h) hL2 ?_
  refine pR (Keep B2 w2) (fun _ h=>h) ?_
  refine rk ?_
  refine pR (Keep B2 w2) (fun _ h=>h) ?_
  refine rk ?_
  refine p_takes [gz,gz+1] 1 (Bs:=B2) (ws:=w2) (by kernel_rfl) (fun _ h=>h) hL2 ?_
  refine p_done (by kernel_rfl) ?_ (Keep B2 w2) (by kernel_rfl) (fun _ h=>h)
  refine rs [] 3 0 ?_
  exact gU [.code (seqR (seqR (seqR (seqR (Tryz.f24.body.getD .skip)))))] [(2,.ptr gz 0),(3,.ptr (gz+1) 0),(4,.ptr (gz+2) 0),(7,.ptr (gz+3) 0),(8,vI (evE (lkV ns vs) (Ex.mk op1 ty1 bits1 name1 kids1)).2),(9,vB b1)] [(gz,some (.cells 67 false true true 2 (putL .leaf 0 [vL na k nc,vL va k vc]))),(gz+1,some (.cells 29 false true true 5 (putL .leaf 0 (xA op ty bits name a 2 cap)))),(gz+2,bK 26 2 [v8 0,v6 0]),(gz+3,bK 26 2 [v8 d1.1,v6 d1.2])] (gz+4) (fun b hb=>hγ1 b (by omega)) rest1
 ·
  refine pR (Keep B2 w2) (fun _ h=>h) ?_
  refine rk ?_
  refine pR (Keep B2 w2) (fun _ h=>h) ?_
  refine gX [.agg #[.slice na k nc,.slice va k vc],xV op1 ty1 bits1 name1 a1 kids1.length cap1] (.tuple #[vlV d1,nI (evE (lkV ns vs) (Ex.mk op1 ty1 bits1 name1 kids1)).2,.bool b1]) (fun W hk=>hcall1 W hk) ?_
  refine rk ?_
  refine p_takes [gz,gz+1] 4 (Bs:=B2) (ws:=w2) (by kernel_rfl) (fun _ h=>h) hL2 ?_
  refine pR (Keep B2 w2) (fun _ h=>h) ?_
  refine rk ?_
  refine p_takes [gz,gz+1] 1 (Bs:=B2) (ws:=w2) (by kernel_rfl) (fun _ h=>h) hL2 ?_
  refine p_done (by kernel_rfl) ?_ (Keep B2 w2) (by kernel_rfl) (fun _ h=>h)
  refine rs [] 3 0 ?_
  exact gU [.code (seqR (seqR (seqR (seqR (Tryz.f24.body.getD .skip)))))] [(2,.ptr gz 0),(3,.ptr (gz+1) 0),(4,.ptr (gz+2) 0),(7,.ptr (gz+3) 0),(8,vI (evE (lkV ns vs) (Ex.mk op1 ty1 bits1 name1 kids1)).2),(9,vB b1)] [(gz,some (.cells 67 false true true 2 (putL .leaf 0 [vL na k nc,vL va k vc]))),(gz+1,some (.cells 29 false true true 5 (putL .leaf 0 (xA op ty bits name a 2 cap)))),(gz+2,bK 26 2 [v8 0,v6 0]),(gz+3,bK 26 2 [v8 d1.1,v6 d1.2])] (gz+4) (fun b hb=>hγ1 b (by omega)) rest1
theorem dvalue_any (ns:List (List UInt8)) (vs:List Vl) (na va:Option Addr) (k nc vc:Nat):∀ (N:Nat),∀ (e:Ex) (cs:List Value) (w:World) (t:List UInt8),wgt e≤N→wgt e≤1000000000000→exT e=some t→ExAt (·<w.heap.size) w e cs→NvAt w na va k ns vs→
  CB 24 #[.agg #[.slice na k nc,.slice va k vc],.agg cs.toArray] w (dvR (lkV ns vs) e):=by
 intro N
 induction N with
 | zero=>intro e cs w t h;have:=wgt_pos e;omega
 | succ N ihN=>
   intro e cs w t hN hbd ht hat hnv
   obtain ⟨op,ty,bits,name,kids⟩:=e
   simp only [ExAt] at hat
   obtain ⟨a,cap,xs,rfl,hsl,hks⟩:=hat
   simp only [wgt] at hN hbd
   have one:∀ (x:Ex) (tx:List UInt8),16≤op∧op≤19→kids=[x]→exT x=some tx→CB 24 #[.agg #[.slice na k nc,.slice va k vc],.agg [.int .u8 op,.int .u8 ty,.int .u64 bits,.string (str name),.slice a kids.length cap].toArray] w (dvR (lkV ns vs) (.mk op ty bits name kids)):=fun x tx hop hk hx=>by
    subst hk
    obtain ⟨op1,ty1,bits1,name1,kids1⟩:=x
    simp only [wgts] at hN hbd
    exact dval_1 ns vs na va k nc vc N ihN op ty bits name op1 ty1 bits1 name1 kids1 tx hx (by omega) (by omega) a cap xs w hop hnv hsl hks
   rcases exT_inv ht with ⟨h1,h2,h3⟩ | ⟨h1,h2,h3⟩ | ⟨h1,x,tx,h2,h3,h4⟩ | ⟨h1,x,tx,h2,h3,h4⟩ | ⟨h1,x,tx,h2,h3,h4⟩ | ⟨h1,x,tx,h2,h3,h4⟩ | ⟨h1,x,y,tx,tY,h2,h3,h4,h5⟩
   · subst h1 h2
     exact dval_lit ns vs na va k nc vc ty bits name a cap w
   · subst h1 h2
     exact dval_name ns vs na va k nc vc ty bits name a cap w hnv
   · exact one x tx (by omega) h2 h3
   · exact one x tx (by omega) h2 h3
   · exact one x tx (by omega) h2 h3
   · exact one x tx (by omega) h2 h3
   · subst h2
     obtain ⟨op1,ty1,bits1,name1,kids1⟩:=x
     obtain ⟨op2,ty2,bits2,name2,kids2⟩:=y
     simp only [wgts] at hN hbd
     exact dval_2 ns vs na va k nc vc N ihN op ty bits name op1 ty1 bits1 name1 kids1 tx h3 (by omega) (by omega) op2 ty2 bits2 name2 kids2 tY h4 (by omega) (by omega) a cap xs w (by omega) hnv hsl hks
end
end Go.Proofs.YtinjiigdijbjeaaGreatDoor
