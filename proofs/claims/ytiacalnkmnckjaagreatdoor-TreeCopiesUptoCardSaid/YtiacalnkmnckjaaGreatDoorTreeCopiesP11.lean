/- Texts of this proof, one behind the other. Conditions: those in each theorem. -/
import Derived.Test.YtiacalnkmnckjaaGreatDoorTreeCopiesP10
import Derived.Test.YtiacalnkmnckjaaGreatDoorTreeCopiesP4
import Derived.OpenShut
import Derived.Carry
import Derived.Deep.Slices
import Derived.Test.YtiacalnkmnckjaaGreatDoorTreeCopiesP6
import Derived.Handy
import Derived.Test.YtiacalnkmnckjaaGreatDoorRows
import Derived.LaidSub
import Derived.Lib.LaidTab
import Derived.Lib.ItoaNum
import Derived.Laws.Externs
section
/- Writing over expressions. No conditions but those in each theorem. -/
namespace Go.Proofs.YtiacalnkmnckjaaGreatDoor
open Go.RowKit Go.As
set_option linter.unusedVariables false
set_option linter.unusedSimpArgs false

theorem slAt_part {F : Nat → Prop} {w : World} {a : Option Addr} {n sz : Nat} {xs c : List Value} (h : Sy.SlAt F w a n sz xs) (hn : 0 < n) {off k : Nat} (hl : c.length = k) (hc : ∀ j v, c[j]? = some v → xs[off + j]? = some v) :
    Sy.SlAt F w (some ⟨Sy.gB a, Sy.oB a + off, none⟩) 1 k c := by
  refine ⟨by omega, .inr ⟨rfl, ?_, fun j v hv => ?_⟩⟩
  · rcases h.place with h0 | ⟨_, h1, _⟩
    · omega
    · exact h1
  · rcases h.place with h0 | ⟨_, h1, h2⟩
    · omega
    · simp only [Sy.gB, Sy.oB]
      rw [Nat.add_assoc]
      exact h2 _ _ (hc j v hv)
theorem ld_pt {P : Program} {F : Nat → Prop} {w : World} {b o sz : Nat} {xs : List Value} {ty : TypeId} (h : Sy.SlAt F w (some ⟨b, o, none⟩) 1 sz xs) (hb : Sy.aggB P ty = some false) (j : Nat) {v : Value} (hv : xs[j]? = some v) {W : World} (hk : Sy.Keep F w W) :
    (Instr.loadAt ty (.pointer (some ⟨b, o + j, none⟩))).run P W = .ok v W := by
  have := Sy.load_sl h hb 0 j (by simpa using hv) hk
  simpa [Sy.gB, Sy.oB] using this
/-- a store of one cell into a slice of a set of soft blocks -/
theorem st_pt {P : Program} {F : Nat → Prop} {w : World} {b o sz : Nat} {xs : List Value} {ty : TypeId} (hF : ∀ k, F k → Soft w k) (h : Sy.SlAt F w (some ⟨b, o, none⟩) 1 sz xs) (hz : Sy.szB P ty = some 1) (j : Nat) {old v : Value} (hv : xs[j]? = some old) (hvc : v.cells = #[v]) (hv1 : v.oneCell' = true) {m : Nat} (hkv : KV m old v) {W : World} (hk : Sy.Keep F w W) :
    ∃ w', (Instr.storeAt ty (.pointer (some ⟨b, o + j, none⟩)) v).run P W = .ok () w' ∧ TK F m W w' ∧ Sy.Keep (fun k => k < W.heap.size ∧ ¬ F k) W w' := by
  rcases (h.keep hk).place with h0 | ⟨_, h1, h2⟩
  · cases h0
  have h1 : F b := h1
  obtain ⟨c, e, hc⟩ := (hF b h1).keep hk h1
  have h3 := h2 j old hv
  simp only [Sy.gB, Sy.oB, World.cell?] at h3
  rw [hc] at h3
  have h4 : c[o + j]? = some old := by simpa using h3
  have hsk := SK.store (w := W) h1 hc h4 hkv
  exact ⟨_, store_soft hz hc (Array.getElem?_eq_some_iff.1 h4).1 hvc hv1, hsk.turn, hsk.keep⟩
/-- what stands at the beginning of a round -/
def OInv (F : Nat → Prop) (w : World) (m : Nat) (B : Nat → Prop) (w1 : World) : Prop :=
  Sy.Keep (fun k => k < w.heap.size ∧ ¬ F k) w w1 ∧ TK F m w w1 ∧ (∀ k, k < w.heap.size → B k) ∧ ∀ k, B k → k < w1.heap.size
theorem OInv.refl {F : Nat → Prop} {w : World} : OInv F w 0 (· < w.heap.size) w := ⟨Sy.Keep.refl _ _, (SK.refl F w).turn, fun k h => h, fun k h => h⟩
theorem OInv.step {F B B' : Nat → Prop} {w w1 W w2 : World} {m m' : Nat} (h : OInv F w m B w1) (hFw : ∀ k, F k → k < w.heap.size) (hk : Sy.Keep B w1 W) (ht : TK F m' W w2) (hk2 : Sy.Keep (fun k => B k ∧ ¬ F k) w1 w2) (hB : ∀ k, B k → B' k) (hB2 : ∀ k, B' k → k < w2.heap.size) : OInv F w (m + m') B' w2 := by
  obtain ⟨h1, h2, h3, h4⟩ := h
  refine ⟨h1.trans (hk2.mono fun k hk => ⟨h3 k hk.1, hk.2⟩), ?_, fun k hk => hB k (h3 k hk), hB2⟩
  have := (h2.trans (TK.of_keep hk fun k hk => h3 k (hFw k hk))).trans ht
  simpa using this
theorem OInv.fin {F B : Nat → Prop} {w w1 W : World} {m : Nat} (h : OInv F w m B w1) (hFw : ∀ k, F k → k < w.heap.size) (hk : Sy.Keep B w1 W) : SK F m w W :=
  ⟨h.1.trans (hk.mono fun k hk => h.2.2.1 k hk.1), by have := h.2.1.trans (TK.of_keep hk fun k hk => h.2.2.1 k (hFw k hk)); simpa using this⟩
theorem WEs_ls {F : Nat → Prop} {w : World} {M : Nat} : ∀ {l : List Ex} {xs : List Value}, WEs F w M l xs ↔ LsAt (WE F w M) l xs
  | [], xs => by simp only [WEs, LsAt]
  | e :: l, xs => by
    simp only [WEs, LsAt]
    exact ⟨fun ⟨c, r, h1, h2, h3⟩ => ⟨c, r, h1, h2, WEs_ls.1 h3⟩, fun ⟨c, r, h1, h2, h3⟩ => ⟨c, r, h1, h2, WEs_ls.2 h3⟩⟩
theorem WE.len {F : Nat → Prop} {w : World} {M : Nat} {e : Ex} {cs : List Value} (h : WE F w M e cs) : cs.length = 5 := by
  cases e
  simp only [WE] at h
  obtain ⟨_, _, _, _, _, _, _, rfl, _⟩ := h
  rfl
/-- the other number that stands where one was -/
def x8 (a : Int) : Int := IntKind.u8.wrap ((BitVec.ofInt IntKind.u8.bits a ^^^ BitVec.ofInt IntKind.u8.bits 64).toNat : Int)
theorem cat_ba (x y : Operand) (a b : ByteArray) (h : a.size + b.size ≤ 9223372036854775807) (w : World) :
    ((do eqGuard .add 9 x y (.string a) (.string b); binOp .add 9 (.string a) (.string b)) : Sem Value).run Tryz.prog w = .ok (.string (a ++ b)) w := by
  have e : (eqGuard .add 9 x y (.string a) (.string b)).run Tryz.prog w = .ok () w := rfl
  rw [Sem.run_bind, e]
  show (Op.stringOp .add a b).run Tryz.prog w = _
  exact run_string_add_sum w a b h

open Go.Sy in
set_option maxRecDepth 100000 in
theorem overExpr_any : ∀ (N : Nat) (e : Ex) (b o : Nat) (cs : List Value) (M : Nat) (F : Nat → Prop) (w : World), wgt e ≤ N → wgt e ≤ 1000000000000 → M + wgt e ≤ 1000000000000 → (∀ k, F k → Soft w k) → SlAt F w (some ⟨b, o, none⟩) 1 5 cs → WE F w M e cs →
    Calls Tryz.prog 145 #[.pointer (some ⟨b, o, none⟩)] w fun r w' => r = .returned (.tuple #[]) ∧ SK F (wgt e) w w' := by
  intro N
  induction N with
  | zero => intro e b o cs M F w h; have := wgt_pos e; omega
  | succ N ihN =>
    intro e b o cs M F w hN hbd hM hF hat hwe
    have hFw : ∀ k, F k → k < w.heap.size := fun k hk => let ⟨c, e, h⟩ := hF k hk; (Array.getElem?_eq_some_iff.1 h).1
    have hcur : ∀ m w1, TK F m w w1 → ∃ op ty bits, ∃ s : ByteArray, ∃ a cap xs cs1, cs1 = [.int .u8 op, .int .u8 ty, .int .u64 bits, .string s, .slice a e.kids.length cap] ∧ s.size ≤ M + m ∧ SlAt F w1 (some ⟨b, o, none⟩) 1 5 cs1 ∧ SlAt F w1 a e.kids.length 5 xs ∧ WEs F w1 (M + m) e.kids xs := by
      intro m w1 ht
      obtain ⟨cs1, h1, h2⟩ := SlAt_turn hF hat ht
      have h3 := WE_turn hF ht hwe h2
      obtain ⟨op, ty, bits, name, kids⟩ := e
      simp only [WE] at h3
      obtain ⟨op1, ty1, bits1, s, a, cap, xs, rfl, hs, h4, h5⟩ := h3
      exact ⟨op1, ty1, bits1, s, a, cap, xs, _, rfl, hs, h1, h4, h5⟩
    obtain ⟨kids, hkids⟩ : ∃ l, l = e.kids := ⟨_, rfl⟩
    rw [← hkids] at hcur
    have hwg : wgt e = wgts kids + 1 := by cases e; subst hkids; rfl
    rw [hwg] at hN hbd hM ⊢
    have hnl := wgts_len kids
    refine Sy.enter (vs := [.pointer (some ⟨b, o, none⟩)]) sy_fine Tryz.func145 rfl (fun γ => norms_LR _) rfl (fun γ0 hγ0 => ?_)
    refine run_ok (sy_cx _ _) 0 [] 60 0 ?_
    refine good_toLp ?_
    refine good_loopB (fun i : List Ex × List Ex => i.2.length) (fun i B w1 => kids = i.1 ++ i.2 ∧ OInv F w (wgts i.1) B w1) (fun i => ⟨mkT [(0, .v (.pointer (some ⟨b, o, none⟩))), (2, .v (.int .i64 (i.1.length : Int)))], mkH [], gz, []⟩)
      ([], kids) ⟨rfl, OInv.refl⟩ (by kernel_rfl)
      (fun h => good_sub _ [(0, .v (.pointer (some ⟨b, o, none⟩))), (2, .v (.int .i64 (([] : List Ex).length : Int)))] [] gz rfl (by kernel_rfl) (by kernel_rfl) (by kernel_rfl) (by kernel_rfl) (by kernel_rfl) hγ0 (by kernel_rfl) h) ?_
    rintro ⟨l1, l2⟩ B1 w1 ⟨hI, hO⟩ ih
    have hI : kids = l1 ++ l2 := hI
    have hO : OInv F w (wgts l1) B1 w1 := hO
    have hn2 : kids.length = l1.length + l2.length := by rw [hI, List.length_append]
    have hw1 : wgts kids = wgts l1 + wgts l2 := by rw [hI, wgts_app]
    have hFB : ∀ k, F k → B1 k := fun k hk => hO.2.2.1 k (hFw k hk)
    obtain ⟨op1, ty1, bits1, s1, a1, cap1, xs1, cs1, hcs1, hs1, hpt, hsl, hks⟩ := hcur _ w1 hO.2.1
    subst hcs1
    refine run_ok (sy_cx _ _) 0 [] 60 0 ?_
    refine good_val (.slice a1 kids.length cap1) (S := Instr.loadAt 32 (.pointer (some ⟨b, o + 4, none⟩))) (by kernel_rfl) (fun W hk => ld_pt hpt (by kernel_rfl) 4 rfl (hk.mono hFB)) ?_
    refine run_ok (sy_cx _ _) 0 [] 60 0 ?_
    cases l2 with
    | nil =>
      have hn3 : kids.length = l1.length := by rw [hn2]; simp
      have hw2 : wgts kids = wgts l1 := by rw [hw1]; simp [wgts]
      refine good_take false (b := intLt (l1.length : Int) (kids.length : Int)) (by kernel_rfl) (lt_f (by omega)) ?_
      refine run_ok (sy_cx _ _) 0 [] 60 0 ?_
      refine good_val (.int .u8 op1) (S := Instr.loadAt 27 (.pointer (some ⟨b, o + 0, none⟩))) (by kernel_rfl) (fun W hk => ld_pt hpt (by kernel_rfl) 0 rfl (hk.mono hFB)) ?_
      refine run_ok (sy_cx _ _) 0 [] 60 0 ?_
      refine good_storeW 27 (.pointer (some ⟨b, o + 0, none⟩)) (.int .u8 (x8 op1)) F (Pr := fun w w' => TK F 0 w w') (by kernel_rfl) (by kernel_rfl) hFB
        (fun W hk => st_pt (hO.2.1.soft hF) hpt (by kernel_rfl) 0 rfl rfl rfl (.inr (.inl ⟨_, _, rfl, rfl⟩)) (hk.mono hFB)) ?_
      intro W w2 B2 hk ht _ hk2 hB12 hB2
      have hO2 : OInv F w (wgts l1) B2 w2 := hO.step hFw hk ht hk2 hB12 hB2
      have hFB2 : ∀ k, F k → B2 k := fun k hk => hB12 k (hFB k hk)
      obtain ⟨op2, ty2, bits2, s2, a2, cap2, xs2, cs2, hcs2, hs2, hpt2, _, _⟩ := hcur _ w2 hO2.2.1
      subst hcs2
      refine run_ok (sy_cx _ _) 0 [32] 60 0 ?_
      refine good_val (.string s2) (S := Instr.loadAt 9 (.pointer (some ⟨b, o + 3, none⟩))) (by kernel_rfl) (fun W hk => ld_pt hpt2 (by kernel_rfl) 3 rfl (hk.mono hFB2)) ?_
      have hsz33 : (⟨#[33]⟩ : ByteArray).size = 1 := rfl
      refine good_val (.string (s2 ++ ⟨#[33]⟩)) (S := (do eqGuard .add 9 (.tmp 31) (.const (.string ⟨#[33]⟩)) (.string s2) (.string ⟨#[33]⟩); binOp .add 9 (.string s2) (.string ⟨#[33]⟩))) (by kernel_rfl) (fun W _ => cat_ba _ _ _ _ (by rw [hsz33]; omega) W) ?_
      refine run_ok (sy_cx _ _) 0 [] 60 0 ?_
      refine good_storeW 9 (.pointer (some ⟨b, o + 3, none⟩)) (.string (s2 ++ ⟨#[33]⟩)) F (Pr := fun w w' => TK F 1 w w') (by kernel_rfl) (by kernel_rfl) hFB2
        (fun W hk => st_pt (hO2.2.1.soft hF) hpt2 (by kernel_rfl) 3 rfl rfl rfl (.inr (.inr (.inr ⟨_, _, rfl, rfl, by rw [ByteArray.size_append, hsz33]; omega⟩))) (hk.mono hFB2)) ?_
      intro W3 w3 B3 hk3 ht3 _ hk23 hB23 hB3
      have hO3 : OInv F w (wgts l1 + 1) B3 w3 := hO2.step hFw hk3 ht3 hk23 hB23 hB3
      refine run_ok (sy_cx _ _) 0 [] 60 0 ?_
      refine good_endV (.tuple #[]) (by kernel_rfl) (fun W hk => ⟨rfl, ?_⟩)
      rw [hw2]
      exact hO3.fin hFw hk
    | cons x l3 =>
      have hin : l1.length < kids.length := by rw [hn2, List.length_cons]; omega
      have hks2 := WEs_ls.1 hks
      rw [hI] at hks2
      obtain ⟨c, hc, hcell⟩ := LsAt.at_ (k := 5) (fun _ _ h => h.len) hks2
      have hpc := slAt_part hsl (by omega) hc.len hcell
      simp only [wgts] at hw1
      have hwe := wgt_pos x
      have hs1' : wgts (l1 ++ [x]) = wgts l1 + wgt x := by rw [wgts_app]; simp [wgts]
      refine good_take true (b := intLt (l1.length : Int) (kids.length : Int)) (by kernel_rfl) (lt_t (by omega)) ?_
      refine run_ok (sy_cx _ _) 0 [] 60 0 ?_
      refine good_val (.slice a1 kids.length cap1) (S := Instr.loadAt 32 (.pointer (some ⟨b, o + 4, none⟩))) (by kernel_rfl) (fun W hk => ld_pt hpt (by kernel_rfl) 4 rfl (hk.mono hFB)) ?_
      refine run_ok (sy_cx _ _) 0 [] 60 0 ?_
      refine good_val (.pointer (some ⟨gB a1, oB a1 + l1.length * 5, none⟩)) (S := Instr.indexAt 32 (.slice a1 kids.length cap1) (.int .i64 (l1.length : Int))) (by kernel_rfl) (fun W _ => idx_sl (e := 34) hsl (by kernel_rfl) (by kernel_rfl) hin W) ?_
      refine run_ok (sy_cx _ _) 0 [] 60 0 ?_
      refine good_callW (sy_cx _ _) [.pointer (some ⟨gB a1, oB a1 + l1.length * 5, none⟩)] F (Pr := fun w r w' => r = .tuple #[] ∧ TK F (wgt x) w w') (by kernel_rfl) (by kernel_rfl) (by kernel_rfl) (by kernel_rfl) hFB
        (fun W hk => (ihN x _ _ c (M + wgts l1) F W (by omega) (by omega) (by omega) ((TK.of_keep hk hFB).soft (hO.2.1.soft hF)) ((hpc.keep (hk.mono hFB))) (by simpa using WE_turn (hO.2.1.soft hF) (TK.of_keep hk hFB) hc ⟨rfl, fun j v hv => ⟨v, hv, .refl v⟩⟩)).mono fun r w' ⟨h1, h2⟩ => ⟨_, h1, ⟨rfl, h2.turn⟩, h2.keep⟩) ?_
      rintro W r w2 B2 hk ⟨rfl, ht⟩ _ hk2 hB12 _ hB2
      refine run_ok (sy_cx _ _) 0 [] 60 0 ?_
      refine good_set 2 (x := .int .i64 (wrapF .i64 ((l1.length : Int) + 1))) (.int .i64 ((l1 ++ [x]).length : Nat)) (by kernel_rfl) (by rw [wr64 (by omega) (by omega)]; congr 1; simp) ?_
      exact good_sub _ [(0, .v (.pointer (some ⟨b, o, none⟩))), (2, .v (.int .i64 ((l1 ++ [x]).length : Nat)))] [] gz (by kernel_rfl) (by kernel_rfl) (by kernel_rfl) (by kernel_rfl) (by kernel_rfl) (by kernel_rfl) hγ0 (by kernel_rfl)
        (ih (l1 ++ [x], l3) B2 w2 ⟨by show kids = (l1 ++ [_]) ++ l3; rw [hI]; simp, by show OInv F w (wgts (l1 ++ [x])) B2 w2; rw [hs1']; exact hO.step hFw hk ht hk2 hB12 hB2⟩ (by show l3.length < (_ :: l3).length; simp))
end Go.Proofs.YtiacalnkmnckjaaGreatDoor
end

section
/- Writing over statements. No conditions but those in each theorem. -/
namespace Go.Proofs.YtiacalnkmnckjaaGreatDoor
open Go.RowKit Go.As
set_option linter.unusedVariables false
set_option linter.unusedSimpArgs false

mutual
/-- weak statements -/
def WSt (F : Nat → Prop) (w : World) (M : Nat) : St → List Value → Prop
  | .mk _ _ e body els, cs => ∃ kind, ∃ s : ByteArray, ∃ ec a cap xs b cap2 ys, cs = .int .i64 kind :: .string s :: (ec ++ [.slice a body.length cap, .slice b els.length cap2]) ∧ WE F w M e ec ∧ Sy.SlAt F w a body.length 9 xs ∧ WSts F w M body xs ∧ Sy.SlAt F w b els.length 9 ys ∧ WSts F w M els ys
def WSts (F : Nat → Prop) (w : World) (M : Nat) : List St → List Value → Prop
  | [], xs => xs = []
  | e :: l, xs => ∃ c r, xs = c ++ r ∧ WSt F w M e c ∧ WSts F w M l r
end
theorem WSts_ls {F : Nat → Prop} {w : World} {M : Nat} : ∀ {l : List St} {xs : List Value}, WSts F w M l xs ↔ LsAt (WSt F w M) l xs
  | [], xs => by simp only [WSts, LsAt]
  | e :: l, xs => by
    simp only [WSts, LsAt]
    exact ⟨fun ⟨c, r, h1, h2, h3⟩ => ⟨c, r, h1, h2, WSts_ls.1 h3⟩, fun ⟨c, r, h1, h2, h3⟩ => ⟨c, r, h1, h2, WSts_ls.2 h3⟩⟩
theorem WSt.len {F : Nat → Prop} {w : World} {M : Nat} {s : St} {cs : List Value} (h : WSt F w M s cs) : cs.length = 9 := by
  cases s
  simp only [WSt] at h
  obtain ⟨_, _, ec, _, _, _, _, _, _, rfl, h2, _⟩ := h
  have := h2.len
  simp [this]
mutual
theorem WSt_turn {F : Nat → Prop} {m M : Nat} {w w' : World} (hF : ∀ k, F k → Soft w k) (hk : TK F m w w') : ∀ {s : St} {cs cs' : List Value}, WSt F w M s cs → KVs m cs cs' → WSt F w' (M + m) s cs'
  | .mk _ _ e body els, cs, cs', h, hv => by
    simp only [WSt] at h ⊢
    obtain ⟨kind, s, ec, a, cap, xs, b, cap2, ys, rfl, he, h1, h2, h3, h4⟩ := h
    obtain ⟨v1, r1, rfl, k1, hv⟩ := hv.cons
    obtain ⟨v2, r2, rfl, k2, hv⟩ := hv.cons
    obtain ⟨ec', r3, rfl, k3, hv⟩ := hv.app
    obtain ⟨v4, r4, rfl, k4, hv⟩ := hv.cons
    obtain ⟨v5, r5, rfl, k5, hv⟩ := hv.cons
    obtain rfl := hv.nil
    obtain ⟨kind', rfl⟩ := k1.i64
    obtain ⟨t, rfl, ht⟩ := k2.str
    obtain rfl := k4.sl
    obtain rfl := k5.sl
    obtain ⟨xs', g1, g2⟩ := SlAt_turn hF h1 hk
    obtain ⟨ys', g3, g4⟩ := SlAt_turn hF h3 hk
    exact ⟨kind', t, ec', a, cap, xs', b, cap2, ys', rfl, WE_turn hF hk he k3, g1, WSts_turn hF hk h2 g2, g3, WSts_turn hF hk h4 g4⟩
theorem WSts_turn {F : Nat → Prop} {m M : Nat} {w w' : World} (hF : ∀ k, F k → Soft w k) (hk : TK F m w w') : ∀ {l : List St} {xs xs' : List Value}, WSts F w M l xs → KVs m xs xs' → WSts F w' (M + m) l xs'
  | [], xs, xs', h, hv => by
    simp only [WSts] at h ⊢
    subst h
    exact hv.nil
  | e :: l, xs, xs', h, hv => by
    simp only [WSts] at h ⊢
    obtain ⟨c, r, rfl, h1, h2⟩ := h
    obtain ⟨c', r', rfl, k1, k2⟩ := hv.app
    exact ⟨c', r', rfl, WSt_turn hF hk h1 k1, WSts_turn hF hk h2 k2⟩
end
theorem st_cell {ec : List Value} (h : ec.length = 5) (x y u v : Value) : (x :: y :: (ec ++ [u, v]))[7]? = some u ∧ (x :: y :: (ec ++ [u, v]))[8]? = some v := by
  constructor
  · rw [show (7 : Nat) = 5 + 1 + 1 from rfl, List.getElem?_cons_succ, List.getElem?_cons_succ, List.getElem?_append_right (by omega), h]
    rfl
  · rw [show (8 : Nat) = 6 + 1 + 1 from rfl, List.getElem?_cons_succ, List.getElem?_cons_succ, List.getElem?_append_right (by omega), h]
    rfl
theorem st_mid {ec : List Value} (x y u v : Value) : ∀ j z, ec[j]? = some z → (x :: y :: (ec ++ [u, v]))[2 + j]? = some z := fun j z hz => by
  have hj := (List.getElem?_eq_some_iff.1 hz).1
  rw [show 2 + j = j + 1 + 1 by omega, List.getElem?_cons_succ, List.getElem?_cons_succ, List.getElem?_append_left hj]
  exact hz
open Go.Sy in
set_option maxRecDepth 100000 in
theorem overStmts_any : ∀ (N : Nat) (L : List St) (a : Option Addr) (n cap : Nat) (xs : List Value) (M : Nat) (F : Nat → Prop) (w : World), n = L.length → swts L < N → swts L ≤ 1000000000000 → M + swts L ≤ 1000000000000 → (∀ k, F k → Soft w k) → SlAt F w a n 9 xs → WSts F w M L xs →
    Calls Tryz.prog 82 #[.slice a n cap] w fun r w' => r = .returned (.tuple #[]) ∧ SK F (swts L) w w' := by
  intro N
  induction N with
  | zero => intro L a n cap xs M F w _ h; omega
  | succ N ihN =>
    intro L a n cap xs M F w hn hN hbd hM hF hsl hks
    have hFw : ∀ k, F k → k < w.heap.size := fun k hk => let ⟨c, e, h⟩ := hF k hk; (Array.getElem?_eq_some_iff.1 h).1
    have hnl := swts_len L
    refine Sy.enter (vs := [.slice a n cap]) sy_fine Tryz.func82 rfl (fun γ => norms_LR _) rfl (fun γ0 hγ0 => ?_)
    refine run_ok (sy_cx _ _) 0 [] 60 0 ?_
    refine good_toLp ?_
    refine good_loopB (fun i : List St × List St => i.2.length) (fun i B w1 => L = i.1 ++ i.2 ∧ OInv F w (swts i.1) B w1) (fun i => ⟨mkT [(0, .v (.slice a n cap)), (2, .v (.int .i64 (i.1.length : Int)))], mkH [], gz, []⟩)
      ([], L) ⟨rfl, OInv.refl⟩ (by kernel_rfl)
      (fun h => good_sub _ [(0, .v (.slice a n cap)), (2, .v (.int .i64 (([] : List St).length : Int)))] [] gz rfl (by kernel_rfl) (by kernel_rfl) (by kernel_rfl) (by kernel_rfl) (by kernel_rfl) hγ0 (by kernel_rfl) h) ?_
    rintro ⟨l1, l2⟩ B1 w1 ⟨hI, hO⟩ ih
    have hI : L = l1 ++ l2 := hI
    have hO : OInv F w (swts l1) B1 w1 := hO
    have hn2 : n = l1.length + l2.length := by rw [hn, hI, List.length_append]
    have hw1 : swts L = swts l1 + swts l2 := by rw [hI, swts_app]
    have hFB : ∀ k, F k → B1 k := fun k hk => hO.2.2.1 k (hFw k hk)
    refine run_ok (sy_cx _ _) 0 [] 60 0 ?_
    cases l2 with
    | nil =>
      have hw2 : swts L = swts l1 := by rw [hw1]; simp [swts]
      refine good_take false (b := intLt (l1.length : Int) (n : Int)) (by kernel_rfl) (lt_f (by simp at hn2; omega)) ?_
      refine run_ok (sy_cx _ _) 0 [] 60 0 ?_
      refine good_endV (.tuple #[]) (by kernel_rfl) (fun W hk => ⟨rfl, ?_⟩)
      rw [hw2]
      exact hO.fin hFw hk
    | cons x l3 =>
      obtain ⟨kd, nm, e, body, els⟩ := x
      have hin : l1.length < n := by rw [hn2, List.length_cons]; omega
      have hs1 : swts (l1 ++ [St.mk kd nm e body els]) = swts l1 + swt (St.mk kd nm e body els) := by rw [swts_app]; simp [swts]
      simp only [swts, swt] at hw1
      have hitem : ∀ m w1, TK F m w w1 → ∃ kind, ∃ s : ByteArray, ∃ ec a1 cap1 ys b1 cap2 zs, SlAt F w1 (some ⟨gB a, oB a + l1.length * 9, none⟩) 1 9 (.int .i64 kind :: .string s :: (ec ++ [.slice a1 body.length cap1, .slice b1 els.length cap2])) ∧ ec.length = 5 ∧ WE F w1 (M + m) e ec ∧ SlAt F w1 a1 body.length 9 ys ∧ WSts F w1 (M + m) body ys ∧ SlAt F w1 b1 els.length 9 zs ∧ WSts F w1 (M + m) els zs ∧ ∀ W, (Instr.indexAt 54 (.slice a n cap) (.int .i64 (l1.length : Int))).run Tryz.prog W = .ok (.pointer (some ⟨gB a, oB a + l1.length * 9, none⟩)) W := by
        intro m w1 ht
        obtain ⟨xs1, h1, h2⟩ := SlAt_turn hF hsl ht
        have h3 := WSts_ls.1 (WSts_turn hF ht hks h2)
        rw [hI] at h3
        obtain ⟨c, hc, hcell⟩ := LsAt.at_ (k := 9) (fun _ _ h => h.len) h3
        have hp := slAt_part h1 (by omega) hc.len hcell
        simp only [WSt] at hc
        obtain ⟨kind, s, ec, a1, cap1, ys, b1, cap2, zs, rfl, k1, k2, k3, k4, k5⟩ := hc
        exact ⟨kind, s, ec, a1, cap1, ys, b1, cap2, zs, hp, k1.len, k1, k2, k3, k4, k5, fun W => idx_sl (e := 56) h1 (by kernel_rfl) (by kernel_rfl) hin W⟩
      obtain ⟨kind, s, ec, a1, cap1, ys, b1, cap2, zs, hpt, hec, he, hb1, hb2, he1, he2, hix⟩ := hitem _ w1 hO.2.1
      refine good_take true (b := intLt (l1.length : Int) (n : Int)) (by kernel_rfl) (lt_t (by omega)) ?_
      refine run_ok (sy_cx _ _) 0 [] 60 0 ?_
      refine good_val (.pointer (some ⟨gB a, oB a + l1.length * 9, none⟩)) (S := Instr.indexAt 54 (.slice a n cap) (.int .i64 (l1.length : Int))) (by kernel_rfl) (fun W _ => hix W) ?_
      refine run_ok (sy_cx _ _) 0 [] 60 0 ?_
      refine good_callW (sy_cx _ _) [.pointer (some ⟨gB a, oB a + l1.length * 9 + 2, none⟩)] F (Pr := fun w r w' => r = .tuple #[] ∧ TK F (wgt e) w w') (by kernel_rfl) (by kernel_rfl) (by kernel_rfl) (by kernel_rfl) hFB
        (fun W hk => (overExpr_any _ e _ _ ec (M + swts l1) F W (Nat.le_refl _) (by omega) (by omega) ((TK.of_keep hk hFB).soft (hO.2.1.soft hF)) ((slAt_part hpt (by omega) hec (st_mid _ _ _ _)).keep (hk.mono hFB)) (by simpa using WE_turn (hO.2.1.soft hF) (TK.of_keep hk hFB) he ⟨rfl, fun j v hv => ⟨v, hv, .refl v⟩⟩)).mono fun r w' ⟨h1, h2⟩ => ⟨_, h1, ⟨rfl, h2.turn⟩, h2.keep⟩) ?_
      rintro W r w2 B2 hk ⟨rfl, ht⟩ _ hk2 hB12 _ hB2
      have hO2 := hO.step hFw hk ht hk2 hB12 hB2
      have hFB2 : ∀ k, F k → B2 k := fun k hk => hB12 k (hFB k hk)
      clear hpt hec he hb1 hb2 he1 he2 hix
      obtain ⟨kind, s, ec, a1, cap1, ys, b1, cap2, zs, hpt, hec, he, hb1, hb2, he1, he2, hix⟩ := hitem _ w2 hO2.2.1
      refine run_ok (sy_cx _ _) 0 [] 60 0 ?_
      refine good_val (.pointer (some ⟨gB a, oB a + l1.length * 9, none⟩)) (S := Instr.indexAt 54 (.slice a n cap) (.int .i64 (l1.length : Int))) (by kernel_rfl) (fun W _ => hix W) ?_
      refine run_ok (sy_cx _ _) 0 [] 60 0 ?_
      refine good_val (.slice a1 body.length cap1) (S := Instr.loadAt 54 (.pointer (some ⟨gB a, oB a + l1.length * 9 + 7, none⟩))) (by kernel_rfl) (fun W hk => ld_pt hpt (by kernel_rfl) 7 (st_cell hec _ _ _ _).1 (hk.mono hFB2)) ?_
      refine run_ok (sy_cx _ _) 0 [] 60 0 ?_
      refine good_callW (sy_cx _ _) [.slice a1 body.length cap1] F (Pr := fun w r w' => r = .tuple #[] ∧ TK F (swts body) w w') (by kernel_rfl) (by kernel_rfl) (by kernel_rfl) (by kernel_rfl) hFB2
        (fun W hk => (ihN body _ _ _ ys (M + (swts l1 + wgt e)) F W rfl (by omega) (by omega) (by omega) ((TK.of_keep hk hFB2).soft (hO2.2.1.soft hF)) (hb1.keep (hk.mono hFB2)) (by simpa using WSts_turn (hO2.2.1.soft hF) (TK.of_keep hk hFB2) hb2 ⟨rfl, fun j v hv => ⟨v, hv, .refl v⟩⟩)).mono fun r w' ⟨h1, h2⟩ => ⟨_, h1, ⟨rfl, h2.turn⟩, h2.keep⟩) ?_
      rintro W3 r w3 B3 hk3 ⟨rfl, ht3⟩ _ hk23 hB23 _ hB3
      have hO3 := hO2.step hFw hk3 ht3 hk23 hB23 hB3
      have hFB3 : ∀ k, F k → B3 k := fun k hk => hB23 k (hFB2 k hk)
      clear hpt hec he hb1 hb2 he1 he2 hix
      obtain ⟨kind, s, ec, a1, cap1, ys, b1, cap2, zs, hpt, hec, he, hb1, hb2, he1, he2, hix⟩ := hitem _ w3 hO3.2.1
      refine run_ok (sy_cx _ _) 0 [] 60 0 ?_
      refine good_val (.pointer (some ⟨gB a, oB a + l1.length * 9, none⟩)) (S := Instr.indexAt 54 (.slice a n cap) (.int .i64 (l1.length : Int))) (by kernel_rfl) (fun W _ => hix W) ?_
      refine run_ok (sy_cx _ _) 0 [] 60 0 ?_
      refine good_val (.slice b1 els.length cap2) (S := Instr.loadAt 54 (.pointer (some ⟨gB a, oB a + l1.length * 9 + 8, none⟩))) (by kernel_rfl) (fun W hk => ld_pt hpt (by kernel_rfl) 8 (st_cell hec _ _ _ _).2 (hk.mono hFB3)) ?_
      refine run_ok (sy_cx _ _) 0 [] 60 0 ?_
      refine good_callW (sy_cx _ _) [.slice b1 els.length cap2] F (Pr := fun w r w' => r = .tuple #[] ∧ TK F (swts els) w w') (by kernel_rfl) (by kernel_rfl) (by kernel_rfl) (by kernel_rfl) hFB3
        (fun W hk => (ihN els _ _ _ zs (M + (swts l1 + wgt e + swts body)) F W rfl (by omega) (by omega) (by omega) ((TK.of_keep hk hFB3).soft (hO3.2.1.soft hF)) (he1.keep (hk.mono hFB3)) (by simpa using WSts_turn (hO3.2.1.soft hF) (TK.of_keep hk hFB3) he2 ⟨rfl, fun j v hv => ⟨v, hv, .refl v⟩⟩)).mono fun r w' ⟨h1, h2⟩ => ⟨_, h1, ⟨rfl, h2.turn⟩, h2.keep⟩) ?_
      rintro W4 r w4 B4 hk4 ⟨rfl, ht4⟩ _ hk34 hB34 _ hB4
      have hO4 := hO3.step hFw hk4 ht4 hk34 hB34 hB4
      have hFB4 : ∀ k, F k → B4 k := fun k hk => hB34 k (hFB3 k hk)
      clear hpt hec he hb1 hb2 he1 he2 hix
      obtain ⟨kind, s, ec, a1, cap1, ys, b1, cap2, zs, hpt, hec, he, hb1, hb2, he1, he2, hix⟩ := hitem _ w4 hO4.2.1
      refine run_ok (sy_cx _ _) 0 [] 60 0 ?_
      refine good_val (.pointer (some ⟨gB a, oB a + l1.length * 9, none⟩)) (S := Instr.indexAt 54 (.slice a n cap) (.int .i64 (l1.length : Int))) (by kernel_rfl) (fun W _ => hix W) ?_
      refine run_ok (sy_cx _ _) 0 [] 60 0 ?_
      refine good_val (.int .i64 kind) (S := Instr.loadAt 3 (.pointer (some ⟨gB a, oB a + l1.length * 9 + 0, none⟩))) (by kernel_rfl) (fun W hk => ld_pt hpt (by kernel_rfl) 0 rfl (hk.mono hFB4)) ?_
      refine run_ok (sy_cx _ _) 0 [] 60 0 ?_
      refine good_val (.pointer (some ⟨gB a, oB a + l1.length * 9, none⟩)) (S := Instr.indexAt 54 (.slice a n cap) (.int .i64 (l1.length : Int))) (by kernel_rfl) (fun W _ => hix W) ?_
      refine run_ok (sy_cx _ _) 0 [] 60 0 ?_
      refine good_storeW 3 (.pointer (some ⟨gB a, oB a + l1.length * 9 + 0, none⟩)) (.int .i64 (wrapF .i64 (kind + 50))) F (Pr := fun w w' => TK F 0 w w') (by kernel_rfl) (by kernel_rfl) hFB4
        (fun W hk => st_pt (hO4.2.1.soft hF) hpt (by kernel_rfl) 0 rfl rfl rfl (.inr (.inr (.inl ⟨_, _, rfl, rfl⟩))) (hk.mono hFB4)) ?_
      intro W5 w5 B5 hk5 ht5 _ hk45 hB45 hB5
      have hO5 := hO4.step hFw hk5 ht5 hk45 hB45 hB5
      refine run_ok (sy_cx _ _) 0 [] 60 0 ?_
      refine good_set 2 (x := .int .i64 (wrapF .i64 ((l1.length : Int) + 1))) (.int .i64 ((l1 ++ [St.mk kd nm e body els]).length : Nat)) (by kernel_rfl) (by rw [wr64 (by omega) (by omega)]; congr 1; simp) ?_
      exact good_sub _ [(0, .v (.slice a n cap)), (2, .v (.int .i64 ((l1 ++ [St.mk kd nm e body els]).length : Nat)))] [] gz (by kernel_rfl) (by kernel_rfl) (by kernel_rfl) (by kernel_rfl) (by kernel_rfl) (by kernel_rfl) hγ0 (by kernel_rfl)
        (ih (l1 ++ [St.mk kd nm e body els], l3) B5 w5 ⟨by show L = (l1 ++ [_]) ++ l3; rw [hI]; simp, ⟨hO5.1, hO5.2.1.mono (by show _ ≤ swts (l1 ++ [St.mk kd nm e body els]); rw [hs1]; simp only [swt]; omega), hO5.2.2⟩⟩ (by show l3.length < (_ :: l3).length; simp))
end Go.Proofs.YtiacalnkmnckjaaGreatDoor
end

section
/- Laws of single operations over any program: append onto a row of the call's own, from any source; make; clone-like appends. No conditions but the sizes that the model asks for. -/
namespace Go.As
open Go Go.RowKit

/-- the row's block is the old one or a new one -/
def SameOrNew (w : World) (v v' : Value) : Prop := ∀ k, v'.ownBlock = some k → v.ownBlock = some k ∨ w.heap.size ≤ k
theorem SameOrNew.rfl (w : World) (v : Value) : SameOrNew w v v := fun _ h => .inl h

section
variable {P : Program} {w : World}

theorem run_app_nil (base : Nat) (t ty e : TypeId) (i : TypeInfo) (sz : Nat) (ht : P.underlying t = some (.slice e)) (hi : P.info? e = some i)
    (v : Value) (n : Nat) (xs : List Value) (hown : w.ownsRow base e sz v n xs) (c : Nat) : (Builtin.append_ #[t, t] ty #[v, .slice none 0 c]).run P w = .ok v w := by
  rcases hown.2 with ⟨rfl, rfl⟩ | ⟨g, cap, cur, rfl, _, _, hnc, _⟩
  · simp [Builtin.append_, run_underlying ht, sizeOf, typeInfo, hi, Builtin.lenOf, Builtin.firstCells]
  · simp [Builtin.append_, run_underlying ht, sizeOf, typeInfo, hi, Builtin.lenOf, Builtin.firstCells, hnc, storeCells]

theorem run_app (base : Nat) (t ty e : TypeId) (z : Value) (sz bytes : Nat) (ht : P.underlying t = some (.slice e))
    (hinf : (P.info? e).map (fun i => (i.zero, i.size, i.bytes)) = some (some z, sz, bytes)) (hzs : z.cells.size = sz) (hsz : 0 < sz) (hby : 0 < bytes)
    (v : Value) (n : Nat) (xs : List Value) (hown : w.ownsRow base e sz v n xs)
    (A : Option Addr) (m c : Nat) (news : List Value) (hr : Sl w sz A m news) (h1 : ∀ u ∈ news, u.oneCell' = true)
    (hbytes : (n + m) * bytes ≤ 140737488355328) (hbase : base ≤ w.heap.size) :
    ∃ v' w', (Builtin.append_ #[t, t] ty #[v, .slice A m c]).run P w = .ok v' w' ∧ w'.ownsRow base e sz v' (n + m) (xs ++ news) ∧ w.grownBy w' v.ownBlock ∧ SameOrNew w v v' := by
  obtain ⟨i, hi, hz, hs, hb⟩ := info_parts hinf
  have h63 : n + m ≤ maxLen := by
    have : (n + m) * 1 ≤ (n + m) * bytes := Nat.mul_le_mul_left _ hby
    simp only [maxLen]; omega
  rcases A with _ | ad
  · have hm : m = 0 := by
      rcases Nat.eq_zero_or_pos m with h0 | h0
      · exact h0
      · obtain ⟨ad, h, _⟩ := hr.2 h0
        cases h
    subst hm
    have hn : news = [] := List.eq_nil_of_length_eq_zero (by simpa using hr.1)
    subst hn
    exact ⟨v, w, run_app_nil base t ty e i sz ht hi v n xs hown c, by simpa using hown, ⟨rfl, rfl, rfl, Nat.le_refl _, fun _ _ _ => rfl⟩, SameOrNew.rfl _ _⟩
  · have hcells : ∀ j u, news[j]? = some u → w.cell? (ad.add j) = some u := by
      intro j u hu
      rcases Nat.eq_zero_or_pos m with h0 | h0
      · subst h0
        have hn : news = [] := List.eq_nil_of_length_eq_zero (by simpa using hr.1)
        subst hn
        simp at hu
      · obtain ⟨ad', h, _, hc⟩ := hr.2 h0
        injection h with h
        subst h
        exact hc j u hu
    obtain ⟨v', w', hrun, h2, h3, _, h5⟩ := run_append_own_at (P := P) w base t ty e i z sz bytes ht hi hz hs hb hzs hsz v n xs hown ad m c news hr.1 hcells h1 h63 hbytes hbase
    refine ⟨v', w', hrun, h2, h3, fun k hk => ?_⟩
    rcases h5 with h5 | h5
    · exact .inl (h5 ▸ hk)
    · rw [hk] at h5; injection h5 with h5; exact .inr (by omega)

section
variable {ops : Array Oper} {rest : List Oper} {o : Oper} {a : Act} {Q : Exit → Act → World → Prop} {K : Act → World → Prop}

theorem wp_app (s x : Operand) (t : TypeId)
    (ho : o.op = .call { callee := .builtin .append, args := #[s, x], argTypes := #[t, t] })
    (base : Nat) (e : TypeId) (z : Value) (sz bytes : Nat) (ht : P.underlying t = some (.slice e))
    (hinf : (P.info? e).map (fun i => (i.zero, i.size, i.bytes)) = some (some z, sz, bytes)) (hzs : z.cells.size = sz) (hsz : 0 < sz) (hby : 0 < bytes)
    (v : Value) (n : Nat) (xs : List Value) (hown : w.ownsRow base e sz v n xs) (hs : a.eval s = v)
    (A : Option Addr) (m c : Nat) (news : List Value) (hx : a.eval x = .slice A m c) (hr : Sl w sz A m news) (h1 : ∀ u ∈ news, u.oneCell' = true)
    (hbytes : (n + m) * bytes ≤ 140737488355328) (hbase : base ≤ w.heap.size)
    (h : ∀ v' w', w'.ownsRow base e sz v' (n + m) (xs ++ news) → w.grownBy w' v.ownBlock → SameOrNew w v v' → K (a.put o.dst v') w') : o.wp P a w K Q := by
  obtain ⟨v', w', hrun, h2, h3, h4⟩ := run_app (P := P) base t o.type e z sz bytes ht hinf hzs hsz hby v n xs hown A m c news hr h1 hbytes hbase
  unfold Oper.wp execOp
  simp only [ho, resolve, invoke, builtin, Sem.run_bind, Sem.run_pure, Result.andThen_ok, List.map_toArray, List.map_cons, List.map_nil, hs, hx, hrun]
  exact h v' w' h2 h3 h4

/-- append(v, xs...), xs from anywhere -/
theorem wpl_app (hgd : o.guard = none) (s x : Operand) (t : TypeId)
    (ho : o.op = .call { callee := .builtin .append, args := #[s, x], argTypes := #[t, t] })
    (base : Nat) (e : TypeId) (z : Value) (sz bytes : Nat) (ht : P.underlying t = some (.slice e))
    (hinf : (P.info? e).map (fun i => (i.zero, i.size, i.bytes)) = some (some z, sz, bytes)) (hzs : z.cells.size = sz) (hsz : 0 < sz) (hby : 0 < bytes)
    (v : Value) (n : Nat) (xs : List Value) (hown : w.ownsRow base e sz v n xs) (hs : a.eval s = v)
    (A : Option Addr) (m c : Nat) (news : List Value) (hx : a.eval x = .slice A m c) (hr : Sl w sz A m news) (h1 : ∀ u ∈ news, u.oneCell' = true)
    (hbytes : (n + m) * bytes ≤ 140737488355328) (hbase : base ≤ w.heap.size)
    (h : ∀ v' w', w'.ownsRow base e sz v' (n + m) (xs ++ news) → w.grownBy w' v.ownBlock → SameOrNew w v v' → wpList P ops Q rest (a.put o.dst v') w') : wpList P ops Q (o :: rest) a w :=
  wpList_plain hgd fun _ hK => wp_app s x t ho base e z sz bytes ht hinf hzs hsz hby v n xs hown hs A m c news hx hr h1 hbytes hbase fun v' w' h2 h3 h4 => hK _ _ (h v' w' h2 h3 h4)

/-- append, whatever it comes to -/
theorem wpl_appRun (hgd : o.guard = none) (s x : Operand) (t u : TypeId)
    (ho : o.op = .call { callee := .builtin .append, args := #[s, x], argTypes := #[t, u] }) {vs vx v' : Value} {w' : World}
    (hrun : (Builtin.append_ #[t, u] o.type #[vs, vx]).run P w = .ok v' w') (hs : a.eval s = vs) (hx : a.eval x = vx)
    (h : wpList P ops Q rest (a.put o.dst v') w') : wpList P ops Q (o :: rest) a w :=
  wpList_plain hgd fun _ hK => by
    unfold Oper.wp execOp
    simp only [ho, resolve, invoke, builtin, Sem.run_bind, Sem.run_pure, Result.andThen_ok, List.map_toArray, List.map_cons, List.map_nil, hs, hx, hrun]
    exact hK _ _ h

/-- append(v, u): the walk has laid u's cells in a block of their own, just now -/
theorem wpl_app1 (hgd : o.guard = none) (s x : Operand) (t : TypeId)
    (ho : o.op = .call { callee := .builtin .append, args := #[s, x], argTypes := #[t, t] })
    (base : Nat) (e : TypeId) (z : Value) (sz bytes : Nat) (ht : P.underlying t = some (.slice e))
    (hinf : (P.info? e).map (fun i => (i.zero, i.size, i.bytes)) = some (some z, sz, bytes)) (hzs : z.cells.size = sz) (hsz : 0 < sz) (hby : 0 < bytes)
    (v : Value) (n : Nat) (xs : List Value) (us : List Value) (hus : us.length = sz) (hown : w.ownsRow base e sz v n xs) (hs : a.eval s = v)
    (hx : a.eval x = .slice (some ⟨w.heap.size, 0, none⟩) 1 1) (h1 : ∀ u ∈ us, u.oneCell' = true)
    (hbytes : (n + 1) * bytes ≤ 140737488355328) (hbase : base ≤ w.heap.size)
    (h : ∀ v' w', w'.ownsRow base e sz v' (n + 1) (xs ++ us) → w.grownBy w' v.ownBlock → SameOrNew w v v' → wpList P ops Q rest (a.put o.dst v') w') : wpList P ops Q (o :: rest) a (w.alloc (.cells us.toArray e)) := by
  refine wpl_app hgd s x t ho base e z sz bytes ht hinf hzs hsz hby v n xs (hown.alloc _) hs (some ⟨w.heap.size, 0, none⟩) 1 1 us hx ?_ h1 hbytes (by simp; omega) ?_
  · refine ⟨by omega, fun _ => ⟨_, rfl, by simp, fun j u hu => ?_⟩⟩
    have : (⟨w.heap.size, 0, none⟩ : Addr).add j = ⟨w.heap.size, j, none⟩ := by unfold Addr.add; split <;> simp_all
    rw [this, World.cell?_alloc_at _ _ _ _ rfl]
    simpa using hu
  · intro v' w' h2 h3 h4
    refine h v' w' h2 ⟨h3.os, h3.tape, h3.output, ?_, fun k hk hne => ?_⟩ ?_
    · have := h3.size; simp at this; omega
    · rw [h3.block k (by simp; omega) hne]
      exact Below.heap_alloc _ _ _ hk
    · intro k hk
      rcases h4 k hk with h5 | h5
      · exact .inl h5
      · exact .inr (by simp at h5; omega)
end

/-- append(nil, make([]T, n)...) -/
theorem run_app_zeros (t u ty e : TypeId) (k : IntKind) (z : Value) (sz bytes : Nat) (ht : P.underlying t = some (.slice e)) (hu : P.underlying u = some (.int k))
    (hinf : (P.info? e).map (fun i => (i.zero, i.size, i.bytes)) = some (some z, sz, bytes)) (hzs : z.cells.size = sz) (hsz : 0 < sz) (hby : 0 < bytes)
    (n : Nat) (h0 : 0 < n) (hb : n * bytes ≤ 140737488355328) :
    ∃ w' cap, (Builtin.append_ #[t, u] ty #[.slice none 0 0, .int .i64 (n : Int)]).run P w = .ok (.slice (some ⟨w.heap.size, 0, none⟩) n cap) w' ∧ n ≤ cap ∧
      w'.ownsRow w.heap.size e sz (.slice (some ⟨w.heap.size, 0, none⟩) 0 cap) 0 [] ∧ Below w.heap.size w w' := by
  obtain ⟨i, hi, hz, rfl, rfl⟩ := info_parts hinf
  have h1 : n * 1 ≤ n * i.bytes := Nat.mul_le_mul_left _ hby
  have hn : n ≠ 0 := by omega
  have hw : IntKind.i64.wrap (n : Int) = n := by rw [IntKind.wrap_i64]; omega
  have h63' : ¬ (9223372036854775807 < (n : Int)) := by omega
  have h48' : ¬ (281474976710656 < Builtin.nextslicecap n 0 * i.bytes) := by rw [nextslicecap_zero h0]; omega
  have hneg : ¬ ((n : Int) < 0) := by omega
  have hbig : ¬ (281474976710656 < (n : Int) * i.bytes) := by
    have : ((n * i.bytes : Nat) : Int) ≤ 140737488355328 := by omega
    rw [Int.natCast_mul] at this; omega
  have hns : n * i.size ≠ 0 := by
    intro e
    rcases Nat.mul_eq_zero.1 e with e | e <;> omega
  have hge := grownCap_ge w n 0 e
  have hcm : grownCap w n 0 e ≤ maxLen := grownCap_le_maxLen w n 0 e (by simp only [maxLen]; omega)
  refine ⟨w.drew.alloc (.cells (Builtin.zeroCells z.cells n ++ Builtin.zeroCells z.cells (grownCap w n 0 e - n)) e), grownCap w n 0 e, ?_, hge, ?_, ?_⟩
  · simp [Builtin.append_, run_underlying ht, run_underlying hu, asInt, asIntOf, sizeOf, typeInfo, zeroValue, hi, hz, Builtin.lenOf, hn, hw, h63', h48', hneg, hbig, hns, Question.forced, run_firstCells_none, newRow, grownCap]
  · refine ⟨by simp, .inr ⟨w.heap.size, _, _, rfl, Nat.le_refl _, heap_alloc_new w.drew _, Nat.zero_le _, hcm, ?_, by simp⟩⟩
    simp only [Array.size_append, size_zeroCells, hzs, ← Nat.add_mul]
    congr 1
    omega
  · exact (Below.refl _ _).drew.alloc (Nat.le_refl _) _

/-- make([]T, n): a row of zeros -/
theorem run_make_zero (t e : TypeId) (z : Value) (sz bytes : Nat) (ht : P.underlying t = some (.slice e))
    (hinf : (P.info? e).map (fun i => (i.zero, i.size, i.bytes)) = some (some z, sz, bytes)) (kl kc : IntKind) (n : Nat) (hb : bytes * n ≤ 281474976710656) (h63 : n ≤ 9223372036854775807) (w : World) :
    (Instr.makeSlice t (.int kl (n : Int)) (.int kc (n : Int))).run P w = .ok (.slice (some ⟨w.heap.size, 0, none⟩) n n) (w.alloc (.cells (madeCells z.cells (n * sz)) e)) := by
  obtain ⟨i, hi, hz, rfl, rfl⟩ := info_parts hinf
  have hb' : (i.bytes : Int) * (n : Int) ≤ 281474976710656 := by
    have : ((i.bytes * n : Nat) : Int) ≤ 281474976710656 := by omega
    rwa [Int.natCast_mul] at this
  have hr := run_make (P := P) w t e i z ht hi hz kl kc n n (by omega) (by omega) hb' (by omega)
  simpa using hr

/-- 's[:i]' of a slice -/
theorem run_slice_hi (t e : TypeId) (z : Value) (sz bytes : Nat) (ht : P.underlying t = some (.slice e))
    (hinf : (P.info? e).map (fun i => (i.zero, i.size, i.bytes)) = some (some z, sz, bytes)) (A : Option Addr) (n c : Nat) (kd : IntKind) (i : Int) (h0 : 0 ≤ i) (h1 : i ≤ c) (w : World) :
    (Instr.slice t (.slice A n c) none (some (.int kd i)) none).run P w = .ok (.slice A i.toNat c) w := by
  obtain ⟨j, hi, -, rfl, -⟩ := info_parts hinf
  have hj : 0 ≤ i ∧ i ≤ (c : Int) := ⟨h0, h1⟩
  have ha : (if c = 0 then A else A.map (·.add (0 * j.size))) = A := by
    split
    · rfl
    · cases A with
      | none => rfl
      | some ad => simp [Addr.add]
  simp [Instr.slice, Instr.sliceBounds, Instr.sliceBound, asIntOf, run_underlying ht, sizeOf, typeInfo, hi, hj]
  simpa using ha

/-- 's[i:]' of a slice -/
theorem run_slice_lo (t e : TypeId) (z : Value) (sz bytes : Nat) (ht : P.underlying t = some (.slice e))
    (hinf : (P.info? e).map (fun i => (i.zero, i.size, i.bytes)) = some (some z, sz, bytes)) (A : Option Addr) (n c : Nat) (kd : IntKind) (i : Int) (h0 : 0 ≤ i) (h1 : i ≤ n) (w : World) :
    (Instr.slice t (.slice A n c) (some (.int kd i)) none none).run P w = .ok (.slice (if c = i.toNat then A else A.map (·.add (i.toNat * sz))) (n - i.toNat) (c - i.toNat)) w := by
  obtain ⟨j, hi, -, rfl, -⟩ := info_parts hinf
  have hj : 0 ≤ i ∧ i ≤ (n : Int) := ⟨h0, h1⟩
  simp [Instr.slice, Instr.sliceBounds, Instr.sliceBound, asIntOf, run_underlying ht, sizeOf, typeInfo, hi, hj]
end
end Go.As
end

section
/- Writing over lists of texts, and over programs. No conditions but those in each theorem. -/
namespace Go.Proofs.YtiacalnkmnckjaaGreatDoor
open Go.RowKit Go.As
set_option linter.unusedVariables false
set_option linter.unusedSimpArgs false

/-- as TK, each cell by its own measure -/
def TKp (F : Nat → Prop) (f : Nat → Nat → Nat) (w w' : World) : Prop :=
  ∀ k c e, F k → w.heap[k]? = some (.cells c e (0, 0)) → ∃ c' : Array Value, w'.heap[k]? = some (.cells c' e (0, 0)) ∧ c'.size = c.size ∧ ∀ (j : Nat) (v : Value), c[j]? = some v → ∃ v', c'[j]? = some v' ∧ KV (f k j) v v'
theorem TKp.of {F : Nat → Prop} {m : Nat} {w w' : World} (h : TK F m w w') : TKp F (fun _ _ => m) w w' := h
theorem TKp.to {F : Nat → Prop} {m : Nat} {f : Nat → Nat → Nat} {w w' : World} (h : TKp F f w w') (hm : ∀ k j, f k j ≤ m) : TK F m w w' :=
  fun k c e hF hk => let ⟨c', h1, h2, h3⟩ := h k c e hF hk; ⟨c', h1, h2, fun j v hv => let ⟨v', h4, h5⟩ := h3 j v hv; ⟨v', h4, h5.mono (hm k j)⟩⟩
theorem TKp.mono {F : Nat → Prop} {f g : Nat → Nat → Nat} {w w' : World} (h : TKp F f w w') (hm : ∀ k j, f k j ≤ g k j) : TKp F g w w' :=
  fun k c e hF hk => let ⟨c', h1, h2, h3⟩ := h k c e hF hk; ⟨c', h1, h2, fun j v hv => let ⟨v', h4, h5⟩ := h3 j v hv; ⟨v', h4, h5.mono (hm k j)⟩⟩
theorem TKp.trans {F : Nat → Prop} {f g : Nat → Nat → Nat} {w w1 w2 : World} (h : TKp F f w w1) (h' : TKp F g w1 w2) : TKp F (fun k j => f k j + g k j) w w2 := by
  intro k c e hF hk
  obtain ⟨c1, h1, h2, h3⟩ := h k c e hF hk
  obtain ⟨c2, h4, h5, h6⟩ := h' k c1 e hF h1
  refine ⟨c2, h4, by omega, fun j v hv => ?_⟩
  obtain ⟨v1, h7, h8⟩ := h3 j v hv
  obtain ⟨v2, h9, h10⟩ := h6 j v1 h7
  exact ⟨v2, h9, h8.trans h10⟩
theorem TKp.soft {F : Nat → Prop} {f : Nat → Nat → Nat} {w w' : World} (h : TKp F f w w') (hF : ∀ k, F k → Soft w k) : ∀ k, F k → Soft w' k := fun k hk => by
  obtain ⟨c, e, hc⟩ := hF k hk
  obtain ⟨c', h1, _⟩ := h k c e hk hc
  exact ⟨c', e, h1⟩
theorem storeP {F : Nat → Prop} {m : Nat} {w : World} {b o : Nat} {c : Array Value} {e : TypeId} (hF : F b) (hb : w.heap[b]? = some (.cells c e (0, 0))) {old v : Value} (ho : c[o]? = some old) (hv : KV m old v) :
    TKp F (fun k j => if k = b ∧ j = o then m else 0) w (w.setRow b (c.toList.take o ++ [v] ++ c.toList.drop (o + 1)).toArray) := by
  have hlt := (Array.getElem?_eq_some_iff.1 ho).1
  have hcl : c.toList.length = c.size := Array.length_toList
  intro k c1 e1 hFk hk
  by_cases hkb : k = b
  · subst hkb
    rw [hb] at hk
    injection hk with hk
    injection hk with h1 h2
    subst h1 h2
    refine ⟨_, setRow_heap _ _ _ _ _ _ hb, ?_, fun j x hx => ?_⟩
    · simp only [List.size_toArray, List.length_append, List.length_take, List.length_drop, List.length_cons, List.length_nil]
      omega
    · have hj := (Array.getElem?_eq_some_iff.1 hx).1
      simp only [List.getElem?_toArray]
      by_cases hjo : j = o
      · subst hjo
        rw [ho] at hx
        injection hx with hx
        subst hx
        refine ⟨v, ?_, by simpa using hv⟩
        rw [List.append_assoc, List.getElem?_append_right (by rw [List.length_take]; omega)]
        simp [List.length_take, Nat.min_eq_left (Nat.le_of_lt hlt)]
      · refine ⟨x, ?_, .inl rfl⟩
        rcases Nat.lt_or_ge j o with h | h
        · rw [List.append_assoc, List.getElem?_append_left (by rw [List.length_take]; omega), List.getElem?_take, if_pos h]
          simpa using hx
        · rw [List.getElem?_append_right (by simp only [List.length_append, List.length_take, List.length_cons, List.length_nil]; omega), List.getElem?_drop]
          simp only [List.length_append, List.length_take, List.length_cons, List.length_nil]
          rw [show o + 1 + (j - (min o c.toList.length + (0 + 1))) = j by omega]
          simpa using hx
  · exact ⟨c1, by rw [setRow_other _ _ _ _ hkb]; exact hk, rfl, fun j x hx => ⟨x, hx, .inl rfl⟩⟩
theorem st_ptP {P : Program} {F : Nat → Prop} {w : World} {b o sz : Nat} {xs : List Value} {ty : TypeId} (hF : ∀ k, F k → Soft w k) (h : Sy.SlAt F w (some ⟨b, o, none⟩) 1 sz xs) (hz : Sy.szB P ty = some 1) (j : Nat) {old v : Value} (hv : xs[j]? = some old) (hvc : v.cells = #[v]) (hv1 : v.oneCell' = true) {m : Nat} (hkv : KV m old v) {W : World} (hk : Sy.Keep F w W) :
    ∃ w', (Instr.storeAt ty (.pointer (some ⟨b, o + j, none⟩)) v).run P W = .ok () w' ∧ TKp F (fun k i => if k = b ∧ i = o + j then m else 0) W w' ∧ Sy.Keep (fun k => k < W.heap.size ∧ ¬ F k) W w' := by
  rcases (h.keep hk).place with h0 | ⟨_, h1, h2⟩
  · cases h0
  have h1 : F b := h1
  obtain ⟨c, e, hc⟩ := (hF b h1).keep hk h1
  have h3 := h2 j old hv
  simp only [Sy.gB, Sy.oB, World.cell?] at h3
  rw [hc] at h3
  have h4 : c[o + j]? = some old := by simpa using h3
  have hsk := SK.store (w := W) h1 hc h4 hkv
  exact ⟨_, store_soft hz hc (Array.getElem?_eq_some_iff.1 h4).1 hvc hv1, storeP h1 hc h4 hkv, hsk.keep⟩
/-- where a slice's cells are now, each by its own measure -/
theorem SlAt_turnP {F : Nat → Prop} {f : Nat → Nat → Nat} {w w' : World} {a : Option Addr} {n sz : Nat} {xs : List Value} (hF : ∀ k, F k → Soft w k) (h : Sy.SlAt F w a n sz xs) (hk : TKp F f w w') {j : Nat} {v : Value} (hv : xs[j]? = some v) :
    ∃ v', KV (f (Sy.gB a) (Sy.oB a + j)) v v' ∧ Sy.SlAt F w' (some ⟨Sy.gB a, Sy.oB a + j, none⟩) 1 1 [v'] := by
  have hj := (List.getElem?_eq_some_iff.1 hv).1
  rcases h.place with h0 | ⟨ha, hFa, hc⟩
  · have := h.len
    rw [h0, Nat.zero_mul] at this
    omega
  · obtain ⟨c, e, hce⟩ := hF _ hFa
    obtain ⟨c', h1, h2, h3⟩ := hk _ c e hFa hce
    have h4 := hc j v hv
    simp only [World.cell?] at h4
    rw [hce] at h4
    obtain ⟨v', h5, h6⟩ := h3 _ v (by simpa using h4)
    refine ⟨v', h6, rfl, .inr ⟨rfl, hFa, fun i x hx => ?_⟩⟩
    cases i with
    | zero =>
      simp only [List.getElem?_cons_zero, Option.some.injEq] at hx
      subst hx
      show w'.cell? ⟨Sy.gB a, Sy.oB a + j + 0, none⟩ = _
      simp only [World.cell?]
      rw [h1]
      simpa using h5
    | succ i => simp at hx
open Go.Sy in
set_option maxRecDepth 100000 in
theorem overTexts_any (a : Option Addr) (n cap : Nat) (xs : List Value) (M : Nat) (F : Nat → Prop) (w : World) (hcm : cap ≤ maxLen) (hM : M ≤ 1000000000000) (hF : ∀ k, F k → Soft w k) (hsl : SlAt F w a cap 1 xs) (hks : ∀ v ∈ xs, ∃ s : ByteArray, v = .string s ∧ s.size ≤ M) :
    Calls Tryz.prog 81 #[.slice a n cap] w fun r w' => r = .returned (.tuple #[]) ∧ SK F 1 w w' := by
  unfold maxLen at hcm
  have hFw : ∀ k, F k → k < w.heap.size := fun k hk => let ⟨c, e, h⟩ := hF k hk; (Array.getElem?_eq_some_iff.1 h).1
  refine Sy.enter (vs := [.slice a n cap]) sy_fine Tryz.func81 rfl (fun γ => norms_LR _) rfl (fun γ0 hγ0 => ?_)
  refine run_ok (sy_cx _ _) 0 [7] 60 0 ?_
  refine good_val (.slice a cap cap) (S := Instr.sliceAt 23 (.slice a n cap) none (some (.int .i64 (cap : Int))) none) (by kernel_rfl) (fun W _ => by
    rw [run_sliceAt_slice _ _ _ _ _ _ Tryz.underlying23]
    have := run_slice_hi (P := Tryz.prog) 23 9 (.string ⟨#[]⟩) 1 16 Tryz.underlying23 (by kernel_rfl) a n cap .i64 (cap : Int) (by omega) (by omega) W
    simpa using this) ?_
  refine run_ok (sy_cx _ _) 0 [] 60 0 ?_
  refine good_toLp ?_
  obtain ⟨fI, hfI⟩ : ∃ fI : Nat → Nat → Nat → Nat, fI = fun i k j => if k = gB a ∧ oB a ≤ j ∧ j < oB a + i then 1 else 0 := ⟨_, rfl⟩
  refine good_loopB (fun i : Nat => cap - i) (fun i B w1 => i ≤ cap ∧ Sy.Keep (fun k => k < w.heap.size ∧ ¬ F k) w w1 ∧ TKp F (fI i) w w1 ∧ (∀ k, k < w.heap.size → B k) ∧ ∀ k, B k → k < w1.heap.size) (fun i => ⟨mkT [(2, .v (.slice a cap cap)), (3, .v (.int .i64 (i : Int)))], mkH [], gz, []⟩)
    0 ⟨Nat.zero_le _, Keep.refl _ _, (TKp.of (SK.refl F w).turn).mono (fun _ _ => Nat.zero_le _), fun k h => h, fun k h => h⟩ (by kernel_rfl)
    (fun h => good_sub _ [(2, .v (.slice a cap cap)), (3, .v (.int .i64 ((0 : Nat) : Int)))] [] gz rfl (by kernel_rfl) (by kernel_rfl) (by kernel_rfl) (by kernel_rfl) (by kernel_rfl) hγ0 (by kernel_rfl) h) ?_
  rintro i B1 w1 ⟨hic, hk1, ht1, hB0, hB1⟩ ih
  have hFB : ∀ k, F k → B1 k := fun k hk => hB0 k (hFw k hk)
  refine run_ok (sy_cx _ _) 0 [] 60 0 ?_
  rcases Nat.lt_or_ge i cap with hlt | hge
  · refine good_take true (b := intLt (i : Int) (cap : Int)) (by kernel_rfl) (lt_t (by omega)) ?_
    refine run_ok (sy_cx _ _) 0 [] 60 0 ?_
    have hxl : xs.length = cap := by have := hsl.len; omega
    obtain ⟨v, hv⟩ : ∃ v, xs[i]? = some v := ⟨_, List.getElem?_eq_getElem (by omega)⟩
    obtain ⟨s, rfl, hs⟩ := hks v (List.mem_of_getElem? hv)
    obtain ⟨v', hkv, hpt⟩ := SlAt_turnP hF hsl ht1 hv
    have h0 : fI i (gB a) (oB a + i) = 0 := by rw [hfI]; simp
    rw [h0] at hkv
    obtain ⟨s1, rfl, hs1⟩ := hkv.str
    have hix := fun W : World => idx_sl (P := Tryz.prog) (t := 23) (e := 9) (cap := cap) hsl (by kernel_rfl) (by kernel_rfl) hlt W
    have hsz33 : (⟨#[33]⟩ : ByteArray).size = 1 := rfl
    refine good_val (.pointer (some ⟨gB a, oB a + i * 1, none⟩)) (S := Instr.indexAt 23 (.slice a cap cap) (.int .i64 (i : Int))) (by kernel_rfl) (fun W _ => hix W) ?_
    refine run_ok (sy_cx _ _) 0 [20] 60 0 ?_
    rw [Nat.mul_one]
    refine good_val (.string s1) (S := Instr.loadAt 9 (.pointer (some ⟨gB a, oB a + i + 0, none⟩))) (by kernel_rfl) (fun W hk => ld_pt hpt (by kernel_rfl) 0 rfl (hk.mono hFB)) ?_
    refine good_val (.string (s1 ++ ⟨#[33]⟩)) (S := (do eqGuard .add 9 (.tmp 19) (.const (.string ⟨#[33]⟩)) (.string s1) (.string ⟨#[33]⟩); binOp .add 9 (.string s1) (.string ⟨#[33]⟩))) (by kernel_rfl) (fun W _ => cat_ba _ _ _ _ (by rw [hsz33]; omega) W) ?_
    refine run_ok (sy_cx _ _) 0 [] 60 0 ?_
    refine good_val (.pointer (some ⟨gB a, oB a + i * 1, none⟩)) (S := Instr.indexAt 23 (.slice a cap cap) (.int .i64 (i : Int))) (by kernel_rfl) (fun W _ => hix W) ?_
    refine run_ok (sy_cx _ _) 0 [] 60 0 ?_
    rw [Nat.mul_one]
    refine good_storeW 9 (.pointer (some ⟨gB a, oB a + i + 0, none⟩)) (.string (s1 ++ ⟨#[33]⟩)) F (Pr := fun w w' => TKp F (fun k j => if k = gB a ∧ j = oB a + i + 0 then 1 else 0) w w') (by kernel_rfl) (by kernel_rfl) hFB
      (fun W hk => st_ptP (ht1.soft hF) hpt (by kernel_rfl) 0 rfl rfl rfl (.inr (.inr (.inr ⟨_, _, rfl, rfl, by rw [ByteArray.size_append, hsz33]; omega⟩))) (hk.mono hFB)) ?_
    intro W w2 B2 hk ht2 _ hk2 hB12 hB2
    refine run_ok (sy_cx _ _) 0 [] 60 0 ?_
    refine good_set 3 (x := .int .i64 (wrapF .i64 ((i : Int) + 1))) (.int .i64 ((i + 1 : Nat) : Int)) (by kernel_rfl) (by rw [wr64 (by omega) (by omega)]; congr 1) ?_
    refine good_sub _ [(2, .v (.slice a cap cap)), (3, .v (.int .i64 ((i + 1 : Nat) : Int)))] [] gz (by kernel_rfl) (by kernel_rfl) (by kernel_rfl) (by kernel_rfl) (by kernel_rfl) (by kernel_rfl) hγ0 (by kernel_rfl)
      (ih (i + 1) B2 w2 ⟨by omega, hk1.trans (hk2.mono fun k h => ⟨hB0 k h.1, h.2⟩), ?_, fun k h => hB12 k (hB0 k h), hB2⟩ (by show cap - (i + 1) < cap - i; omega))
    refine ((ht1.trans (TKp.of (TK.of_keep hk hFB))).trans ht2).mono (fun k j => ?_)
    rw [hfI]
    simp only [Nat.add_zero]
    repeat' split
    all_goals omega
  · refine good_take false (b := intLt (i : Int) (cap : Int)) (by kernel_rfl) (lt_f (by omega)) ?_
    refine run_ok (sy_cx _ _) 0 [] 60 0 ?_
    refine good_endV (.tuple #[]) (by kernel_rfl) (fun W hk => ⟨rfl, hk1.trans (hk.mono fun k h => hB0 k h.1), ?_⟩)
    refine (ht1.trans (TKp.of (TK.of_keep hk hFB))).to (fun k j => ?_)
    rw [hfI]
    simp only [Nat.add_zero]
    split <;> omega
end Go.Proofs.YtiacalnkmnckjaaGreatDoor
end

section
/- Writing over programs. No conditions but those in each theorem. -/
namespace Go.Proofs.YtiacalnkmnckjaaGreatDoor
open Go.RowKit Go.As
set_option linter.unusedVariables false
set_option linter.unusedSimpArgs false

/-- weak variables, weak texts, weak threads -/
def WVr (_ : Vr) (cs : List Value) : Prop := ∃ s : ByteArray, ∃ ty bits, cs = [.string s, .int .u8 ty, .int .u64 bits]
theorem WVr.len {v : Vr} {cs : List Value} (h : WVr v cs) : cs.length = 3 := by obtain ⟨_, _, _, rfl⟩ := h; rfl
theorem LsAt_turn {α : Type} {A A' : α → List Value → Prop} {m : Nat} (h : ∀ e c c', A e c → KVs m c c' → A' e c') : ∀ {l : List α} {xs xs' : List Value}, LsAt A l xs → KVs m xs xs' → LsAt A' l xs'
  | [], xs, xs', hx, hv => by
    obtain rfl : xs = [] := hx
    exact hv.nil
  | e :: l, xs, xs', ⟨c, r, h1, h2, h3⟩, hv => by
    subst h1
    obtain ⟨c', r', rfl, k1, k2⟩ := hv.app
    exact ⟨c', r', rfl, h _ _ _ h2 k1, LsAt_turn h h3 k2⟩
theorem WVr_turn {m : Nat} (v : Vr) (cs cs' : List Value) (h : WVr v cs) (hv : KVs m cs cs') : WVr v cs' := by
  obtain ⟨s, ty, bits, rfl⟩ := h
  obtain ⟨v1, r1, rfl, k1, hv⟩ := hv.cons
  obtain ⟨v2, r2, rfl, k2, hv⟩ := hv.cons
  obtain ⟨v3, r3, rfl, k3, hv⟩ := hv.cons
  obtain rfl := hv.nil
  obtain ⟨t, rfl, _⟩ := k1.str
  obtain ⟨ty', rfl⟩ := k2.u8
  obtain rfl := k3.u64
  exact ⟨_, _, _, rfl⟩
def WTh (F : Nat → Prop) (w : World) (M : Nat) (t : Th) (cs : List Value) : Prop :=
  ∃ s : ByteArray, ∃ a cap xs b cap2 ys, cs = [.string s, .slice a t.locals.length cap, .slice b t.body.length cap2] ∧ Sy.SlAt F w a t.locals.length 3 xs ∧ LsAt WVr t.locals xs ∧ Sy.SlAt F w b t.body.length 9 ys ∧ WSts F w M t.body ys
theorem WTh.len {F : Nat → Prop} {w : World} {M : Nat} {t : Th} {cs : List Value} (h : WTh F w M t cs) : cs.length = 3 := by obtain ⟨_, _, _, _, _, _, _, rfl, _⟩ := h; rfl
theorem WTh_turn {F : Nat → Prop} {m M : Nat} {w w' : World} (hF : ∀ k, F k → Soft w k) (hk : TK F m w w') (t : Th) (cs cs' : List Value) (h : WTh F w M t cs) (hv : KVs m cs cs') : WTh F w' (M + m) t cs' := by
  obtain ⟨s, a, cap, xs, b, cap2, ys, rfl, h1, h2, h3, h4⟩ := h
  obtain ⟨v1, r1, rfl, k1, hv⟩ := hv.cons
  obtain ⟨v2, r2, rfl, k2, hv⟩ := hv.cons
  obtain ⟨v3, r3, rfl, k3, hv⟩ := hv.cons
  obtain rfl := hv.nil
  obtain ⟨t', rfl, _⟩ := k1.str
  obtain rfl := k2.sl
  obtain rfl := k3.sl
  obtain ⟨xs', g1, g2⟩ := SlAt_turn hF h1 hk
  obtain ⟨ys', g3, g4⟩ := SlAt_turn hF h3 hk
  exact ⟨t', a, cap, xs', b, cap2, ys', rfl, g1, LsAt_turn WVr_turn h2 g2, g3, WSts_turn hF hk h4 g4⟩
theorem over_size : (⟨#[111, 118, 101, 114]⟩ : ByteArray).size = 4 := rfl
/-- "over" where a text was -/
theorem kv_over (s : ByteArray) : KV 4 (.string s) (.string ⟨#[111, 118, 101, 114]⟩) := .inr (.inr (.inr ⟨_, _, rfl, rfl, by rw [over_size]; omega⟩))
/-- how much longer a text of a thread may get -/
def ovT (t : Th) : Nat := swts t.body + 4 * t.locals.length + 4
def ovTs : List Th → Nat
  | [] => 0
  | t :: l => ovT t + ovTs l
theorem ovTs_app : ∀ (l r : List Th), ovTs (l ++ r) = ovTs l + ovTs r
  | [], r => by simp [ovTs]
  | e :: l, r => by
    rw [List.cons_append]
    simp only [ovTs]
    rw [ovTs_app l r]
    omega
theorem ovTs_le : ∀ (l : List Th), ovTs l ≤ 4 * thws l
  | [] => Nat.le_refl _
  | t :: l => by
    have := ovTs_le l
    simp only [ovTs, thws, ovT, thw]
    omega
open Go.Sy in
set_option maxRecDepth 100000 in
theorem overProgram_any (p : Pg) (a : Option Addr) (cap : Nat) (xs : List Value) (b : Option Addr) (cap2 : Nat) (ys : List Value) (d : Option Addr) (cap3 : Nat) (zs : List Value) (M : Nat) (F : Nat → Prop) (w : World) (hcm : cap2 ≤ maxLen)
    (hbd0 : M + 4 * pwt p + 1 ≤ 1000000000000) (hF : ∀ k, F k → Soft w k) (hxs : SlAt F w a p.shared.length 3 xs) (hxt : LsAt WVr p.shared xs) (hys : SlAt F w b cap2 1 ys) (hyt : ∀ v ∈ ys, ∃ s : ByteArray, v = .string s ∧ s.size ≤ M) (hzs : SlAt F w d p.threads.length 3 zs) (hzt : LsAt (WTh F w M) p.threads zs) :
    Calls Tryz.prog 33 #[.agg #[.slice a p.shared.length cap, .slice b p.mutexes.length cap2, .slice d p.threads.length cap3]] w fun r w' => r = .returned (.tuple #[]) ∧ SK F (4 * p.shared.length + 1 + ovTs p.threads) w w' := by
  have hFw : ∀ k, F k → k < w.heap.size := fun k hk => let ⟨c, e, h⟩ := hF k hk; (Array.getElem?_eq_some_iff.1 h).1
  have hbd1 : M + 4 * p.shared.length + 1 + 4 * thws p.threads ≤ 1000000000000 := by unfold pwt at hbd0; omega
  have hov := ovTs_le p.threads
  have hthl := thws_len p.threads
  obtain ⟨na, hna⟩ : ∃ n, n = p.shared.length := ⟨_, rfl⟩
  obtain ⟨nd, hnd⟩ : ∃ n, n = p.threads.length := ⟨_, rfl⟩
  obtain ⟨nm, hnm⟩ : ∃ n, n = p.mutexes.length := ⟨_, rfl⟩
  rw [← hna] at hxs hbd1 ⊢
  rw [← hnd] at hzs hthl ⊢
  rw [← hnm]
  refine Sy.enter (vs := [.agg #[.slice a na cap, .slice b nm cap2, .slice d nd cap3]]) sy_fine Tryz.func33 rfl (fun γ => norms_LR _) rfl (fun γ0 hγ0 => ?_)
  refine run_ok (sy_cx _ _) 0 [] 60 0 ?_
  refine good_toLp ?_
  refine good_loopB (fun i : Nat => na - i) (fun i B w1 => i ≤ na ∧ OInv F w (4 * i) B w1) (fun i => ⟨mkT [(1, .ptr gz 0), (2, .v (.int .i64 (i : Int)))], mkH [(gz, some (.cells 26 true true true 3 (putL .leaf 0 [.v (.slice a na cap), .v (.slice b nm cap2), .v (.slice d nd cap3)])))], gz + 1, []⟩)
    0 ⟨Nat.zero_le _, OInv.refl⟩ (by kernel_rfl)
    (fun h => good_sub _ [(1, .ptr gz 0), (2, .v (.int .i64 ((0 : Nat) : Int)))] [(gz, some (.cells 26 true true true 3 (putL .leaf 0 [.v (.slice a na cap), .v (.slice b nm cap2), .v (.slice d nd cap3)])))] (gz + 1) rfl (by kernel_rfl) (by kernel_rfl) (by kernel_rfl) (by kernel_rfl) (by kernel_rfl) (fun b hb => hγ0 b (Nat.le_trans (Nat.le_succ _) hb)) (by kernel_rfl) h) ?_
  rintro i B1 w1 ⟨hic, hO⟩ ih
  have hFB : ∀ k, F k → B1 k := fun k hk => hO.2.2.1 k (hFw k hk)
  refine run_ok (sy_cx _ _) 0 [] 60 0 ?_
  rcases Nat.lt_or_ge i na with hlt | hge
  · obtain ⟨xs1, hsl1, hkv1⟩ := SlAt_turn hF hxs hO.2.1
    obtain ⟨l1, x, l3, hl, rfl⟩ := ls_split p.shared i (by omega)
    have hls := LsAt_turn WVr_turn hxt hkv1
    rw [hl] at hls
    obtain ⟨c, ⟨s1, ty1, bits1, rfl⟩, hcell⟩ := LsAt.at_ (k := 3) (fun _ _ h => h.len) hls
    have hpt := slAt_part hsl1 (by omega) (k := 3) rfl hcell
    have hix := fun W : World => idx_sl (P := Tryz.prog) (t := 22) (e := 67) (cap := cap) hsl1 (by kernel_rfl) (by kernel_rfl) hlt W
    refine good_take true (b := intLt (l1.length : Int) (na : Int)) (by kernel_rfl) (lt_t (by omega)) ?_
    refine run_ok (sy_cx _ _) 0 [] 60 0 ?_
    refine good_val (.pointer (some ⟨gB a, oB a + l1.length * 3, none⟩)) (S := Instr.indexAt 22 (.slice a na cap) (.int .i64 (l1.length : Int))) (by kernel_rfl) (fun W _ => hix W) ?_
    refine run_ok (sy_cx _ _) 0 [] 60 0 ?_
    refine good_storeW 9 (.pointer (some ⟨gB a, oB a + l1.length * 3 + 0, none⟩)) (.string ⟨#[111, 118, 101, 114]⟩) F (Pr := fun w w' => TK F 4 w w') (by kernel_rfl) (by kernel_rfl) hFB
      (fun W hk => st_pt (hO.2.1.soft hF) hpt (by kernel_rfl) 0 rfl rfl rfl (kv_over _) (hk.mono hFB)) ?_
    intro W w2 B2 hk ht2 _ hk2 hB12 hB2
    refine run_ok (sy_cx _ _) 0 [] 60 0 ?_
    refine good_set 2 (x := .int .i64 (wrapF .i64 ((l1.length : Int) + 1))) (.int .i64 ((l1.length + 1 : Nat) : Int)) (by kernel_rfl) (by rw [wr64 (by omega) (by omega)]; congr 1) ?_
    exact good_sub _ [(1, .ptr gz 0), (2, .v (.int .i64 ((l1.length + 1 : Nat) : Int)))] [(gz, some (.cells 26 true true true 3 (putL .leaf 0 [.v (.slice a na cap), .v (.slice b nm cap2), .v (.slice d nd cap3)])))] (gz + 1) (by kernel_rfl) (by kernel_rfl) (by kernel_rfl) (by kernel_rfl) (by kernel_rfl) (by kernel_rfl) (fun b hb => hγ0 b (Nat.le_trans (Nat.le_succ _) hb)) (by kernel_rfl)
      (ih (l1.length + 1) B2 w2 ⟨by omega, hO.step hFw hk ht2 hk2 hB12 hB2⟩ (by show na - (l1.length + 1) < na - l1.length; omega))
  obtain rfl : i = na := by omega
  refine good_take false (b := intLt (i : Int) (i : Int)) (by kernel_rfl) (lt_f (by omega)) ?_
  clear ih
  refine run_ok (sy_cx _ _) 0 [] 60 0 ?_
  obtain ⟨ys1, hys1, hkys⟩ := SlAt_turn hF hys hO.2.1
  have hyt1 : ∀ v ∈ ys1, ∃ s : ByteArray, v = .string s ∧ s.size ≤ M + 4 * i := fun v hv => by
    obtain ⟨j, hj⟩ := List.getElem?_of_mem hv
    have hjl := (List.getElem?_eq_some_iff.1 hj).1
    rw [hkys.1] at hjl
    obtain ⟨v', h1, h2⟩ := hkys.2 j ys[j] (List.getElem?_eq_getElem hjl)
    rw [hj] at h1
    injection h1 with h1
    subst h1
    obtain ⟨s, h3, h4⟩ := hyt _ (List.getElem_mem hjl)
    rw [h3] at h2
    obtain ⟨t, rfl, h5⟩ := h2.str
    exact ⟨t, rfl, by omega⟩
  refine good_callW (sy_cx _ _) [.slice b nm cap2] F (Pr := fun w r w' => r = .tuple #[] ∧ TK F 1 w w') (by kernel_rfl) (by kernel_rfl) (by kernel_rfl) (by kernel_rfl) hFB
    (fun W hk => (overTexts_any b nm cap2 ys1 (M + 4 * i) F W hcm (by omega) ((TK.of_keep hk hFB).soft (hO.2.1.soft hF)) (hys1.keep (hk.mono hFB)) hyt1).mono fun r w' ⟨h1, h2⟩ => ⟨_, h1, ⟨rfl, h2.turn⟩, h2.keep⟩) ?_
  rintro W r w2 B2 hk ⟨rfl, ht⟩ _ hk2 hB12 _ hB2
  have hO2 := hO.step hFw hk ht hk2 hB12 hB2
  refine run_ok (sy_cx _ _) 0 [] 60 0 ?_
  refine good_toLp ?_
  refine good_loopB (fun j : List Th × List Th => j.2.length) (fun j B w1 => p.threads = j.1 ++ j.2 ∧ OInv F w (4 * i + 1 + ovTs j.1) B w1) (fun j => ⟨mkT [(1, .ptr gz 0), (3, .v (.int .i64 (j.1.length : Int)))], mkH [(gz, some (.cells 26 true true true 3 (putL .leaf 0 [.v (.slice a i cap), .v (.slice b nm cap2), .v (.slice d nd cap3)])))], gz + 1, []⟩)
    ([], p.threads) ⟨rfl, by simpa [ovTs] using hO2⟩ (by kernel_rfl)
    (fun h => good_sub _ [(1, .ptr gz 0), (3, .v (.int .i64 (([] : List Th).length : Int)))] [(gz, some (.cells 26 true true true 3 (putL .leaf 0 [.v (.slice a i cap), .v (.slice b nm cap2), .v (.slice d nd cap3)])))] (gz + 1) rfl (by kernel_rfl) (by kernel_rfl) (by kernel_rfl) (by kernel_rfl) (by kernel_rfl) (fun b hb => hγ0 b (Nat.le_trans (Nat.le_succ _) hb)) (by kernel_rfl) h) ?_
  clear hO hO2 hk ht hk2 hB12 hB2 hFB hyt1 hkys hys1
  rintro ⟨l1, l2⟩ B1 w1 ⟨hI, hO⟩ ih
  have hI : p.threads = l1 ++ l2 := hI
  have hO : OInv F w (4 * i + 1 + ovTs l1) B1 w1 := hO
  have hn2 : nd = l1.length + l2.length := by rw [hnd, hI, List.length_append]
  have hw1 : ovTs p.threads = ovTs l1 + ovTs l2 := by rw [hI, ovTs_app]
  have hFB : ∀ k, F k → B1 k := fun k hk => hO.2.2.1 k (hFw k hk)
  refine run_ok (sy_cx _ _) 0 [] 60 0 ?_
  cases l2 with
  | nil =>
    have hw2 : ovTs p.threads = ovTs l1 := by rw [hw1]; simp [ovTs]
    refine good_take false (b := intLt (l1.length : Int) (nd : Int)) (by kernel_rfl) (lt_f (by simp at hn2; omega)) ?_
    refine run_ok (sy_cx _ _) 0 [] 60 0 ?_
    refine good_endV (.tuple #[]) (by kernel_rfl) (fun W hk => ⟨rfl, ?_⟩)
    rw [hw2]
    exact hO.fin hFw hk
  | cons t l3 =>
    have hin : l1.length < nd := by rw [hn2, List.length_cons]; omega
    have hs1 : ovTs (l1 ++ [t]) = ovTs l1 + ovT t := by rw [ovTs_app]; simp [ovTs]
    simp only [ovTs] at hw1
    have hot : ovT t = swts t.body + 4 * t.locals.length + 4 := rfl
    have hitem : ∀ m w1, TK F m w w1 → ∃ s : ByteArray, ∃ a1 cap1 us b1 cap4 vs, SlAt F w1 (some ⟨gB d, oB d + l1.length * 3, none⟩) 1 3 [.string s, .slice a1 t.locals.length cap1, .slice b1 t.body.length cap4] ∧ SlAt F w1 a1 t.locals.length 3 us ∧ LsAt WVr t.locals us ∧ SlAt F w1 b1 t.body.length 9 vs ∧ WSts F w1 (M + m) t.body vs ∧ ∀ W, (Instr.indexAt 24 (.slice d nd cap3) (.int .i64 (l1.length : Int))).run Tryz.prog W = .ok (.pointer (some ⟨gB d, oB d + l1.length * 3, none⟩)) W := by
      intro m w1 ht
      obtain ⟨zs1, h1, h2⟩ := SlAt_turn hF hzs ht
      have h3 := LsAt_turn (WTh_turn hF ht) hzt h2
      rw [hI] at h3
      obtain ⟨c, hc, hcell⟩ := LsAt.at_ (k := 3) (fun _ _ h => h.len) h3
      have hp := slAt_part h1 (by omega) hc.len hcell
      obtain ⟨s, a1, cap1, us, b1, cap4, vs, rfl, k1, k2, k3, k4⟩ := hc
      exact ⟨s, a1, cap1, us, b1, cap4, vs, hp, k1, k2, k3, k4, fun W => idx_sl (e := 58) h1 (by kernel_rfl) (by kernel_rfl) hin W⟩
    obtain ⟨s, a1, cap1, us, b1, cap4, vs, hpt, hu1, hu2, hv1, hv2, hix⟩ := hitem _ w1 hO.2.1
    refine good_take true (b := intLt (l1.length : Int) (nd : Int)) (by kernel_rfl) (lt_t (by omega)) ?_
    refine run_ok (sy_cx _ _) 0 [] 60 0 ?_
    refine good_val (.pointer (some ⟨gB d, oB d + l1.length * 3, none⟩)) (S := Instr.indexAt 24 (.slice d nd cap3) (.int .i64 (l1.length : Int))) (by kernel_rfl) (fun W _ => hix W) ?_
    refine run_ok (sy_cx _ _) 0 [] 60 0 ?_
    refine good_val (.slice b1 t.body.length cap4) (S := Instr.loadAt 54 (.pointer (some ⟨gB d, oB d + l1.length * 3 + 2, none⟩))) (by kernel_rfl) (fun W hk => ld_pt hpt (by kernel_rfl) 2 rfl (hk.mono hFB)) ?_
    refine run_ok (sy_cx _ _) 0 [] 60 0 ?_
    refine good_callW (sy_cx _ _) [.slice b1 t.body.length cap4] F (Pr := fun w r w' => r = .tuple #[] ∧ TK F (swts t.body) w w') (by kernel_rfl) (by kernel_rfl) (by kernel_rfl) (by kernel_rfl) hFB
      (fun W hk => (overStmts_any _ t.body _ _ _ vs (M + (4 * i + 1 + ovTs l1)) F W rfl (Nat.lt_succ_self _) (by omega) (by omega) ((TK.of_keep hk hFB).soft (hO.2.1.soft hF)) (hv1.keep (hk.mono hFB)) (by simpa using WSts_turn (hO.2.1.soft hF) (TK.of_keep hk hFB) hv2 ⟨rfl, fun j v hv => ⟨v, hv, .refl v⟩⟩)).mono fun r w' ⟨h1, h2⟩ => ⟨_, h1, ⟨rfl, h2.turn⟩, h2.keep⟩) ?_
    rintro W r w2 B2 hk ⟨rfl, ht⟩ _ hk2 hB12 _ hB2
    have hO2 := hO.step hFw hk ht hk2 hB12 hB2
    refine run_ok (sy_cx _ _) 0 [] 60 0 ?_
    refine good_toLp ?_
    clear hpt hu1 hu2 hv1 hv2 hix hFB
    refine good_loopB (fun k : Nat => t.locals.length - k) (fun k B w1 => k ≤ t.locals.length ∧ OInv F w (4 * i + 1 + ovTs l1 + swts t.body + 4 * k) B w1) (fun k => ⟨mkT [(1, .ptr gz 0), (3, .v (.int .i64 (l1.length : Int))), (4, .v (.int .i64 (k : Int)))], mkH [(gz, some (.cells 26 true true true 3 (putL .leaf 0 [.v (.slice a i cap), .v (.slice b nm cap2), .v (.slice d nd cap3)])))], gz + 1, []⟩)
      0 ⟨Nat.zero_le _, hO2⟩ (by kernel_rfl)
      (fun h => good_sub _ [(1, .ptr gz 0), (3, .v (.int .i64 (l1.length : Int))), (4, .v (.int .i64 ((0 : Nat) : Int)))] [(gz, some (.cells 26 true true true 3 (putL .leaf 0 [.v (.slice a i cap), .v (.slice b nm cap2), .v (.slice d nd cap3)])))] (gz + 1) rfl (by kernel_rfl) (by kernel_rfl) (by kernel_rfl) (by kernel_rfl) (by kernel_rfl) (fun b hb => hγ0 b (Nat.le_trans (Nat.le_succ _) hb)) (by kernel_rfl) h) ?_
    clear hO2 hk ht hk2 hB12 hB2
    rintro k B3 w3 ⟨hkl, hO3⟩ ih3
    have hFB3 : ∀ k, F k → B3 k := fun k hk => hO3.2.2.1 k (hFw k hk)
    obtain ⟨s, a1, cap1, us, b1, cap4, vs, hpt, hu1, hu2, hv1, hv2, hix⟩ := hitem _ w3 hO3.2.1
    refine run_ok (sy_cx _ _) 0 [] 60 0 ?_
    refine good_val (.pointer (some ⟨gB d, oB d + l1.length * 3, none⟩)) (S := Instr.indexAt 24 (.slice d nd cap3) (.int .i64 (l1.length : Int))) (by kernel_rfl) (fun W _ => hix W) ?_
    refine run_ok (sy_cx _ _) 0 [] 60 0 ?_
    refine good_val (.slice a1 t.locals.length cap1) (S := Instr.loadAt 22 (.pointer (some ⟨gB d, oB d + l1.length * 3 + 1, none⟩))) (by kernel_rfl) (fun W hk => ld_pt hpt (by kernel_rfl) 1 rfl (hk.mono hFB3)) ?_
    refine run_ok (sy_cx _ _) 0 [] 60 0 ?_
    rcases Nat.lt_or_ge k t.locals.length with hlt | hge
    · obtain ⟨m1, x, m3, hl, rfl⟩ := ls_split t.locals k hlt
      rw [hl] at hu2
      obtain ⟨c, ⟨s1, ty1, bits1, rfl⟩, hcell⟩ := LsAt.at_ (k := 3) (fun _ _ h => h.len) hu2
      have hpv := slAt_part hu1 (by omega) (k := 3) rfl hcell
      have hix2 := fun W : World => idx_sl (P := Tryz.prog) (t := 22) (e := 67) (cap := cap1) hu1 (by kernel_rfl) (by kernel_rfl) hlt W
      refine good_take true (b := intLt (m1.length : Int) (t.locals.length : Int)) (by kernel_rfl) (lt_t (by omega)) ?_
      refine run_ok (sy_cx _ _) 0 [] 60 0 ?_
      refine good_val (.pointer (some ⟨gB d, oB d + l1.length * 3, none⟩)) (S := Instr.indexAt 24 (.slice d nd cap3) (.int .i64 (l1.length : Int))) (by kernel_rfl) (fun W _ => hix W) ?_
      refine run_ok (sy_cx _ _) 0 [] 60 0 ?_
      refine good_val (.slice a1 t.locals.length cap1) (S := Instr.loadAt 22 (.pointer (some ⟨gB d, oB d + l1.length * 3 + 1, none⟩))) (by kernel_rfl) (fun W hk => ld_pt hpt (by kernel_rfl) 1 rfl (hk.mono hFB3)) ?_
      refine run_ok (sy_cx _ _) 0 [] 60 0 ?_
      refine good_val (.pointer (some ⟨gB a1, oB a1 + m1.length * 3, none⟩)) (S := Instr.indexAt 22 (.slice a1 t.locals.length cap1) (.int .i64 (m1.length : Int))) (by kernel_rfl) (fun W _ => hix2 W) ?_
      refine run_ok (sy_cx _ _) 0 [] 60 0 ?_
      refine good_storeW 9 (.pointer (some ⟨gB a1, oB a1 + m1.length * 3 + 0, none⟩)) (.string ⟨#[111, 118, 101, 114]⟩) F (Pr := fun w w' => TK F 4 w w') (by kernel_rfl) (by kernel_rfl) hFB3
        (fun W hk => st_pt (hO3.2.1.soft hF) hpv (by kernel_rfl) 0 rfl rfl rfl (kv_over _) (hk.mono hFB3)) ?_
      intro W w4 B4 hk ht4 _ hk4 hB34 hB4
      refine run_ok (sy_cx _ _) 0 [] 60 0 ?_
      refine good_set 4 (x := .int .i64 (wrapF .i64 ((m1.length : Int) + 1))) (.int .i64 ((m1.length + 1 : Nat) : Int)) (by kernel_rfl) (by rw [wr64 (by omega) (by omega)]; congr 1) ?_
      exact good_sub _ [(1, .ptr gz 0), (3, .v (.int .i64 (l1.length : Int))), (4, .v (.int .i64 ((m1.length + 1 : Nat) : Int)))] [(gz, some (.cells 26 true true true 3 (putL .leaf 0 [.v (.slice a i cap), .v (.slice b nm cap2), .v (.slice d nd cap3)])))] (gz + 1) (by kernel_rfl) (by kernel_rfl) (by kernel_rfl) (by kernel_rfl) (by kernel_rfl) (by kernel_rfl) (fun b hb => hγ0 b (Nat.le_trans (Nat.le_succ _) hb)) (by kernel_rfl)
        (ih3 (m1.length + 1) B4 w4 ⟨by omega, hO3.step hFw hk ht4 hk4 hB34 hB4⟩ (by show t.locals.length - (m1.length + 1) < t.locals.length - m1.length; omega))
    obtain rfl : k = t.locals.length := by omega
    refine good_take false (b := intLt (t.locals.length : Int) (t.locals.length : Int)) (by kernel_rfl) (lt_f (by omega)) ?_
    refine run_ok (sy_cx _ _) 0 [] 60 0 ?_
    refine good_val (.pointer (some ⟨gB d, oB d + l1.length * 3, none⟩)) (S := Instr.indexAt 24 (.slice d nd cap3) (.int .i64 (l1.length : Int))) (by kernel_rfl) (fun W _ => hix W) ?_
    refine run_ok (sy_cx _ _) 0 [] 60 0 ?_
    refine good_storeW 9 (.pointer (some ⟨gB d, oB d + l1.length * 3 + 0, none⟩)) (.string ⟨#[111, 118, 101, 114]⟩) F (Pr := fun w w' => TK F 4 w w') (by kernel_rfl) (by kernel_rfl) hFB3
      (fun W hk => st_pt (hO3.2.1.soft hF) hpt (by kernel_rfl) 0 rfl rfl rfl (kv_over _) (hk.mono hFB3)) ?_
    intro W w4 B4 hk ht4 _ hk4 hB34 hB4
    have hO4 := hO3.step hFw hk ht4 hk4 hB34 hB4
    refine run_ok (sy_cx _ _) 0 [] 60 0 ?_
    refine good_set 3 (x := .int .i64 (wrapF .i64 ((l1.length : Int) + 1))) (.int .i64 ((l1 ++ [t]).length : Nat)) (by kernel_rfl) (by rw [wr64 (by omega) (by omega)]; congr 1; simp) ?_
    exact good_sub _ [(1, .ptr gz 0), (3, .v (.int .i64 ((l1 ++ [t]).length : Nat)))] [(gz, some (.cells 26 true true true 3 (putL .leaf 0 [.v (.slice a i cap), .v (.slice b nm cap2), .v (.slice d nd cap3)])))] (gz + 1) (by kernel_rfl) (by kernel_rfl) (by kernel_rfl) (by kernel_rfl) (by kernel_rfl) (by kernel_rfl) (fun b hb => hγ0 b (Nat.le_trans (Nat.le_succ _) hb)) (by kernel_rfl)
      (ih (l1 ++ [t], l3) B4 w4 ⟨by show p.threads = (l1 ++ [_]) ++ l3; rw [hI]; simp, ⟨hO4.1, hO4.2.1.mono (by show _ ≤ 4 * i + 1 + ovTs (l1 ++ [t]); rw [hs1, hot]; omega), hO4.2.2⟩⟩ (by show l3.length < (_ :: l3).length; simp))
end Go.Proofs.YtiacalnkmnckjaaGreatDoor
end

section
/- The last step of a law's row: from 'it returns true and nothing that was there has turned' to what the row says. Any program, any arguments. -/
namespace Go.As
open Go Go.RowKit Go.WideShapes Go.ChangeShapes Go.ChangeAt
set_option linter.unusedVariables false

section
variable {H : Type} {enc : TypeId × Value → H} {P : Program}

/-- arguments read as they did, where nothing that was there has turned -/
theorem args_stay (hl : laidOutB P = true) {W W' : World} (hb : Below W.heap.size W W') {sp : Nat → Bool} : ∀ {ts : List TypeId} {vs : List Value} {ds : List (DataW H)} {ps : List MemPlace},
    (ts.all fun t => P.readableRec t && decide (t < P.types.size)) = true →
    DataW.TrodAll enc P W 0 (fun _ => true) true ts vs ds ps → (∀ x ∈ ps, x.block < W.heap.size) → (∀ x ∈ ps, sp x.block = true) → DataW.TrodAll enc P W' 0 sp true ts vs ds ps
  | [], [], [], _, _, h, _, _ => h
  | t :: ts, v :: vs, d :: ds, ps, hr, h, hlt, hs => by
    obtain ⟨p, q, h1, h2, e⟩ := h
    rw [List.all_cons, Bool.and_eq_true, Bool.and_eq_true] at hr
    refine ⟨p, q, ?_, ?_, e⟩
    · exact WideElems.Trod_stays hl hr.1.1 (of_decide_eq_true hr.1.2) h1 (fun x hx => hb.same (hlt x (by rw [e]; exact List.mem_append_left _ hx))) (fun x hx => hs x (by rw [e]; exact List.mem_append_left _ hx))
    · exact args_stay hl hb hr.2 h2 (fun x hx => hlt x (by rw [e]; exact List.mem_append_right _ hx)) (fun x hx => hs x (by rw [e]; exact List.mem_append_right _ hx))

theorem law_post {f : Func} {s : ChangeSpec} {apart again : Bool} {W W' : World} {args : Array Value} {ds gs : List (DataW H)} {before : List MemPlace} {T : TypeId}
    (hl : laidOutB P = true) (hr : (f.params.toList.all fun t => P.readableRec t && decide (t < P.types.size)) = true)
    (hT : P.underlying T = some .bool) (hres : f.resultTypes = #[T]) (hv : s.vars = [])
    (hW : DataW.Whole enc P f.params.toList s.vars apart W args.toList ds gs before)
    (hs : (s.fn H (ds ++ gs)).results = [.lit (.bool true)]) (ha : (s.fn H (ds ++ gs)).args = ds) (hvs : (s.fn H (ds ++ gs)).vars = [])
    (hb : Below W.heap.size W W') : s.post enc P f apart true false again W args (.bool true) W' := by
  have hlt : ∀ p ∈ before, p.block < W.heap.size := fun p hp => hW.lt p hp
  obtain ⟨p, q, hA, hV, rfl, hz, hn⟩ := id hW
  rw [hv] at hV
  obtain ⟨rfl, rfl⟩ := trodVars_none hV
  have hpl : ∀ x ∈ p, x.block < W.heap.size := fun x hx => hlt x (by simpa using hx)
  have hok : ∀ (j : Nat) (t : TypeId) (r : Value), f.resultTypes[j]? = some t → ((Value.bool true).resultList f.resultTypes.size)[j]? = some r → Value.okWide P W' .any 0 t r := by
    rw [hres]
    exact ok_one hres rfl (okWide_bool_mk hT true) |> fun h => by simpa [hres] using h
  have hres' : ∀ (b : Nat) (sp : Nat → Bool) (hd : Bool), DataW.TrodAll enc P W' b sp hd f.resultTypes.toList ((Value.bool true).resultList f.resultTypes.size) (s.fn H (ds ++ [])).results [] := by
    intro b sp hd
    rw [hres, hs]
    exact trodAll_mk1 (shut_bool hT true)
  have hA1 : ∀ sp : Nat → Bool, (∀ x ∈ p, sp x.block = true) → DataW.TrodAll enc P W' 0 sp true f.params.toList args.toList (s.fn H (ds ++ [])).args p := by
    intro sp hsp
    rw [ha]; exact args_stay hl hb hr hA hpl hsp
  have hV1 : ∀ sp : Nat → Bool, DataW.TrodVars enc P W' sp s.vars (s.fn H (ds ++ [])).vars [] := by
    intro sp
    rw [hv, hvs]; exact rfl
  refine ⟨ds, [], p ++ [], [], p, [], hW, hres' _ _ _, hA1 _ (fun x hx => by simpa using hpl x hx), hV1 _, World.keptBut_mono (fun x hx => ⟨hx, Or.inr (by simpa using hx)⟩) (hb.frame (· ∈ p ++ [])), fun _ => ?_⟩
  refine ⟨hok, _, _, ([] ++ p) ++ [], ⟨[] ++ p, [], trodAll_append (hA1 _ (fun _ _ => rfl)) (hres' _ _ _), hV1 _, rfl, ?_, ?_⟩, ?_⟩
  · intro b off hp
    have hin : MemPlace.cell b off ∈ p ++ [] := by simpa using hp
    rw [hb.frozen (hlt _ hin)]
    exact hz b off hin
  · intro h
    have := hn h
    simpa using this
  · intro x hx _
    simpa using hx

/-- an argument that is a slice, read as a list: 'cells' tells an element's cells -/
theorem open_list {α : Type} {w : World} {base : Nat} {held : Bool} {t e : TypeId} {v : Value} {d : DataW H} {ps : List MemPlace} (cells : α → List Value) (R : α → Prop)
    (ht : P.underlying t = some (.slice e)) (hc : 0 < P.cellsOf e)
    (hdec : ∀ n cs z, DataW.trod enc P w 0 (fun _ => true) held n e cs = some z → ∃ x, cs = cells x ∧ R x)
    (hval : Value.okWide P w .any base t v) (hd : DataW.Trod enc P w 0 (fun _ => true) held t v d ps) :
    ∃ (a : Option Addr) (n c : Nat) (xs : List α), v = .slice a n c ∧ xs.length = n ∧ n ≤ c ∧ c ≤ maxLen ∧ (∀ x ∈ xs, R x) ∧ Sl w (P.cellsOf e) a n (xs.flatMap cells) := by
  obtain ⟨a0, len, cap, rfl⟩ := okWide_slice ht hval
  obtain ⟨fuel, hf⟩ := hd
  rcases Go.Deep.open_slice ht hf with ⟨hcs, -⟩ | ⟨a, len', cap', m, n, D, Pl, hcs, -, hl, hm, hmm, -, hi⟩
  · have : Value.slice a0 len cap = .slice none 0 0 := by simpa [Value.cells] using hcs
    injection this with h1 h2 h3
    subst h1 h2 h3
    exact ⟨none, 0, 0, [], rfl, rfl, Nat.le_refl _, by simp [maxLen], by simp, Sl.empty _ _ _⟩
  · have : Value.slice a0 len cap = .slice (some a) len' cap' := by simpa [Value.cells] using hcs
    injection this with h1 h2 h3
    subst h1 h2 h3
    simp only [if_true] at hmm
    subst hmm
    have key : ∀ k, k ≤ len → ∃ xs : List α, xs.length = k ∧ (∀ x ∈ xs, R x) ∧ (xs.flatMap cells).length = k * P.cellsOf e ∧ ∀ j u, (xs.flatMap cells)[j]? = some u → w.cell? (a.add j) = some u := by
      intro k
      induction k with
      | zero => intro _; exact ⟨[], rfl, by simp, by simp, by simp⟩
      | succ k ih =>
        intro hk
        obtain ⟨xs, hx1, hx2, hx3, hx4⟩ := ih (by omega)
        obtain ⟨cs', hc1, hc2⟩ := hi k (by omega)
        obtain ⟨-, hcl, hat⟩ := World.cells?_some hc1
        obtain ⟨x, rfl, hx⟩ := hdec _ _ _ hc2
        refine ⟨xs ++ [x], by simp [hx1], ?_, ?_, ?_⟩
        · intro y hy
          simp at hy
          rcases hy with hy | rfl
          · exact hx2 y hy
          · exact hx
        · simp [hx3, hcl, Nat.add_mul]
        · intro j u hu
          simp only [List.flatMap_append, List.flatMap_cons, List.flatMap_nil, List.append_nil] at hu
          rcases Nat.lt_or_ge j (k * P.cellsOf e) with hj | hj
          · rw [List.getElem?_append_left (by omega)] at hu
            exact hx4 j u hu
          · rw [List.getElem?_append_right (by omega), hx3] at hu
            have hj2 : j - k * P.cellsOf e < P.cellsOf e := by
              have := (List.getElem?_eq_some_iff.1 hu).1
              omega
            have := hat _ hj2
            rw [add_add', show k * P.cellsOf e + (j - k * P.cellsOf e) = j by omega] at this
            rw [this, hu]
    obtain ⟨xs, hx1, hx2, hx3, hx4⟩ := key len (Nat.le_refl _)
    refine ⟨some a, _, _, xs, rfl, hx1, hl, hm, hx2, hx3, fun hn => ⟨a, rfl, ?_, hx4⟩⟩
    have hpos : 0 < (xs.flatMap cells).length := by rw [hx3]; exact Nat.mul_pos hn hc
    have := World.block_lt_of_cell? w _ (hx4 0 _ (List.getElem?_eq_getElem hpos))
    rwa [blk_add] at this
end
end Go.As
end

section
/- Programs and expressions among a statement's arguments: what their reading says of memory and size. No conditions but those in each theorem. -/
namespace Go.Proofs.YtiacalnkmnckjaaGreatDoor
open Go.RowKit Go.As Go.WideShapes Go.ChangeShapes
set_option linter.unusedVariables false
set_option linter.unusedSimpArgs false

theorem bulk_pos {H : Type} (d : DataW H) : 1 ≤ Rows.uptoBulk d := by
  cases d with
  | lit l => cases l <;> simp [Rows.uptoBulk]
  | nil => simp [Rows.uptoBulk]
  | ptr d => simp [Rows.uptoBulk]
  | slice elems spare => simp [Rows.uptoBulk]
  | agg parts => simp [Rows.uptoBulk]
  | iface t d => simp [Rows.uptoBulk]
  | map entries => simp [Rows.uptoBulk]
  | held h => simp [Rows.uptoBulk]
theorem bulk_app {H : Type} (l r : List (DataW H)) : Rows.uptoBulkAll (l ++ r) = Rows.uptoBulkAll l + Rows.uptoBulkAll r := by
  induction l with
  | nil => simp [Rows.uptoBulkAll]
  | cons x l ih => simp only [List.cons_append, Rows.uptoBulkAll, ih]; omega
theorem bulk_mem {H : Type} {d : DataW H} {l : List (DataW H)} (h : d ∈ l) : Rows.uptoBulk d ≤ Rows.uptoBulkAll l := by
  induction l with
  | nil => cases h
  | cons x r ih =>
    simp only [Rows.uptoBulkAll]
    cases List.mem_cons.1 h with
    | inl e => subst e; omega
    | inr e => have := ih e; omega
/-- sizes one behind the other -/
def sumN {α : Type} (μ : α → Nat) : List α → Nat
  | [] => 0
  | x :: l => μ x + sumN μ l
theorem sumN_app {α : Type} (μ : α → Nat) : ∀ (l r : List α), sumN μ (l ++ r) = sumN μ l + sumN μ r
  | [], r => by simp [sumN]
  | x :: l, r => by
    rw [List.cons_append]
    simp only [sumN]
    rw [sumN_app μ l r]
    omega
theorem wf_u8 {n : Int} (h : (Lit.int .u8 n).wf = true) : 0 ≤ n ∧ n < 256 := by
  simp only [Lit.wf, decide_eq_true_eq, Bool.and_eq_true] at h
  have h1 : IntKind.u8.min = 0 := by decide
  have h2 : IntKind.u8.max = 255 := by decide
  omega
theorem wf_u64 {n : Int} (h : (Lit.int .u64 n).wf = true) : 0 ≤ n ∧ n < 18446744073709551616 := by
  simp only [Lit.wf, decide_eq_true_eq, Bool.and_eq_true] at h
  have h1 : IntKind.u64.min = 0 := by decide
  have h2 : IntKind.u64.max = 18446744073709551615 := by decide
  omega
theorem wf_i64 {n : Int} (h : (Lit.int .i64 n).wf = true) : -9223372036854775808 ≤ n ∧ n < 9223372036854775808 := by
  simp only [Lit.wf, decide_eq_true_eq, Bool.and_eq_true] at h
  have h1 : IntKind.i64.min = -9223372036854775808 := by decide
  have h2 : IntKind.i64.max = 9223372036854775807 := by decide
  omega
section
variable {H : Type} {enc : TypeId × Value → H} {w : World}
/-- a slice's elements, each with its size -/
theorem open_ls {P : Program} {α : Type} {held : Bool} {t e : TypeId} {fuel sz : Nat} {cs : List Value} {d : DataW H} {p : List MemPlace} (A : α → List Value → Prop) (μ : α → Nat)
    (ht : P.underlying t = some (.slice e)) (hc : P.cellsOf e = sz) (hsz : 0 < sz)
    (hf : DataW.trod enc P w 0 (fun _ => true) held fuel t cs = some (d, p))
    (hdec : ∀ n cs d' p', Rows.uptoBulk d' < Rows.uptoBulk d → cs.length = sz → DataW.trod enc P w 0 (fun _ => true) held n e cs = some (d', p') → ∃ x, A x cs ∧ μ x ≤ Rows.uptoBulk d') :
    ∃ (a : Option Addr) (n c : Nat) (xs : List Value) (L : List α), cs = [.slice a n c] ∧ n ≤ c ∧ c ≤ maxLen ∧ L.length = n ∧ Sy.SlAt (· < w.heap.size) w a n sz xs ∧ LsAt A L xs ∧ sumN μ L + 1 ≤ Rows.uptoBulk d := by
  subst hc
  rcases Go.Deep.open_slice ht hf with ⟨hcs, hx⟩ | ⟨a, len, cap, m, n, D, Pl, hcs, -, hl, hm, hmm, hx, hi⟩
  · injection hx with hd hp
    subst hd
    exact ⟨none, 0, 0, [], [], hcs, Nat.le_refl _, by simp [maxLen], rfl, ⟨by simp, .inl rfl⟩, rfl, by simp [sumN, Rows.uptoBulk]⟩
  · simp only [if_true] at hmm
    subst hmm
    injection hx with hd hp
    have hbd : Rows.uptoBulkAll ((List.range len).map D) + 1 ≤ Rows.uptoBulk d := by
      rw [hd]
      simp only [Rows.uptoBulk]
      omega
    have key : ∀ k, k ≤ len → ∃ (xs : List Value) (L : List α), L.length = k ∧ xs.length = k * P.cellsOf e ∧ LsAt A L xs ∧ sumN μ L ≤ Rows.uptoBulkAll ((List.range k).map D) ∧ ∀ j u, xs[j]? = some u → w.cell? (a.add j) = some u := by
      intro k
      induction k with
      | zero => intro _; exact ⟨[], [], rfl, by simp, rfl, by simp [sumN], by simp⟩
      | succ k ih =>
        intro hk
        obtain ⟨xs, L, h1, h2, h3, h4, h5⟩ := ih (by omega)
        obtain ⟨cs', hc1, hc2⟩ := hi k (by omega)
        obtain ⟨-, hcl, hat⟩ := World.cells?_some hc1
        have hlt : Rows.uptoBulk (D k) < Rows.uptoBulk d := by
          have := bulk_mem (l := (List.range len).map D) (d := D k) (List.mem_map.2 ⟨k, List.mem_range.2 (by omega), rfl⟩)
          omega
        obtain ⟨x, hx1, hx2⟩ := hdec _ _ _ _ hlt hcl hc2
        refine ⟨xs ++ cs', L ++ [x], by simp [h1], by rw [List.length_append, h2, hcl, Nat.add_mul]; omega, LsAt.snoc h3 hx1, ?_, ?_⟩
        · rw [List.range_succ, List.map_append, bulk_app, sumN_app]
          simp only [List.map_cons, List.map_nil, Rows.uptoBulkAll, sumN]
          omega
        · intro j u hu
          rcases Nat.lt_or_ge j xs.length with hj | hj
          · rw [List.getElem?_append_left (by omega)] at hu
            exact h5 j u hu
          · rw [List.getElem?_append_right (by omega), h2] at hu
            have hj2 : j - k * P.cellsOf e < P.cellsOf e := by
              have := (List.getElem?_eq_some_iff.1 hu).1
              omega
            have := hat _ hj2
            rw [add_add', show k * P.cellsOf e + (j - k * P.cellsOf e) = j by omega] at this
            rw [this, hu]
    obtain ⟨xs, L, h1, h2, h3, h4, h5⟩ := key len (Nat.le_refl _)
    refine ⟨some a, len, _, xs, L, hcs, hl, hm, h1, ⟨h2, ?_⟩, h3, by omega⟩
    cases len with
    | zero => exact .inl rfl
    | succ q =>
      have hpos : 0 < xs.length := by rw [h2]; exact Nat.mul_pos (Nat.succ_pos _) hsz
      have h0 := h5 0 _ (List.getElem?_eq_getElem hpos)
      have hspot : a.spot = none := by
        have e0 : a.add 0 = a := by simp [Addr.add]
        rw [e0] at h0
        unfold World.cell? at h0
        split at h0
        · split at h0
          · cases h0
          · rename_i hn
            cases hs : a.spot with
            | none => rfl
            | some s => rw [hs] at hn; simp at hn
        · cases h0
      have ha : a = ⟨a.block, a.off, none⟩ := by rw [← hspot]
      refine .inr ⟨congrArg some ha, ?_, fun j v hv => ?_⟩
      · have := World.block_lt_of_cell? w _ h0
        rwa [blk_add] at this
      · have := h5 j v hv
        rw [ha, Addr.add_mid] at this
        exact this
end
-- sizes: names' letters, and what stands
mutual
def exB : Ex → Nat
  | .mk _ _ _ name kids => name.length + 5 + exBs kids
def exBs : List Ex → Nat
  | [] => 0
  | e :: l => exB e + exBs l
end
mutual
/-- numbers within their bounds -/
def exR : Ex → Prop
  | .mk op ty bits _ kids => (0 ≤ op ∧ op < 256) ∧ (0 ≤ ty ∧ ty < 256) ∧ (0 ≤ bits ∧ bits < 18446744073709551616) ∧ exRs kids
def exRs : List Ex → Prop
  | [] => True
  | e :: l => exR e ∧ exRs l
end
theorem exRs_mem : ∀ {l : List Ex}, exRs l ↔ ∀ e ∈ l, exR e
  | [] => by simp [exRs]
  | e :: l => by simp [exRs, exRs_mem]
theorem exBs_sum : ∀ (l : List Ex), exBs l = sumN exB l
  | [] => rfl
  | e :: l => by simp only [exBs, sumN]; rw [exBs_sum l]
mutual
theorem wgt_exB : ∀ (e : Ex), wgt e ≤ exB e
  | .mk _ _ _ _ k => by simp only [wgt, exB]; have := wgts_exBs k; omega
theorem wgts_exBs : ∀ (l : List Ex), wgts l ≤ exBs l
  | [] => Nat.le_refl _
  | e :: l => by simp only [wgts, exBs]; have := wgt_exB e; have := wgts_exBs l; omega
end
mutual
def stB : St → Nat
  | .mk _ name e b l => name.length + 1 + exB e + stBs b + stBs l
def stBs : List St → Nat
  | [] => 0
  | s :: l => stB s + stBs l
end
mutual
def stR : St → Prop
  | .mk kind _ e b l => (-9223372036854775808 ≤ kind ∧ kind < 9223372036854775808) ∧ exR e ∧ stRs b ∧ stRs l
def stRs : List St → Prop
  | [] => True
  | s :: l => stR s ∧ stRs l
end
theorem stRs_mem : ∀ {l : List St}, stRs l ↔ ∀ e ∈ l, stR e
  | [] => by simp [stRs]
  | e :: l => by simp [stRs, stRs_mem]
theorem stBs_sum : ∀ (l : List St), stBs l = sumN stB l
  | [] => rfl
  | e :: l => by simp only [stBs, sumN]; rw [stBs_sum l]
mutual
theorem swt_stB : ∀ (s : St), swt s ≤ stB s
  | .mk _ _ e b l => by simp only [swt, stB]; have := wgt_exB e; have := swts_stBs b; have := swts_stBs l; omega
theorem swts_stBs : ∀ (l : List St), swts l ≤ stBs l
  | [] => Nat.le_refl _
  | s :: l => by simp only [swts, stBs]; have := swt_stB s; have := swts_stBs l; omega
end
def vrB (v : Vr) : Nat := v.name.length + 1
def vrR (v : Vr) : Prop := (0 ≤ v.ty ∧ v.ty < 256) ∧ 0 ≤ v.bits ∧ v.bits < 18446744073709551616
def txB (s : List UInt8) : Nat := s.length + 1
def thB (t : Th) : Nat := t.name.length + 1 + sumN vrB t.locals + stBs t.body
def thR (t : Th) : Prop := (∀ v ∈ t.locals, vrR v) ∧ stRs t.body
def pgB (p : Pg) : Nat := sumN vrB p.shared + sumN txB p.mutexes + sumN thB p.threads
def pgR (p : Pg) : Prop := (∀ v ∈ p.shared, vrR v) ∧ ∀ t ∈ p.threads, thR t
theorem len_sumN {α : Type} {μ : α → Nat} (h : ∀ x, 1 ≤ μ x) : ∀ (l : List α), l.length ≤ sumN μ l
  | [] => Nat.le_refl _
  | x :: l => by simp only [sumN, List.length_cons]; have := h x; have := len_sumN h l; omega
theorem thws_thB : ∀ (l : List Th), thws l ≤ sumN thB l
  | [] => Nat.le_refl _
  | t :: l => by
    simp only [thws, sumN, thw, thB]
    have := thws_thB l
    have := len_sumN (μ := vrB) (fun v => by unfold vrB; omega) t.locals
    have := swts_stBs t.body
    omega
theorem pwt_pgB (p : Pg) : pwt p ≤ pgB p := by
  unfold pwt pgB
  have := thws_thB p.threads
  have := len_sumN (μ := vrB) (fun v => by unfold vrB; omega) p.shared
  have := len_sumN (μ := txB) (fun v => by unfold txB; omega) p.mutexes
  omega
theorem sumN_mem {α : Type} {μ : α → Nat} {x : α} : ∀ {l : List α}, x ∈ l → μ x ≤ sumN μ l
  | y :: l, h => by
    simp only [sumN]
    rcases List.mem_cons.1 h with rfl | h
    · omega
    · have := sumN_mem (μ := μ) h; omega
section
variable {H : Type} {enc : TypeId × Value → H} {w : World} {held : Bool}
theorem list5 {α : Type} {cs : List α} (h : cs.length = 5) : ∃ a b c d e, cs = [a, b, c, d, e] := by
  match cs, h with
  | [a, b, c, d, e], _ => exact ⟨a, b, c, d, e, rfl⟩
theorem list4 {α : Type} {cs : List α} (h : cs.length = 4) : ∃ a b c d, cs = [a, b, c, d] := by
  match cs, h with
  | [a, b, c, d], _ => exact ⟨a, b, c, d, rfl⟩
theorem list3 {α : Type} {cs : List α} (h : cs.length = 3) : ∃ a b c, cs = [a, b, c] := by
  match cs, h with
  | [a, b, c], _ => exact ⟨a, b, c, rfl⟩
theorem list2 {α : Type} {cs : List α} (h : cs.length = 2) : ∃ a b, cs = [a, b] := by
  match cs, h with
  | [a, b], _ => exact ⟨a, b, rfl⟩
theorem list9 {α : Type} {cs : List α} (h : cs.length = 9) : ∃ a b c d e f g i j, cs = [a, b, c, d, e, f, g, i, j] := by
  match cs, h with
  | [a, b, c, d, e, f, g, i, j], _ => exact ⟨a, b, c, d, e, f, g, i, j, rfl⟩
set_option maxRecDepth 100000 in
theorem cell1 : Tryz.prog.cellsOf 27 = 1 ∧ Tryz.prog.cellsOf 28 = 1 ∧ Tryz.prog.cellsOf 29 = 1 ∧ Tryz.prog.cellsOf 9 = 1 ∧ Tryz.prog.cellsOf 3 = 1 ∧ Tryz.prog.cellsOf 32 = 1 ∧ Tryz.prog.cellsOf 54 = 1 ∧ Tryz.prog.cellsOf 22 = 1 ∧ Tryz.prog.cellsOf 23 = 1 ∧ Tryz.prog.cellsOf 24 = 1 := by
  refine ⟨?_, ?_, ?_, ?_, ?_, ?_, ?_, ?_, ?_, ?_⟩ <;> kernel_rfl
theorem cell2 : Tryz.prog.cellsOf 31 = 2 ∧ Tryz.prog.cellsOf 34 = 5 ∧ Tryz.prog.cellsOf 56 = 9 ∧ Tryz.prog.cellsOf 67 = 3 ∧ Tryz.prog.cellsOf 58 = 3 ∧ Tryz.prog.cellsOf 26 = 3 := by
  refine ⟨?_, ?_, ?_, ?_, ?_, ?_⟩ <;> kernel_rfl
/-- a struct's parts -/
theorem open_parts {P : Program} {t : TypeId} {fs : Array Field} {fuel : Nat} {cs : List Value} {d : DataW H} {p : List MemPlace} (ht : P.underlying t = some (.struct fs)) (h : DataW.trod enc P w 0 (fun _ => true) held fuel t cs = some (d, p)) :
    ∃ (ds : List (DataW H)), Rows.uptoBulk d = Rows.uptoBulkAll ds + 1 ∧ ds.length = fs.size ∧ cs.length = P.cellsOf t ∧ ∀ (i : Nat) (f : Field), fs[i]? = some f → ∃ n di q, ds[i]? = some di ∧ DataW.trod enc P w 0 (fun _ => true) held n f.type ((cs.drop f.offset).take (P.cellsOf f.type)) = some (di, q) := by
  obtain ⟨xs, n, -, hx, hl, hlen, hfs⟩ := DataW.trod_struct ht h
  injection hx with h1 h2
  refine ⟨xs.map (·.1), by rw [h1]; simp [Rows.uptoBulk], by simp [hlen], hl, fun i f hf => ?_⟩
  have := hfs i f hf
  have hi : i < xs.length := by rw [hlen]; exact (Array.getElem?_eq_some_iff.1 hf).1
  rw [List.getElem?_eq_getElem hi] at this
  exact ⟨n, xs[i].1, xs[i].2, by simp [List.getElem?_eq_getElem hi], this⟩
theorem LsAt.both {α : Type} {A : α → List Value → Prop} {R : α → Prop} : ∀ {l : List α} {xs : List Value}, LsAt (fun x c => A x c ∧ R x) l xs → LsAt A l xs ∧ ∀ x ∈ l, R x
  | [], xs, h => ⟨h, fun x hx => by cases hx⟩
  | e :: l, xs, ⟨c, r, h1, h2, h3⟩ => by
    obtain ⟨h4, h5⟩ := LsAt.both h3
    exact ⟨⟨c, r, h1, h2.1, h4⟩, fun x hx => by
      rcases List.mem_cons.1 hx with rfl | hx
      · exact h2.2
      · exact h5 x hx⟩
set_option maxRecDepth 100000 in
theorem val_open {n : Nat} {cs : List Value} {d : DataW H} {p : List MemPlace} (h : DataW.trod enc Tryz.prog w 0 (fun _ => true) held n 31 cs = some (d, p)) :
    ∃ ty bits, cs = [.int .u8 ty, .int .u64 bits] ∧ (0 ≤ ty ∧ ty < 256) ∧ (0 ≤ bits ∧ bits < 18446744073709551616) ∧ Rows.uptoBulk d = 3 := by
  obtain ⟨ds, hb, hl, hcl, hf⟩ := open_parts Tryz.underlying31 h
  obtain ⟨c0, c1, rfl⟩ := list2 (hcl.trans cell2.1)
  obtain ⟨n0, d0, q0, e0, h0⟩ := hf 0 _ rfl
  obtain ⟨n1, d1, q1, e1, h1⟩ := hf 1 _ rfl
  obtain ⟨x0, x1, rfl⟩ := list2 (hl.trans rfl)
  simp only [List.getElem?_cons_zero, List.getElem?_cons_succ, Option.some.injEq] at e0 e1
  subst e0 e1
  have h0 : DataW.trod enc Tryz.prog w 0 (fun _ => true) held n0 28 [c0] = some (x0, q0) := by simpa [cell1.2.1] using h0
  have h1 : DataW.trod enc Tryz.prog w 0 (fun _ => true) held n1 29 [c1] = some (x1, q1) := by simpa [cell1.2.2.1] using h1
  obtain ⟨ty, g1, g2, g3⟩ := DataW.trod_int Tryz.underlying28 h0
  obtain ⟨bits, k1, k2, k3⟩ := DataW.trod_int Tryz.underlying29 h1
  injection g1 with g1; injection k1 with k1; injection g2 with g2; injection k2 with k2
  subst g1 k1 g2 k2
  exact ⟨ty, bits, rfl, wf_u8 g3, wf_u64 k3, by rw [hb]; simp [Rows.uptoBulkAll, Rows.uptoBulk]⟩
theorem str_open {n : Nat} {cs : List Value} {d : DataW H} {p : List MemPlace} (h : DataW.trod enc Tryz.prog w 0 (fun _ => true) held n 9 cs = some (d, p)) :
    ∃ l : List UInt8, cs = [.string (str l)] ∧ Rows.uptoBulk d = l.length + 1 := by
  obtain ⟨s, h1, h2, h3⟩ := DataW.trod_string Tryz.underlying9 h
  obtain ⟨l, rfl⟩ := exists_str s
  injection h2 with h2
  exact ⟨l, h1, by rw [h2]; simp [Rows.uptoBulk, str_data]⟩
set_option maxRecDepth 100000 in
theorem ex_open : ∀ (b : Nat) {n : Nat} {cs : List Value} {d : DataW H} {p : List MemPlace}, Rows.uptoBulk d < b → DataW.trod enc Tryz.prog w 0 (fun _ => true) held n 34 cs = some (d, p) →
    ∃ e, ExAt (· < w.heap.size) w e cs ∧ exR e ∧ exB e ≤ Rows.uptoBulk d := by
  intro b
  induction b with
  | zero => intro n cs d p h; omega
  | succ b ih =>
    intro n cs d p hbd h
    obtain ⟨ds, hb, hl, hcl, hf⟩ := open_parts Tryz.underlying34 h
    obtain ⟨c0, c1, c2, c3, c4, rfl⟩ := list5 (hcl.trans cell2.2.1)
    obtain ⟨n0, d0, q0, e0, h0⟩ := hf 0 _ rfl
    obtain ⟨n1, d1, q1, e1, h1⟩ := hf 1 _ rfl
    obtain ⟨n2, d2, q2, e2, h2⟩ := hf 2 _ rfl
    obtain ⟨n3, d3, q3, e3, h3⟩ := hf 3 _ rfl
    obtain ⟨x0, x1, x2, x3, rfl⟩ := list4 (hl.trans rfl)
    simp only [List.getElem?_cons_zero, List.getElem?_cons_succ, Option.some.injEq] at e0 e1 e2 e3
    subst e0 e1 e2 e3
    have h0 : DataW.trod enc Tryz.prog w 0 (fun _ => true) held n0 27 [c0] = some (x0, q0) := by simpa [cell1.1] using h0
    have h1 : DataW.trod enc Tryz.prog w 0 (fun _ => true) held n1 31 [c1, c2] = some (x1, q1) := by simpa [cell2.1] using h1
    have h2 : DataW.trod enc Tryz.prog w 0 (fun _ => true) held n2 9 [c3] = some (x2, q2) := by simpa [cell1.2.2.2.1] using h2
    have h3 : DataW.trod enc Tryz.prog w 0 (fun _ => true) held n3 32 [c4] = some (x3, q3) := by simpa [cell1.2.2.2.2.2.1] using h3
    obtain ⟨op, g1, g2, g3⟩ := DataW.trod_int Tryz.underlying27 h0
    obtain ⟨ty, bits, k1, k2, k3, k4⟩ := val_open h1
    obtain ⟨name, m1, m2⟩ := str_open h2
    simp only [Rows.uptoBulkAll] at hb
    obtain ⟨a, n', c, xs, L, o1, o2, o3, o4, o5, o6, o7⟩ := open_ls (fun e c => ExAt (· < w.heap.size) w e c ∧ exR e) exB Tryz.underlying32 cell2.2.1 (by omega) h3 (fun n cs d' p' hlt hl5 ht => by
      obtain ⟨e, w1, w2, w3⟩ := ih (by omega) ht
      exact ⟨e, ⟨w1, w2⟩, w3⟩)
    obtain ⟨o8, o9⟩ := o6.both
    injection g2 with g2
    simp only [List.cons.injEq, and_true] at g1 k1 m1 o1
    obtain ⟨k5, k6⟩ := k1
    subst g1 g2 k5 k6 m1 o1 o4
    refine ⟨.mk op ty bits name L, ?_, ?_, ?_⟩
    · simp only [ExAt]
      exact ⟨a, c, xs, rfl, o5, ExsAt_ls.2 o8⟩
    · simp only [exR]
      exact ⟨wf_u8 g3, k2, k3, exRs_mem.2 o9⟩
    · simp only [exB]
      rw [exBs_sum, hb, m2, k4]
      have := bulk_pos x3
      simp only [Rows.uptoBulk]
      omega
set_option maxRecDepth 100000 in
theorem vr_open {n : Nat} {cs : List Value} {d : DataW H} {p : List MemPlace} (h : DataW.trod enc Tryz.prog w 0 (fun _ => true) held n 67 cs = some (d, p)) :
    ∃ v, (VrAt v cs ∧ vrR v) ∧ vrB v ≤ Rows.uptoBulk d := by
  obtain ⟨ds, hb, hl, hcl, hf⟩ := open_parts Tryz.underlying67 h
  obtain ⟨c0, c1, c2, rfl⟩ := list3 (hcl.trans cell2.2.2.2.1)
  obtain ⟨n0, d0, q0, e0, h0⟩ := hf 0 _ rfl
  obtain ⟨n1, d1, q1, e1, h1⟩ := hf 1 _ rfl
  obtain ⟨x0, x1, rfl⟩ := list2 (hl.trans rfl)
  simp only [List.getElem?_cons_zero, List.getElem?_cons_succ, Option.some.injEq] at e0 e1
  subst e0 e1
  have h0 : DataW.trod enc Tryz.prog w 0 (fun _ => true) held n0 9 [c0] = some (x0, q0) := by simpa [cell1.2.2.2.1] using h0
  have h1 : DataW.trod enc Tryz.prog w 0 (fun _ => true) held n1 31 [c1, c2] = some (x1, q1) := by simpa [cell2.1] using h1
  obtain ⟨ty, bits, k1, k2, k3, k4⟩ := val_open h1
  obtain ⟨name, m1, m2⟩ := str_open h0
  simp only [Rows.uptoBulkAll] at hb
  simp only [List.cons.injEq, and_true] at k1 m1
  obtain ⟨k5, k6⟩ := k1
  subst k5 k6 m1
  exact ⟨⟨name, ty, bits⟩, ⟨rfl, k2, k3⟩, by unfold vrB; simp only; omega⟩
set_option maxRecDepth 100000 in
theorem st_open : ∀ (b : Nat) {n : Nat} {cs : List Value} {d : DataW H} {p : List MemPlace}, Rows.uptoBulk d < b → DataW.trod enc Tryz.prog w 0 (fun _ => true) held n 56 cs = some (d, p) →
    ∃ e, StAt (· < w.heap.size) w e cs ∧ stR e ∧ stB e ≤ Rows.uptoBulk d := by
  intro b
  induction b with
  | zero => intro n cs d p h; omega
  | succ b ih =>
    intro n cs d p hbd h
    obtain ⟨ds, hb, hl, hcl, hf⟩ := open_parts Tryz.underlying56 h
    obtain ⟨c0, c1, c2, c3, c4, c5, c6, c7, c8, rfl⟩ := list9 (hcl.trans cell2.2.2.1)
    obtain ⟨n0, d0, q0, e0, h0⟩ := hf 0 _ rfl
    obtain ⟨n1, d1, q1, e1, h1⟩ := hf 1 _ rfl
    obtain ⟨n2, d2, q2, e2, h2⟩ := hf 2 _ rfl
    obtain ⟨n3, d3, q3, e3, h3⟩ := hf 3 _ rfl
    obtain ⟨n4, d4, q4, e4, h4⟩ := hf 4 _ rfl
    obtain ⟨x0, x1, x2, x3, x4, rfl⟩ := list5 (hl.trans rfl)
    simp only [List.getElem?_cons_zero, List.getElem?_cons_succ, Option.some.injEq] at e0 e1 e2 e3 e4
    subst e0 e1 e2 e3 e4
    have h0 : DataW.trod enc Tryz.prog w 0 (fun _ => true) held n0 3 [c0] = some (x0, q0) := by simpa [cell1.2.2.2.2.1] using h0
    have h1 : DataW.trod enc Tryz.prog w 0 (fun _ => true) held n1 9 [c1] = some (x1, q1) := by simpa [cell1.2.2.2.1] using h1
    have h2 : DataW.trod enc Tryz.prog w 0 (fun _ => true) held n2 34 [c2, c3, c4, c5, c6] = some (x2, q2) := by simpa [cell2.2.1] using h2
    have h3 : DataW.trod enc Tryz.prog w 0 (fun _ => true) held n3 54 [c7] = some (x3, q3) := by simpa [cell1.2.2.2.2.2.2.1] using h3
    have h4 : DataW.trod enc Tryz.prog w 0 (fun _ => true) held n4 54 [c8] = some (x4, q4) := by simpa [cell1.2.2.2.2.2.2.1] using h4
    obtain ⟨kind, g1, g2, g3⟩ := DataW.trod_int Tryz.underlying3 h0
    obtain ⟨name, m1, m2⟩ := str_open h1
    obtain ⟨e, k1, k2, k3⟩ := ex_open _ (Nat.lt_succ_self _) h2
    simp only [Rows.uptoBulkAll] at hb
    obtain ⟨a, n', c, xs, L, o1, o2, o3, o4, o5, o6, o7⟩ := open_ls (fun e c => StAt (· < w.heap.size) w e c ∧ stR e) stB Tryz.underlying54 cell2.2.2.1 (by omega) h3 (fun n cs d' p' hlt hl5 ht => by
      obtain ⟨e, w1, w2, w3⟩ := ih (by omega) ht
      exact ⟨e, ⟨w1, w2⟩, w3⟩)
    obtain ⟨o8, o9⟩ := o6.both
    obtain ⟨a', n2', c', xs', L', r1, r2, r3, r4, r5, r6, r7⟩ := open_ls (fun e c => StAt (· < w.heap.size) w e c ∧ stR e) stB Tryz.underlying54 cell2.2.2.1 (by omega) h4 (fun n cs d' p' hlt hl5 ht => by
      obtain ⟨e, w1, w2, w3⟩ := ih (by omega) ht
      exact ⟨e, ⟨w1, w2⟩, w3⟩)
    obtain ⟨r8, r9⟩ := r6.both
    injection g2 with g2
    simp only [List.cons.injEq, and_true] at g1 m1 o1 r1
    subst g1 g2 m1 o1 o4 r1 r4
    refine ⟨.mk kind name e L L', ?_, ?_, ?_⟩
    · simp only [StAt]
      exact ⟨[c2, c3, c4, c5, c6], a, c, xs, a', c', xs', rfl, k1, o5, StsAt_ls.2 o8, r5, StsAt_ls.2 r8⟩
    · simp only [stR]
      exact ⟨wf_i64 g3, k2, stRs_mem.2 o9, stRs_mem.2 r9⟩
    · simp only [stB]
      rw [stBs_sum, stBs_sum, hb, m2]
      simp only [Rows.uptoBulk]
      omega
set_option maxRecDepth 100000 in
theorem th_open {n : Nat} {cs : List Value} {d : DataW H} {p : List MemPlace} (h : DataW.trod enc Tryz.prog w 0 (fun _ => true) held n 58 cs = some (d, p)) :
    ∃ v, (ThAt (· < w.heap.size) w v cs ∧ thR v) ∧ thB v ≤ Rows.uptoBulk d := by
  obtain ⟨ds, hb, hl, hcl, hf⟩ := open_parts Tryz.underlying58 h
  obtain ⟨c0, c1, c2, rfl⟩ := list3 (hcl.trans cell2.2.2.2.2.1)
  obtain ⟨n0, d0, q0, e0, h0⟩ := hf 0 _ rfl
  obtain ⟨n1, d1, q1, e1, h1⟩ := hf 1 _ rfl
  obtain ⟨n2, d2, q2, e2, h2⟩ := hf 2 _ rfl
  obtain ⟨x0, x1, x2, rfl⟩ := list3 (hl.trans rfl)
  simp only [List.getElem?_cons_zero, List.getElem?_cons_succ, Option.some.injEq] at e0 e1 e2
  subst e0 e1 e2
  have h0 : DataW.trod enc Tryz.prog w 0 (fun _ => true) held n0 9 [c0] = some (x0, q0) := by simpa [cell1.2.2.2.1] using h0
  have h1 : DataW.trod enc Tryz.prog w 0 (fun _ => true) held n1 22 [c1] = some (x1, q1) := by simpa [cell1.2.2.2.2.2.2.2.1] using h1
  have h2 : DataW.trod enc Tryz.prog w 0 (fun _ => true) held n2 54 [c2] = some (x2, q2) := by simpa [cell1.2.2.2.2.2.2.1] using h2
  obtain ⟨name, m1, m2⟩ := str_open h0
  simp only [Rows.uptoBulkAll] at hb
  obtain ⟨a, n', c, xs, L, o1, o2, o3, o4, o5, o6, o7⟩ := open_ls (fun e c => VrAt e c ∧ vrR e) vrB Tryz.underlying22 cell2.2.2.2.1 (by omega) h1 (fun n cs d' p' hlt hl5 ht => vr_open ht)
  obtain ⟨o8, o9⟩ := o6.both
  obtain ⟨a', n2', c', xs', L', r1, r2, r3, r4, r5, r6, r7⟩ := open_ls (fun e c => StAt (· < w.heap.size) w e c ∧ stR e) stB Tryz.underlying54 cell2.2.2.1 (by omega) h2 (fun n cs d' p' hlt hl5 ht => by
    obtain ⟨e, w1, w2, w3⟩ := st_open _ (Nat.lt_succ_self _) ht
    exact ⟨e, ⟨w1, w2⟩, w3⟩)
  obtain ⟨r8, r9⟩ := r6.both
  simp only [List.cons.injEq, and_true] at m1 o1 r1
  subst m1 o1 o4 r1 r4
  exact ⟨⟨name, L, L'⟩, ⟨⟨a, c, xs, a', c', xs', rfl, o5, o8, r5, StsAt_ls.2 r8⟩, o9, stRs_mem.2 r9⟩, by unfold thB; simp only; rw [stBs_sum]; omega⟩
set_option maxRecDepth 100000 in
theorem pg_open {n : Nat} {cs : List Value} {d : DataW H} {p : List MemPlace} (h : DataW.trod enc Tryz.prog w 0 (fun _ => true) held n 26 cs = some (d, p)) :
    ∃ v, (PgAt (· < w.heap.size) w v cs ∧ pgR v) ∧ pgB v ≤ Rows.uptoBulk d := by
  obtain ⟨ds, hb, hl, hcl, hf⟩ := open_parts Tryz.underlying26 h
  obtain ⟨c0, c1, c2, rfl⟩ := list3 (hcl.trans cell2.2.2.2.2.2)
  obtain ⟨n0, d0, q0, e0, h0⟩ := hf 0 _ rfl
  obtain ⟨n1, d1, q1, e1, h1⟩ := hf 1 _ rfl
  obtain ⟨n2, d2, q2, e2, h2⟩ := hf 2 _ rfl
  obtain ⟨x0, x1, x2, rfl⟩ := list3 (hl.trans rfl)
  simp only [List.getElem?_cons_zero, List.getElem?_cons_succ, Option.some.injEq] at e0 e1 e2
  subst e0 e1 e2
  have h0 : DataW.trod enc Tryz.prog w 0 (fun _ => true) held n0 22 [c0] = some (x0, q0) := by simpa [cell1.2.2.2.2.2.2.2.1] using h0
  have h1 : DataW.trod enc Tryz.prog w 0 (fun _ => true) held n1 23 [c1] = some (x1, q1) := by simpa [cell1.2.2.2.2.2.2.2.2.1] using h1
  have h2 : DataW.trod enc Tryz.prog w 0 (fun _ => true) held n2 24 [c2] = some (x2, q2) := by simpa [cell1.2.2.2.2.2.2.2.2.2] using h2
  simp only [Rows.uptoBulkAll] at hb
  obtain ⟨a, n', c, xs, L, o1, o2, o3, o4, o5, o6, o7⟩ := open_ls (fun e c => VrAt e c ∧ vrR e) vrB Tryz.underlying22 cell2.2.2.2.1 (by omega) h0 (fun n cs d' p' hlt hl5 ht => vr_open ht)
  obtain ⟨o8, o9⟩ := o6.both
  obtain ⟨a', n2', c', xs', L', r1, r2, r3, r4, r5, r6, r7⟩ := open_ls TxAt txB Tryz.underlying23 cell1.2.2.2.1 (by omega) h1 (fun n cs d' p' hlt hl5 ht => by
    obtain ⟨l, g1, g2⟩ := str_open ht
    exact ⟨l, g1, by unfold txB; omega⟩)
  obtain ⟨a3, n3', c3, xs3, L3, s1, s2, s3, s4, s5, s6, s7⟩ := open_ls (fun e c => ThAt (· < w.heap.size) w e c ∧ thR e) thB Tryz.underlying24 cell2.2.2.2.2.1 (by omega) h2 (fun n cs d' p' hlt hl5 ht => th_open ht)
  obtain ⟨s8, s9⟩ := s6.both
  simp only [List.cons.injEq, and_true] at o1 r1 s1
  subst o1 o4 r1 r4 s1 s4
  exact ⟨⟨L, L', L3⟩, ⟨⟨a, c, xs, a', c', xs', a3, c3, xs3, rfl, o5, o8, r5, r6, s5, s8⟩, o9, s9⟩, by unfold pgB; simp only; omega⟩
end
end Go.Proofs.YtiacalnkmnckjaaGreatDoor
end

section
/- strconv's table of powers, as the row lays it. Conditions: those in each theorem. -/
namespace Go.Proofs.YtiacalnkmnckjaaGreatDoor
open Go.RowKit Go.As
set_option linter.unusedVariables false

/-- strconv's table of powers lies as its initialiser lays it -/
def Tab (W : World) : Prop := Lib.TabIs Tryz.prog W "internal/strconv.uint64pow10" .u64 Lib.pow10Tab
theorem Tab.below {w w' : World} (h : Tab w) (hb : Below w.heap.size w w') : Tab w' := by
  unfold Tab Lib.TabIs World.var? at *
  cases hg : Tryz.prog.globalNamed "internal/strconv.uint64pow10" with
  | none => simp [hg] at h
  | some g =>
    simp only [hg, Option.bind_some] at h ⊢
    have hlt : g < w.heap.size := by
      rcases Nat.lt_or_ge g w.heap.size with h' | h'
      · exact h'
      · rw [Array.getElem?_eq_none h'] at h; simp at h
    rw [hb.block g hlt]
    exact h
theorem Tab.drew {w : World} (h : Tab w) : Tab w.drew := h
theorem tab_of_laid {laid : List (String × DataW Unit)} {W : World} (hl : laid.filter (fun x => x.1 == "internal/strconv.uint64pow10") = [("internal/strconv.uint64pow10", Lib.tabData .u64 Lib.pow10Tab)]) (h : laidMetH Tryz.prog laid W) : Tab W := by
  have h2 := h.filter (fun x => x.1 == "internal/strconv.uint64pow10")
  rw [hl] at h2
  have h2 : laidMet Tryz.prog [("internal/strconv.uint64pow10", Lib.tabData .u64 Lib.pow10Tab)] W := h2
  exact Lib.tabIs_of_head (P := Tryz.prog) (g := 1) (t := 272) (e := 29) (n := 20) (by kernel_rfl) (by kernel_rfl) Tryz.underlying272 Tryz.underlying29 (by kernel_rfl) (by kernel_rfl) h2
end Go.Proofs.YtiacalnkmnckjaaGreatDoor
end

section
/- The closed runs of chapter 5's statements: awake, TreeKnown. Conditions: strconv's table lies as it is laid. -/
namespace Go.Proofs.YtiacalnkmnckjaaGreatDoor
open Go.RowKit Go.As
set_option linter.unusedVariables false

def evTab : List Nat := [1, 10, 100, 1000, 10000, 100000, 1000000, 10000000, 100000000, 1000000000, 10000000000, 100000000000, 1000000000000, 10000000000000, 100000000000000, 1000000000000000, 10000000000000000, 100000000000000000, 1000000000000000000, 10000000000000000000]
theorem tab_at {w : World} (h : Tab w) : Sy.TabAt 1 evTab w := by
  unfold Tab Lib.TabIs World.var? at h
  have hg : Tryz.prog.globalNamed "internal/strconv.uint64pow10" = some 1 := by kernel_rfl
  simp only [hg, Option.bind_some] at h
  have e : (Lib.pow10Tab.map fun z => Value.int .u64 z).toArray = (evTab.map fun (n : Nat) => Value.int .u64 (n : Int)).toArray := by kernel_rfl
  rw [e] at h
  split at h
  · rename_i cs ty fz hh
    injection h with h
    subst h
    exact ⟨ty, fz, hh⟩
  · cases h
def syIT : Sy.Aux := ⟨evId, fun _ _ => none, Tab⟩
theorem sy_fineT : Sy.Fine Tryz.prog syIT := Sy.fine_of evId_ok (fun f args av h => by cases h) (fun w w' h hb => h.below hb) (by kernel_rfl)
theorem sy_glob : 1 < Tryz.prog.globals.size := of_decide_eq_true (by kernel_rfl)
set_option maxRecDepth 100000 in
theorem awake05_reckoned : Sy.okTrue (Sy.reckonT Tryz.prog syIT 1000 1 evTab 24 []) = true := by kernel_rfl
theorem awake05_any (w : World) (ht : Tab w) : Calls Tryz.prog 24 #[] w fun e w' => e = .returned (.bool true) ∧ Below w.heap.size w w' :=
  Sy.reckonT_true sy_mixed sy_fineT sy_glob Tryz.func24 (by kernel_rfl) awake05_reckoned w (tab_at ht) ht
end Go.Proofs.YtiacalnkmnckjaaGreatDoor
end
