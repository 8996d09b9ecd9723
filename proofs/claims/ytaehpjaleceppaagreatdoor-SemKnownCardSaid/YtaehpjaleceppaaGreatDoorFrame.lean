/- The last step of a law's row: from 'it returns true and nothing that was there has turned' to what the row says. Any program, any arguments. -/
import Derived.Test.YtaehpjaleceppaaGreatDoorBase
import Derived.OpenShut
import Derived.Carry
import Derived.Deep.Slices
namespace Go.As
open Go Go.RowKit Go.WideShapes Go.ChangeShapes Go.ChangeAt
set_option linter.unusedVariables false

section
variable {H : Type} {enc : TypeId × Value → H} {P : Program}

/-- arguments read as they did, where nothing that was there has turned -/
theorem args_stay (hl : laidOutB P = true) {W W' : World} (hb : Below W.heap.size W W') {sp : Nat → Bool} : ∀ {ts : List TypeId} {vs : List Value} {ds : List (DataW H)} {ps : List MemPlace},
    (ts.all fun t => P.readableRec t && decide (t < P.types.size)) = true →
    DataW.TrodAll enc P W 0 (fun _ => true) true ts vs ds ps → (∀ x ∈ ps, x.block < W.heap.size) → (∀ x ∈ ps, sp x.block = true) → DataW.TrodAll enc P W' 0 sp true ts vs ds ps
  | [], [], [], _, _, h, _, _ => h
  | t :: ts, v :: vs, d :: ds, ps, hr, h, hlt, hs => by
    obtain ⟨p, q, h1, h2, e⟩ := h
    rw [List.all_cons, Bool.and_eq_true, Bool.and_eq_true] at hr
    refine ⟨p, q, ?_, ?_, e⟩
    · exact WideElems.Trod_stays hl hr.1.1 (of_decide_eq_true hr.1.2) h1 (fun x hx => hb.same (hlt x (by rw [e]; exact List.mem_append_left _ hx))) (fun x hx => hs x (by rw [e]; exact List.mem_append_left _ hx))
    · exact args_stay hl hb hr.2 h2 (fun x hx => hlt x (by rw [e]; exact List.mem_append_right _ hx)) (fun x hx => hs x (by rw [e]; exact List.mem_append_right _ hx))

theorem law_post {f : Func} {s : ChangeSpec} {apart again : Bool} {W W' : World} {args : Array Value} {ds gs : List (DataW H)} {before : List MemPlace} {T : TypeId}
    (hl : laidOutB P = true) (hr : (f.params.toList.all fun t => P.readableRec t && decide (t < P.types.size)) = true)
    (hT : P.underlying T = some .bool) (hres : f.resultTypes = #[T]) (hv : s.vars = [])
    (hW : DataW.Whole enc P f.params.toList s.vars apart W args.toList ds gs before)
    (hs : (s.fn H (ds ++ gs)).results = [.lit (.bool true)]) (ha : (s.fn H (ds ++ gs)).args = ds) (hvs : (s.fn H (ds ++ gs)).vars = [])
    (hb : Below W.heap.size W W') : s.post enc P f apart true false again W args (.bool true) W' := by
  have hlt : ∀ p ∈ before, p.block < W.heap.size := fun p hp => hW.lt p hp
  obtain ⟨p, q, hA, hV, rfl, hz, hn⟩ := id hW
  rw [hv] at hV
  obtain ⟨rfl, rfl⟩ := trodVars_none hV
  have hpl : ∀ x ∈ p, x.block < W.heap.size := fun x hx => hlt x (by simpa using hx)
  have hok : ∀ (j : Nat) (t : TypeId) (r : Value), f.resultTypes[j]? = some t → ((Value.bool true).resultList f.resultTypes.size)[j]? = some r → Value.okWide P W' .any 0 t r := by
    rw [hres]
    exact ok_one hres rfl (okWide_bool_mk hT true) |> fun h => by simpa [hres] using h
  have hres' : ∀ (b : Nat) (sp : Nat → Bool) (hd : Bool), DataW.TrodAll enc P W' b sp hd f.resultTypes.toList ((Value.bool true).resultList f.resultTypes.size) (s.fn H (ds ++ [])).results [] := by
    intro b sp hd
    rw [hres, hs]
    exact trodAll_mk1 (shut_bool hT true)
  have hA1 : ∀ sp : Nat → Bool, (∀ x ∈ p, sp x.block = true) → DataW.TrodAll enc P W' 0 sp true f.params.toList args.toList (s.fn H (ds ++ [])).args p := by
    intro sp hsp
    rw [ha]; exact args_stay hl hb hr hA hpl hsp
  have hV1 : ∀ sp : Nat → Bool, DataW.TrodVars enc P W' sp s.vars (s.fn H (ds ++ [])).vars [] := by
    intro sp
    rw [hv, hvs]; exact rfl
  refine ⟨ds, [], p ++ [], [], p, [], hW, hres' _ _ _, hA1 _ (fun x hx => by simpa using hpl x hx), hV1 _, World.keptBut_mono (fun x hx => ⟨hx, Or.inr (by simpa using hx)⟩) (hb.frame (· ∈ p ++ [])), fun _ => ?_⟩
  refine ⟨hok, _, _, ([] ++ p) ++ [], ⟨[] ++ p, [], trodAll_append (hA1 _ (fun _ _ => rfl)) (hres' _ _ _), hV1 _, rfl, ?_, ?_⟩, ?_⟩
  · intro b off hp
    have hin : MemPlace.cell b off ∈ p ++ [] := by simpa using hp
    rw [hb.frozen (hlt _ hin)]
    exact hz b off hin
  · intro h
    have := hn h
    simpa using this
  · intro x hx _
    simpa using hx

/-- an argument that is a slice, read as a list: 'cells' tells an element's cells -/
theorem open_list {α : Type} {w : World} {base : Nat} {held : Bool} {t e : TypeId} {v : Value} {d : DataW H} {ps : List MemPlace} (cells : α → List Value) (R : α → Prop)
    (ht : P.underlying t = some (.slice e)) (hc : 0 < P.cellsOf e)
    (hdec : ∀ n cs z, DataW.trod enc P w 0 (fun _ => true) held n e cs = some z → ∃ x, cs = cells x ∧ R x)
    (hval : Value.okWide P w .any base t v) (hd : DataW.Trod enc P w 0 (fun _ => true) held t v d ps) :
    ∃ (a : Option Addr) (n c : Nat) (xs : List α), v = .slice a n c ∧ xs.length = n ∧ n ≤ c ∧ c ≤ maxLen ∧ (∀ x ∈ xs, R x) ∧ Sl w (P.cellsOf e) a n (xs.flatMap cells) := by
  obtain ⟨a0, len, cap, rfl⟩ := okWide_slice ht hval
  obtain ⟨fuel, hf⟩ := hd
  rcases Go.Deep.open_slice ht hf with ⟨hcs, -⟩ | ⟨a, len', cap', m, n, D, Pl, hcs, -, hl, hm, hmm, -, hi⟩
  · have : Value.slice a0 len cap = .slice none 0 0 := by simpa [Value.cells] using hcs
    injection this with h1 h2 h3
    subst h1 h2 h3
    exact ⟨none, 0, 0, [], rfl, rfl, Nat.le_refl _, by simp [maxLen], by simp, Sl.empty _ _ _⟩
  · have : Value.slice a0 len cap = .slice (some a) len' cap' := by simpa [Value.cells] using hcs
    injection this with h1 h2 h3
    subst h1 h2 h3
    simp only [if_true] at hmm
    subst hmm
    have key : ∀ k, k ≤ len → ∃ xs : List α, xs.length = k ∧ (∀ x ∈ xs, R x) ∧ (xs.flatMap cells).length = k * P.cellsOf e ∧ ∀ j u, (xs.flatMap cells)[j]? = some u → w.cell? (a.add j) = some u := by
      intro k
      induction k with
      | zero => intro _; exact ⟨[], rfl, by simp, by simp, by simp⟩
      | succ k ih =>
        intro hk
        obtain ⟨xs, hx1, hx2, hx3, hx4⟩ := ih (by omega)
        obtain ⟨cs', hc1, hc2⟩ := hi k (by omega)
        obtain ⟨-, hcl, hat⟩ := World.cells?_some hc1
        obtain ⟨x, rfl, hx⟩ := hdec _ _ _ hc2
        refine ⟨xs ++ [x], by simp [hx1], ?_, ?_, ?_⟩
        · intro y hy
          simp at hy
          rcases hy with hy | rfl
          · exact hx2 y hy
          · exact hx
        · simp [hx3, hcl, Nat.add_mul]
        · intro j u hu
          simp only [List.flatMap_append, List.flatMap_cons, List.flatMap_nil, List.append_nil] at hu
          rcases Nat.lt_or_ge j (k * P.cellsOf e) with hj | hj
          · rw [List.getElem?_append_left (by omega)] at hu
            exact hx4 j u hu
          · rw [List.getElem?_append_right (by omega), hx3] at hu
            have hj2 : j - k * P.cellsOf e < P.cellsOf e := by
              have := (List.getElem?_eq_some_iff.1 hu).1
              omega
            have := hat _ hj2
            rw [add_add', show k * P.cellsOf e + (j - k * P.cellsOf e) = j by omega] at this
            rw [this, hu]
    obtain ⟨xs, hx1, hx2, hx3, hx4⟩ := key len (Nat.le_refl _)
    refine ⟨some a, _, _, xs, rfl, hx1, hl, hm, hx2, hx3, fun hn => ⟨a, rfl, ?_, hx4⟩⟩
    have hpos : 0 < (xs.flatMap cells).length := by rw [hx3]; exact Nat.mul_pos hn hc
    have := World.block_lt_of_cell? w _ (hx4 0 _ (List.getElem?_eq_getElem hpos))
    rwa [blk_add] at this
end
end Go.As
