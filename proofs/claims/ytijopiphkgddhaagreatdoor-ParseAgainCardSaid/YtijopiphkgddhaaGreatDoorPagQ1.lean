/- Texts of this proof, one behind the other. Conditions: those in each theorem. -/
set_option linter.unusedVariables false
set_option linter.unusedSimpArgs false
section
namespace Go
abbrev aA:=@List.length_append
abbrev aB:=@List.length_cons
theorem aC {α β : Type _} {f : α → β} {o : Option α} {b : β} (h : o.map f = some b) : ∃ a, o = some a ∧ f a = b := Option.map_eq_some_iff.1 h
abbrev aD:=@List.length_nil
abbrev aE:=@Nat.lt_of_lt_of_le
abbrev aF:=@List.eq_nil_of_length_eq_zero
abbrev aG:=@Nat.mul_assoc
abbrev aH:=@Nat.le_refl
abbrev aI:=@Bool.and_eq_true
abbrev aJ:=@Bool.eq_false_or_eq_true
abbrev aK:=@List.append_assoc
abbrev aL:=@Option.map_some
abbrev aM:=@Nat.mul_le_mul_right
abbrev aN:=@Nat.le_of_ble_eq_true
abbrev aO:=@List.getElem?_eq_getElem
abbrev aP:=@List.getElem?_append_right
theorem aQ {α : Type _} {o : Option α} (h : o.isSome = true) : ∃ a, o = some a := Option.isSome_iff_exists.1 h
abbrev aR:=@Nat.two_pow_pos
abbrev aT:=@List.length_take
abbrev aU:=@Option.map_eq_none_iff
abbrev aV:=@Nat.eq_of_beq_eq_true
abbrev aW:=@Nat.pow_add
abbrev aY:=@Nat.lt_or_ge
abbrev aZ:=@List.append_cancel_left
abbrev bA:=@List.mem_cons_of_mem
abbrev bC:=@Nat.le_trans
abbrev bD:=@Nat.add_mul
theorem bE {α : Type _} {p : α → Bool} {l : List α} (h : l.all p = true) : ∀ x ∈ l, p x = true := List.all_eq_true.1 h
abbrev bF:=@List.append_nil
abbrev bG:=@List.getElem?_append_left
abbrev bH:=@Nat.zero_add
abbrev bI:=@List.length_drop
theorem bJ {α : Type _} {a b : α} {l : List α} (h : a ∈ b :: l) : a = b ∨ a ∈ l := List.mem_cons.1 h
abbrev bL:=@Nat.le_add_right
abbrev bM:=@Nat.eq_zero_or_pos
abbrev bN:=@Bool.false_eq_true
abbrev bO:=@List.cons_append
abbrev bP:=@Nat.pow_le_pow_right
abbrev bQ:=@List.mem_cons_self
abbrev bR:=@List.nil_append
abbrev bS:=@List.singleton_append
abbrev bT:=@Option.getD_some
end Go
end
