/- The reckoner's operations on strings and their bytes. Any program; no conditions. -/
import Derived.Test.YtiacalnkmnckjaaEv4
import Derived.Lib.ConvBytes
import Derived.Lib.AppendStr
import Derived.Lib.UnsafeStr
import Derived.Lib.Builder
namespace Go.Ev
open Go Go.RowKit
set_option linter.unusedVariables false
set_option linter.unusedSimpArgs false

def byteAVs : List UInt8 → List AV
  | [] => []
  | b :: l => .v (.int .u8 (.ofNat b.toNat)) :: byteAVs l
theorem byteAVs_LR {γ : Gm} : ∀ (l : List UInt8), LR γ (byteAVs l) (l.map fun b => Value.int .u8 b.toNat)
  | [] => LR.nil
  | b :: l => LR.cons (.v _) (byteAVs_LR l)

section
variable {P : Program} {B G : Nat} {γ : Gm} {h : Hp} {c : Nat} {w w0 : World} {o : Oper} {a : Act} {K : Act → World → Prop} {Q : Exit → Act → World → Prop}

/-! a string turned into bytes -/
def u8B (P : Program) (e : TypeId) : Bool := match P.underlying e with
  | some (.int .u8) => true
  | _ => false
theorem u8B_ok {e : TypeId} (hh : u8B P e = true) : P.underlying e = some (.int .u8) := by
  unfold u8B at hh
  split at hh
  · assumption
  · cases hh
def aStrBytes (P : Program) (src dst : TypeId) (x : AV) (h : Hp) (c : Nat) : R1 := match x with
  | .v (.string s) => match P.underlying src, P.underlying dst with
    | some _, some (.slice e) => match u8B P e, Nat.ble s.data.toList.length 140737488355328 with
      | true, true => .val (.slg c 0 s.data.toList.length 1) (h.put c (some (.cells e true false false s.data.toList.length (putL .leaf 0 (byteAVs s.data.toList))))) (Nat.succ c)
      | _, _ => .fail
    | _, _ => .fail
  | _ => .fail
theorem aStrBytes_ok (hr : HR B G γ h c w) (hb : Below B w0 w) {src dst : TypeId} {x : Operand} {ax : AV} (ho : o.op = .convert src dst x) (hx : VR γ ax (a.eval x)) (hk : KOk B G γ w0 a o.dst K Q (aStrBytes P src dst ax h c)) : o.wp P a w K Q := by
  unfold aStrBytes at hk
  split at hk <;> first | exact hk.elim | skip
  rename_i s
  split at hk <;> first | exact hk.elim | skip
  rename_i u e hu hd
  split at hk <;> first | exact hk.elim | skip
  rename_i he hle
  have he := u8B_ok he
  have hle := Nat.le_of_ble_eq_true hle
  have hsz : s.data.toList.length = s.size := Array.length_toList
  generalize hvx : a.eval x = vx at hx
  cases hx
  have hge := grownCap_ge w s.size 0 e
  have hml : maxLen = 9223372036854775807 := rfl
  have hcm : grownCap w s.size 0 e ≤ maxLen := grownCap_le_maxLen w s.size 0 e (by rw [hml]; omega)
  have hrun := Lib.run_convert_string_bytes (P := P) w src dst e s hu hd he
  have hle2 := Gm.upd_le (hr.fresh c (Nat.le_refl _)) (w.heap.size, (Lib.bytesCells w e s).size)
  have hcs : (Lib.bytesCells w e s).size = grownCap w s.size 0 e := by
    simp only [Lib.bytesCells, Array.size_append, Array.size_map, Array.size_replicate]
    have : s.data.size = s.size := rfl
    omega
  refine wp_val (v := .slice (some ⟨w.heap.size, 0, none⟩) s.data.toList.length (grownCap w s.size 0 e)) (w' := Lib.bytesWorld w e s) ?_
    (hk _ _ _ hle2 (.slg (Gm.upd_same _ _ _) (by omega) hcm (fun _ => ⟨rfl, by rw [hcs]; omega⟩)) ?_ ?_)
  · unfold execOp
    rw [ho]
    simp only [hvx, Sem.run_bind, hrun, Result.andThen_ok, hsz]
    rfl
  · refine hr.add (w.heap.size, (Lib.bytesCells w e s).size) (.cells e true false false s.data.toList.length (putL .leaf 0 (byteAVs s.data.toList))) (by rw [Lib.bytesWorld_size]; omega) (fun b blk p h1 h2 => ?_) ⟨fun _ => hr.base, Lib.bytesCells w e s, _, Lib.bytesWorld_at_new w e s, rfl, ⟨fun e => (by cases e), fun e => (by cases e)⟩, fun i av hlt hi => ?_⟩
    · obtain ⟨q, hq, hbr⟩ := hr.live b blk h1
      obtain rfl : q = p := by rw [hq] at h2; injection h2
      have := hbr.lt
      exact ⟨Lib.bytesWorld_at_old w e s _ hbr.lt, by simp; omega⟩
    · have hl := byteAVs_LR (γ := γ) s.data.toList
      have hll := hl.1
      simp only [List.length_map] at hll
      rw [putL_get, if_pos ⟨by omega, by omega⟩] at hi
      obtain ⟨v, h1, h2⟩ := hl.get (by simpa using hi)
      refine ⟨v, ?_, h2.mono hle2⟩
      unfold Lib.bytesCells
      have hlt' : i < s.data.size := by simpa using hlt
      rw [Array.getElem?_append_left (by simpa using hlt')]
      simpa using h1
  · exact ⟨hb.os, hb.tape, hb.output, by rw [Lib.bytesWorld_size]; have := hb.size; omega, fun k hk' => by rw [Lib.bytesWorld_at_old w e s k (by have := hr.base; omega)]; exact hb.block k hk'⟩

end
end Go.Ev
