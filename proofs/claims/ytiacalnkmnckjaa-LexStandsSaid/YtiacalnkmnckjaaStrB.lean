/- A text turned into bytes: the world behind the conversion. Any program; no conditions. -/
import Derived.Test.YtiacalnkmnckjaaBytes
import Derived.Lib.ConvBytes
namespace Go.As
open Go Go.RowKit
section
variable {w : World} {e : TypeId} {l : List UInt8}
theorem bw_below (w : World) (e : TypeId) (l : List UInt8) : Below w.heap.size w (Lib.bytesWorld w e (str l)) :=
  ⟨rfl, rfl, rfl, by rw [Lib.bytesWorld_size]; omega, fun j hj => Lib.bytesWorld_at_old w e (str l) j hj⟩
theorem bw_sl (w : World) (e : TypeId) (l : List UInt8) : Sl (Lib.bytesWorld w e (str l)) 1 (some ⟨w.heap.size, 0, none⟩) l.length (byt l) := by
  refine ⟨by simp [byt], fun _ => ⟨_, rfl, by rw [Lib.bytesWorld_size]; exact Nat.lt_succ_self _, fun j u hu => ?_⟩⟩
  obtain ⟨x, hx, rfl⟩ := byt_get hu
  have hj : j < l.length := (List.getElem?_eq_some_iff.1 hx).1
  have : (⟨w.heap.size, 0, none⟩ : Addr).add j = ⟨w.heap.size, j, none⟩ := by unfold Addr.add; split <;> simp_all
  rw [this, Lib.bytesWorld_cell w e (str l) j (by rw [str_size]; exact hj), str_data]
  simp [hx]
theorem bw_slN (w : World) (e : TypeId) (l : List UInt8) (n : Nat) (h : l.length = n) : Sl (Lib.bytesWorld w e (str l)) 1 (some ⟨w.heap.size, 0, none⟩) n (byt l) := by
  rw [← h]; exact bw_sl w e l
theorem bw_capN (w : World) (e : TypeId) (n : Nat) : n ≤ grownCap w n 0 e := grownCap_ge w n 0 e
theorem bw_cap (w : World) (e : TypeId) (l : List UInt8) : l.length ≤ grownCap w l.length 0 e := grownCap_ge w l.length 0 e
end
end Go.As
