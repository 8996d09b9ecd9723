/- The plain side of ProtoBack: what is read of a line is printed as the line; and how a request by value is opened. Conditions: those in each theorem. -/
import Derived.Test.YtldkcfhigcmoaaaDoorProtoU
import Derived.Test.YtldkcfhigcmoaaaDoorDecQ
import Derived.Test.YtldkcfhigcmoaaaDoorOpen
import Derived.Test.YtldkcfhigcmoaaaDoorBnd
namespace Go.Proofs.YtldkcfhigcmoaaaDoor
open Go.RowKit Go.As
open Go.ChangeShapes Go.WideShapes Go.ChangeAt
set_option linter.unusedVariables false

theorem rd_itoa {x : List UInt8} {least most : Int} (h : numOk x least most = true) : Lib.itoa (rdE x most).1 = x := by
  unfold numOk at h
  have h0 := (of_decide_eq_true h).1
  rcases rdE_cases x most with ⟨e, he, h2, -⟩ | ⟨N, hN, hd, -, -⟩
  · rw [he] at h0
    simp only at h0
    omega
  · rw [hN]
    simp only
    rw [itoa_nat, hd]
theorem kd_inv (x : List UInt8) : (kdE x = (1, 2) → x = [65, 85, 84, 72]) ∧ (kdE x = (2, 4) → x = [83, 85, 66, 77, 73, 84]) ∧ (kdE x = (3, 2) → x = [83, 84, 65, 84, 85, 83]) ∧ (kdE x = (4, 1) → x = [76, 73, 83, 84]) ∧
    (kdE x = (5, 2) → x = [67, 65, 78, 67, 69, 76]) ∧ (kdE x = (6, 2) → x = [87, 65, 84, 67, 72]) ∧ (kdE x = (7, 2) → x = [82, 69, 80, 76, 65, 89]) ∧ (kdE x = (8, 1) → x = [81, 85, 73, 84]) ∧ (kdE x = (9, 1) → x = [67, 79, 77, 80, 65, 67, 84]) := by
  unfold kdE
  repeat' split
  all_goals simp_all
theorem hex_back {x : List UInt8} (h : hexE x = 0) : hexL ((unhexL x).getD []) = x := by
  unfold hexE at h
  cases hu : unhexL x with
  | none => rw [hu] at h; simp at h
  | some b => exact hexL_unhexL _ x (Nat.le_refl _) b hu
theorem two_words {l : List (List UInt8)} (h : l.length = 2) : ∃ a b, l = [a, b] := by
  match l, h with
  | [a, b], _ => exact ⟨a, b, rfl⟩
theorem one_word {l : List (List UInt8)} (h : l.length = 1) : ∃ a, l = [a] := by
  match l, h with
  | [a], _ => exact ⟨a, rfl⟩
theorem four_words {l : List (List UInt8)} (h : l.length = 4) : ∃ a b c d, l = [a, b, c, d] := by
  match l, h with
  | [a, b, c, d], _ => exact ⟨a, b, c, d, rfl⟩
def lineP (p : PR) : List UInt8 := lineL p.kind p.tok p.id p.sp p.wk p.ln
/-- the line of what is read is the line -/
theorem pr_line {s : List UInt8} (h : (prE s).err = 0) : lineP (prE s) = s ∧ (prE s).tok.length ≤ 64 := by
  unfold prE at h ⊢
  by_cases hE : (wordsE s).1 = 0
  case neg => rw [if_pos hE] at h; exact absurd h (by decide)
  rw [if_neg (by simpa using hE)] at h ⊢
  have hj : Lib.join (JWS s) [32] = s := by rw [JWS_split hE]; exact join_splitW s
  obtain ⟨k, m, hkm⟩ : ∃ k m, kdE (wd (JWS s) 0) = (k, m) := ⟨_, _, rfl⟩
  have hinv := kd_inv (wd (JWS s) 0)
  have hcs := kd_cases (wd (JWS s) 0)
  rw [hkm] at h hinv hcs ⊢
  simp only at h ⊢
  by_cases hk0 : k = 0
  · rw [if_pos hk0] at h; exact absurd h (by decide)
  rw [if_neg hk0] at h ⊢
  by_cases hm : ((JWS s).length : Int) = m
  case neg => rw [if_pos hm] at h; exact absurd h (by decide)
  rw [if_neg (by simpa using hm)] at h ⊢
  obtain ⟨v1, v2, v3, v4, v5, v6, v7, v8, v9⟩ := hinv
  rcases hcs with e | e | e | ⟨q, e, hq⟩ | ⟨q, e, hq⟩
  · injection e with e1 e2; exact absurd e1 hk0
  · injection e with e1 e2
    subst e1 e2
    obtain ⟨x0, x1, hx⟩ := two_words (l := JWS s) (by omega)
    have hw1 : wd (JWS s) 1 = x1 := by rw [hx]; rfl
    have hw0 : x0 = [65, 85, 84, 72] := by have := v1 rfl; rw [hx] at this; exact this
    unfold prK at h ⊢
    rw [if_pos rfl] at h ⊢
    by_cases hc : hexE (wd (JWS s) 1) = 0 ∧ 1 ≤ (pTok s).length ∧ (pTok s).length ≤ 64
    · rw [if_pos hc]
      refine ⟨?_, hc.2.2⟩
      have hb : hexL (pTok s) = x1 := by unfold pTok; rw [hex_back hc.1, hw1]
      unfold lineP lineL
      simp only
      rw [if_pos trivial, hb, ← hj, hx, hw0, Lib.join_cons]
      simp [Lib.joinTail]
    · rw [if_neg hc] at h; exact absurd h (by decide)
  · injection e with e1 e2
    subst e1 e2
    obtain ⟨x0, x1, x2, x3, hx⟩ := four_words (l := JWS s) (by omega)
    have hw0 : x0 = [83, 85, 66, 77, 73, 84] := by have := v2 rfl; rw [hx] at this; exact this
    unfold prK at h ⊢
    rw [if_neg (by decide), if_pos rfl] at h ⊢
    by_cases hc : (rjNum s 1 1 1099511627776 && rjNum s 2 1 1024 && rjNum s 3 1 512) = true
    · rw [if_pos hc]
      refine ⟨?_, by simp⟩
      unfold rjNum at hc
      rw [hx] at hc
      simp only [Bool.and_eq_true] at hc
      have h1 := rd_itoa hc.1.1
      have h2 := rd_itoa hc.1.2
      have h3 := rd_itoa hc.2
      unfold lineP lineL
      simp only
      rw [if_neg (by decide), if_pos trivial]
      unfold rjX subWs
      rw [hx, h1, h2, h3]
      rw [← hj, hx, hw0]
      rfl
    · rw [if_neg hc] at h; exact absurd h (by decide)
  · injection e with e1 e2
    rw [← e1] at hq
    rw [e2] at hm
    obtain ⟨x0, hx⟩ := one_word (l := JWS s) (by omega)
    unfold prK at h ⊢
    rw [if_neg (by omega), if_neg (by omega), if_pos hq] at h ⊢
    refine ⟨?_, by simp⟩
    have hs : s = x0 := by rw [← hj, hx, Lib.join_one]
    have hwx : wd (JWS s) 0 = x0 := by rw [hx]; rfl
    rw [hwx] at v4 v8 v9
    unfold lineP lineL
    simp only
    rcases hq with hq | hq | hq
    · subst hq; rw [hs, v4 (by rw [e2])]; rfl
    · subst hq; rw [hs, v8 (by rw [e2])]; rfl
    · subst hq; rw [hs, v9 (by rw [e2])]; rfl
  · injection e with e1 e2
    rw [← e1] at hq
    rw [e2] at hm
    obtain ⟨x0, x1, hx⟩ := two_words (l := JWS s) (by omega)
    unfold prK at h ⊢
    rw [if_neg (by omega), if_neg (by omega), if_neg (by omega)] at h ⊢
    by_cases hc : rjNum s 1 1 1073741824 = true
    · rw [if_pos hc]
      refine ⟨?_, by simp⟩
      unfold rjNum at hc
      rw [hx] at hc
      have h1 := rd_itoa hc
      have hwx : wd (JWS s) 0 = x0 := by rw [hx]; rfl
      rw [hwx] at v3 v5 v6 v7
      unfold lineP lineL
      simp only
      unfold rjX
      rw [hx, h1]
      rw [← hj, hx, Lib.join_cons]
      rcases hq with hq | hq | hq | hq
      · subst hq; rw [v3 (by rw [e2])]; simp [Lib.joinTail, wd]
      · subst hq; rw [v5 (by rw [e2])]; simp [Lib.joinTail, wd]
      · subst hq; rw [v6 (by rw [e2])]; simp [Lib.joinTail, wd]
      · subst hq; rw [v7 (by rw [e2])]; simp [Lib.joinTail, wd]
    · rw [if_neg hc] at h; exact absurd h (by decide)
theorem sameB_self (p : PR) : sameB p p.kind p.tok p.id p.sp p.wk p.ln = true := by simp [sameB]
/-- what is read of a line is printed as the line -/
theorem pt_back {s : List UInt8} (h : (prE s).err = 0) : ptL (prE s).kind (prE s).tok (prE s).id (prE s).sp (prE s).wk (prE s).ln = s ∧ ptF (prE s).kind (prE s).tok (prE s).id (prE s).sp (prE s).wk (prE s).ln = 0 := by
  obtain ⟨h1, h2⟩ := pr_line h
  unfold lineP at h1
  have : ptOk (prE s).kind (prE s).tok (prE s).id (prE s).sp (prE s).wk (prE s).ln = true := by
    unfold ptOk
    rw [h1, decide_eq_true h2, decide_eq_true h, sameB_self]; rfl
  unfold ptL ptF
  rw [if_pos this, if_pos this, h1]
  exact ⟨rfl, rfl⟩

abbrev QArg := Int × BArg × Int × Int × Int × Int
def QAt (w : World) (x : QArg) : Prop := BytAt w x.2.1 ∧ I64 x.1 ∧ I64 x.2.2.1 ∧ I64 x.2.2.2.1 ∧ I64 x.2.2.2.2.1 ∧ I64 x.2.2.2.2.2
theorem array6 {α : Type} {cs : Array α} (h : cs.size = 6) : ∃ c0 c1 c2 c3 c4 c5, cs = #[c0, c1, c2, c3, c4, c5] := by
  obtain ⟨l⟩ := cs
  match l, h with
  | [c0, c1, c2, c3, c4, c5], _ => exact ⟨c0, c1, c2, c3, c4, c5, rfl⟩
variable {H : Type} {enc : TypeId × Value → H} {w : World} {v : Value} {d : DataW H} {ps : List MemPlace} {base : Nat}
set_option maxRecDepth 100000 in
theorem req_open (hval : Value.okWide Tryd.prog w .any base 69 v) (hd : DataW.Trod enc Tryd.prog w 0 (fun _ => true) true 69 v d ps) (_ : ∀ x ∈ ps, x.block < w.heap.size) :
    ∃ x : QArg, v = .agg (rqC x.1 (.slice x.2.1.1 x.2.1.2.1 x.2.1.2.2.1) x.2.2.1 x.2.2.2.1 x.2.2.2.2.1 x.2.2.2.2.2) ∧ QAt w x := by
  have hs := Tryd.underlying69
  have hcell : Tryd.prog.cellsOf 3 = 1 := by kernel_rfl
  have hcelb : Tryd.prog.cellsOf 23 = 1 := by kernel_rfl
  obtain ⟨cs, rfl, hsz⟩ := okWide_struct hs hval
  have h6 : Tryd.prog.cellsOf 69 = 6 := by kernel_rfl
  obtain ⟨c0, c1, c2, c3, c4, c5, rfl⟩ := array6 (hsz.trans h6)
  obtain ⟨fuel, hf⟩ := hd
  obtain ⟨xs, n, -, -, -, hlen, hfs⟩ := DataW.trod_struct hs hf
  have key : ∀ (c : Value) (i : Nat), i < 6 → DataW.trod enc Tryd.prog w 0 (fun _ => true) true n 3 [c] = xs[i]? → ∃ m, c = .int .i64 m ∧ I64 m := by
    intro c i hi hy
    rw [List.getElem?_eq_getElem (by rw [hlen]; exact hi)] at hy
    obtain ⟨m, hm, -, hw⟩ := DataW.trod_int Tryd.underlying3 hy
    simp at hm
    exact ⟨m, hm, i64_bnd hw⟩
  obtain ⟨m0, rfl, k0⟩ := key c0 0 (by decide) (by have := hfs 0 _ rfl; simpa [Value.cells, hcell] using this)
  obtain ⟨m2, rfl, k2⟩ := key c2 2 (by decide) (by have := hfs 2 _ rfl; simpa [Value.cells, hcell] using this)
  obtain ⟨m3, rfl, k3⟩ := key c3 3 (by decide) (by have := hfs 3 _ rfl; simpa [Value.cells, hcell] using this)
  obtain ⟨m4, rfl, k4⟩ := key c4 4 (by decide) (by have := hfs 4 _ rfl; simpa [Value.cells, hcell] using this)
  obtain ⟨m5, rfl, k5⟩ := key c5 5 (by decide) (by have := hfs 5 _ rfl; simpa [Value.cells, hcell] using this)
  have g1 : DataW.trod enc Tryd.prog w 0 (fun _ => true) true n 23 [c1] = xs[1]? := by
    have := hfs 1 _ rfl
    simpa [Value.cells, hcelb] using this
  rw [List.getElem?_eq_getElem (by rw [hlen]; decide)] at g1
  obtain ⟨b, hb, hat⟩ := bytes_dec _ _ _ g1
  unfold bargC at hb
  simp at hb
  subst hb
  exact ⟨(m0, b, m2, m3, m4, m5), rfl, hat, k0, k2, k3, k4, k5⟩
end Go.Proofs.YtldkcfhigcmoaaaDoor
