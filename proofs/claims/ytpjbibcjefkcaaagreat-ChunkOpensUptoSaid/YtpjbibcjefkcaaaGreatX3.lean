import Derived.Test.YtpjbibcjefkcaaaGreatX2
namespace Go.Proofs.YtpjbibcjefkcaaaGreat
open Go.RowKit

set_option maxRecDepth 100000 in
theorem vclone_ok (w : World) (B : Nat) (v : Value) (xs : List (Bool × Str)) (h : Rd kVal 74 w B v xs) (hl : xs.length ≤ 1000000) : Calls Tryz.prog 107 #[v] w (Fresh kVal 74 w xs) := by
  obtain ⟨A, c, rfl, h1, h2⟩ := h.form
  cases A with
  | none =>
    obtain rfl : xs = [] := by
      obtain ⟨A, c, cs, hv, k1, k2, k3, k0, k4⟩ := h
      injection hv with e1 e2 e3
      have := k0 e1.symm
      exact List.eq_nil_of_length_eq_zero (by omega)
    have kn := fun w : World => Lib.run_eql_slice_nil (P := Tryz.prog) w 55 74 none 0 c 0 0 Tryz.underlying55
    go_enter Tryz.func107, Tryz.ntmps107
    go_wp2
    go_ret
    exact ⟨_, rfl, Own.nil _ _ _ _ _, Below.refl _ _⟩
  | some ad =>
    have h' := h.below (below_alloc (.cells #[] 74))
    have kn := fun w : World => Lib.run_eql_slice_nil (P := Tryz.prog) w 55 74 (some ad) xs.length c 0 0 Tryz.underlying55
    go_enter Tryz.func107, Tryz.ntmps107
    go_wp2_with (at_builtin; refine appRow (b := w.heap.size) (B := 0) Tryz.underlying55 Tryz.i74 (own_lit (xs := []) (n := 0) (cells := #[]) rfl rfl (Nat.le_refl _) (by omega)) h' (fun _ _ _ h => h) (by simp) (by simp; omega) ?_)
    intro v1 w1 HO1 hw1
    go_wp2
    go_ret
    exact ⟨_, rfl, by simpa using HO1, hw1.below (below_alloc _) (Nat.le_refl _) (by simp)⟩

set_option maxRecDepth 100000 in
theorem call_ok (w : World) (gx : Nat) (X vals at_) (h : ChunkAt w gx X vals at_) (hl : vals.length ≤ 1000000) : Calls Tryz.prog 49 #[.pointer (some ⟨gx, 0, none⟩)] w (Fresh kVal 74 w vals) := by
  obtain ⟨v1, v6, h1, h2, h3⟩ := h
  obtain ⟨A, c, rfl, _, _⟩ := h2.form
  obtain ⟨_, _, _, _, _, _, _, q0, q1, _⟩ := h1.cells
  have hu := Tryz.underlying165
  clear h1
  go_enter Tryz.func49, Tryz.ntmps49
  go_wp2_with fail
  refine (vclone_ok w 0 _ vals h2 hl).mono ?_
  rintro e w1 ⟨v1, rfl, HO, HB⟩
  go_wp2_with fail
  go_ret
  exact ⟨_, rfl, HO, HB⟩
end Go.Proofs.YtpjbibcjefkcaaaGreat
