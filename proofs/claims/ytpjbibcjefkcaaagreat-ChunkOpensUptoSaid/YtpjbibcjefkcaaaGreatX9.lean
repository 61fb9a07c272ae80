import Derived.Test.YtpjbibcjefkcaaaGreatX8
namespace Go.Proofs.YtpjbibcjefkcaaaGreat
open Go.RowKit

/-! ### Measure -/
set_option maxRecDepth 100000 in
set_option maxHeartbeats 1600000 in
theorem measure_bad (w : World) (B B2 : Nat) (v dv : Value) (l : List (Bool × Str)) (o : Cod) (h : Rd kVal 74 w B v l) (hd : Rd (kInt .i64) 3 w B2 dv o.draws) (hr : cright l o = false) :
    Calls Tryz.prog 39 #[v, o.val dv] w fun en w' => en = .returned (.tuple #[.complex .f64 0 0, .int .i64 1]) ∧ Below w.heap.size w w' := by
  obtain ⟨A, c, rfl, h1, h2⟩ := h.form
  obtain ⟨k, b, r, ds⟩ := o
  obtain ⟨A2, c2, rfl, h3, h4⟩ := hd.form
  have hb0 := below_alloc (w := w) (.cells #[.int .i64 k, .int .i64 b, .int .i64 r, .slice A2 ds.length c2] 58)
  have hrow := CodRow.new w k b r (.slice A2 ds.length c2)
  have HC := cright_ok _ B B2 _ _ l ⟨k, b, r, ds⟩ (h.below hb0) (hd.below hb0)
  rw [hr] at HC
  unfold Cod.val at HC ⊢
  simp only at HC ⊢
  have HHC := Lib.hid HC; clear HC hr
  have hu := Tryz.underlying58
  obtain ⟨q0, q1, q2, q3⟩ := hrow.cells
  go_enter Tryz.func39, Tryz.ntmps39
  go_wp2_with fail
  refine HHC.out.mono ?_
  rintro e w1 ⟨rfl, HB⟩
  go_wp2_with fail
  go_ret2
  exact ⟨rfl, below_step hb0 hb0.size HB⟩

set_option maxRecDepth 100000 in
set_option maxHeartbeats 1600000 in
theorem measure_good (w : World) (B B2 : Nat) (v dv : Value) (l : List (Bool × Str)) (o : Cod) (pay : Str) (pk : Int) (h : Rd kVal 74 w B v l) (hd : Rd (kInt .i64) 3 w B2 dv o.draws) (hr : cright l o = true)
    (hp : ∀ W u, Below w.heap.size w W → Rd kStr 9 W 0 u (presS l) → Calls Tryz.prog 93 #[u, o.val dv] W (PayPost W pay pk)) :
    Calls Tryz.prog 39 #[v, o.val dv] w fun en w' => en = .returned (.tuple #[.complex .f64 (floatOfInt .f64 (pay.length : Int)) (floatOfInt .f64 ((presS l).length : Int)), .int .i64 0]) ∧ Below w.heap.size w w' := by
  obtain ⟨A, c, rfl, h1, h2⟩ := h.form
  obtain ⟨k, b, r, ds⟩ := o
  obtain ⟨A2, c2, rfl, h3, h4⟩ := hd.form
  have hb0 := below_alloc (w := w) (.cells #[.int .i64 k, .int .i64 b, .int .i64 r, .slice A2 ds.length c2] 58)
  have hrow := CodRow.new w k b r (.slice A2 ds.length c2)
  have HC := cright_ok _ B B2 _ _ l ⟨k, b, r, ds⟩ (h.below hb0) (hd.below hb0)
  rw [hr] at HC
  have hl : l.length ≤ 4096 := by
    unfold cright at hr
    simp only [Bool.and_eq_true, decide_eq_true_eq] at hr
    exact hr.1
  unfold Cod.val at HC hp ⊢
  simp only at HC hp ⊢
  have HHC := Lib.hid HC; have HHP := Lib.hid hp; clear HC hr hp
  have hu := Tryz.underlying58
  obtain ⟨q0, q1, q2, q3⟩ := hrow.cells
  go_enter Tryz.func39, Tryz.ntmps39
  go_wp2_with fail
  refine HHC.out.mono ?_
  rintro e w1 ⟨rfl, HB⟩
  have HB1 := below_step hb0 hb0.size HB
  obtain ⟨q0, q1, q2, q3⟩ := (hrow.below HB).cells
  go_wp2_with fail
  refine (present_ok w1 B _ l (h.below HB1) (by omega)).mono ?_
  rintro e w2 ⟨bv, sv, rfl, HOB, HOS, HB2⟩
  obtain ⟨A3, c3, rfl, _, _⟩ := HOB.form
  obtain ⟨A4, c4, rfl, _, _⟩ := HOS.form
  have hB2 := below_step HB1 HB1.size HB2
  obtain ⟨q0, q1, q2, q3⟩ := ((hrow.below HB).below HB2).cells
  go_wp2_with fail
  refine (HHP.out w2 _ hB2 HOS.rd).mono ?_
  rintro e w3 ⟨pv, rfl, HOP, HB3⟩
  obtain ⟨A5, c5, rfl, _, _⟩ := HOP.form
  have hB3 := below_step hB2 hB2.size HB3
  go_wp2_with fail
  go_ret2
  exact ⟨rfl, below_step hB2 hB2.size HB3⟩
end Go.Proofs.YtpjbibcjefkcaaaGreat
