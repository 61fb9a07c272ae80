import Derived.Test.YtpjbibcjefkcaaaGreatXc
namespace Go.Proofs.YtpjbibcjefkcaaaGreat
open Go.RowKit

set_option maxRecDepth 100000 in
set_option maxHeartbeats 3200000 in
theorem rcode_ok (w : World) (B B2 : Nat) (v dv : Value) (l : List (Bool × Str)) (o : Cod) (pay : Str) (kk : Nat) (hkk : kk < 256) (h : Rd kVal 74 w B v l) (hd : Rd (kInt .i64) 3 w B2 dv o.draws) (hl : l.length ≤ 4096) (hpl : pay.length ≤ 100000000)
    (hc : ∀ W u, Below w.heap.size w W → Rd kStr 9 W 0 u (presS l) → Calls Tryz.prog 42 #[u, o.val dv] W (PosPost W kk))
    (hp : ∀ W u, Below w.heap.size w W → Rd kStr 9 W 0 u (presS l) → Calls Tryz.prog 44 #[u, ({ o with kind := kk } : Cod).val dv] W (Fresh kByte 5 W pay)) :
    Calls Tryz.prog 43 #[v, o.val dv] w (Fresh kByte 5 w (UInt8.ofNat kk :: (bwrite (presB l) ++ pay))) := by
  obtain ⟨A, c, rfl, h1, h2⟩ := h.form
  obtain ⟨k, b, r, ds⟩ := o
  obtain ⟨A2, c2, rfl, h3, h4⟩ := hd.form
  have hb0 := below_alloc (w := w) (.cells #[.int .i64 k, .int .i64 b, .int .i64 r, .slice A2 ds.length c2] 58)
  have hrow := CodRow.new w k b r (.slice A2 ds.length c2)
  have hbl : (presB l).length = l.length := by simp [presB]
  have hwl : (bwrite (presB l)).length ≤ 1000 := by
    unfold bwrite
    have := vput_len9 (n := (presB l).length) (by omega)
    rw [List.length_append, bput_len]; unfold bsize; omega
  have hpb : (presB l).length ≤ 1000000 := by omega
  have HRB := fun W hb u (hu : Rd kBool 4 W 0 u (presB l)) => rbwrite_ok W 0 u (presB l) hu hb
  unfold Cod.val at hc hp ⊢
  simp only at hc hp ⊢
  have HHC := Lib.hid hc; have HHP := Lib.hid hp; have HHB := Lib.hid HRB; clear hc hp hbl HRB
  generalize bwrite (presB l) = bw at *
  have hu := Tryz.underlying58
  obtain ⟨q0, q1, q2, q3⟩ := hrow.cells
  go_enter Tryz.func43, Tryz.ntmps43
  go_wp2_with fail
  refine (rpresent_ok _ B _ l (h.below hb0) (by omega)).mono ?_
  rintro e w1 ⟨bv, sv, rfl, HOB, HOS, HB1⟩
  obtain ⟨A3, c3, rfl, _, _⟩ := HOB.form
  obtain ⟨A4, c4, rfl, _, _⟩ := HOS.form
  have hB1 := below_step hb0 hb0.size HB1
  have hrow1 := hrow.below HB1
  obtain ⟨q0, q1, q2, q3⟩ := hrow1.cells
  go_wp2_with fail
  refine (HHC.out w1 _ hB1 HOS.rd).mono ?_
  rintro e w2 ⟨rfl, HB2⟩
  have hB2 := below_step hB1 hB1.size HB2
  have hrow2 := hrow1.below HB2
  have HOB2 := HOB.below HB2
  have HOS2 := HOS.below HB2
  obtain ⟨q0, q1, q2, q3⟩ := hrow2.cells
  have qf := hrow2.free 0
  obtain ⟨hrow3, hw3⟩ := hrow2.set kk
  have hB3 := hw3.below hB2 (Nat.le_refl _) hB2.size
  have HOB3 := HOB2.wr hw3 (by decide) (by decide) (Nat.zero_le _)
  have HOS3 := HOS2.wr hw3 (by decide) (by decide) (Nat.zero_le _)
  go_wp2_with fail
  clear q0 q1 q2 q3 qf hrow hrow1 hrow2 hw3 HOB HOB2 HOS HOS2 HB1 HB2 hB1 hB2
  generalize w2.setCell ⟨w.heap.size, 0, none⟩ (.int .i64 (kk : Int)) = w3 at *
  obtain ⟨q0, q1, q2, q3⟩ := hrow3.cells
  have hlit := own_lit (d := kByte) (e := 5) (W := w3) (b := w3.heap.size) (B := 0) (xs := [UInt8.ofNat kk]) (n := 1) (cells := #[.int .u8 (kk : Int)]) rfl (Reps.one (by simp [kByte]; omega)) (Nat.le_refl _) (by omega)
  have e8 : IntKind.u8.wrap (kk : Int) = (kk : Int) := by rw [IntKind.wrap_u8]; omega
  have hbA := below_drew w3
  have hbB := (below_alloc (w := w3) (.cells #[.int .u8 (kk : Int)] 5)).drew
  have HBA := HOB3.below hbA
  have HBB := HOB3.below hbB
  go_region_held3 (fun w' => w'.cell? ⟨w.heap.size, 0, none⟩ = some (.int .i64 (kk : Int)) ∧ w'.cell? ⟨w.heap.size, 1, none⟩ = some (.int .i64 b) ∧ w'.cell? ⟨w.heap.size, 2, none⟩ = some (.int .i64 r) ∧ w'.cell? ⟨w.heap.size, 3, none⟩ = some (.slice A2 ds.length c2))
    (first | go_keep | exact hq)
    (first
      | (go_at_call 95; refine (HHB.out _ hpb _ HBA.rd).mono ?_; rintro e w4 ⟨v4, rfl, HO4, HB4⟩; obtain ⟨A5, c5, rfl, _, _⟩ := HO4.form; have hb4 := below_step hbA hbA.size HB4; have hlt := (own_lit (d := kByte) (e := 5) (W := w4) (b := w3.heap.size) (B := 0) (xs := [UInt8.ofNat kk]) (n := 1) (cells := #[.int .u8 (kk : Int)]) rfl (Reps.one (by simp [kByte]; omega)) hb4.size (by omega)); have HO4' := HO4.below (below_alloc (.cells #[.int .u8 (kk : Int)] 5)); have hb4' := below_step hb4 hb4.size (below_alloc (.cells #[.int .u8 (kk : Int)] 5)); have hq := (hrow3.below hb4).cells)
      | (go_at_call 95; refine (HHB.out _ hpb _ HBB.rd).mono ?_; rintro e w4 ⟨v4, rfl, HO4, HB4⟩; obtain ⟨A5, c5, rfl, _, _⟩ := HO4.form; have hb4' := below_step hbB hbB.size HB4; have hlt := (hlit.below (below_drew _)).below HB4; have HO4' := HO4; have hq := (hrow3.below hb4').cells)
      | (refine step_list rfl fun Q' hQ => ?_; refine appRow (d := kByte) (e := 5) (b := w3.heap.size) (B := 0) (B' := 0) (xs := [UInt8.ofNat kk]) (ys := bw) Tryz.underlying36 Tryz.i5 hlt HO4'.rd (fun _ _ _ h => h) hb4'.size (by simp; omega) ?_; intro v5 w5 HO5 hw5; obtain ⟨A6, c6, rfl, _, _⟩ := HO5.form; rw [show ([UInt8.ofNat kk] ++ bw).length = bw.length + 1 by simp] at HO5; have hb5 := hw5.below hb4' (Nat.le_refl _) hb4'.size; have hq := (hrow3.below hb5).cells; refine hQ _ _ ?_; clear hQ; clear Q')
      | (go_at_call 44; refine (HHP.out _ _ (below_step hB3 hB3.size hb5) (HOS3.below hb5).rd).mono ?_; rintro e w7 ⟨v7, rfl, HO7, HB7⟩; obtain ⟨A7, c7, rfl, _, _⟩ := HO7.form; have hb7 := below_step hb5 hb5.size HB7; have HO5' := HO5.below HB7; have hq := (hrow3.below hb7).cells)
      | (refine step_list rfl fun Q' hQ => ?_; refine appRow (d := kByte) (e := 5) (b := w3.heap.size) (B := 0) (B' := 0) (xs := [UInt8.ofNat kk] ++ bw) (ys := pay) Tryz.underlying36 Tryz.i5 HO5' HO7.rd (fun _ _ _ h => h) hb7.size (by simp; omega) ?_; intro v8 w8 HO8 hw8; have hb8 := hw8.below hb7 (Nat.le_refl _) hb7.size; have hq := (hrow3.below hb8).cells; refine hQ _ _ ?_; clear hQ; clear Q'))
  all_goals
    go_wp2_with fail
    go_ret
    exact ⟨_, rfl, by simpa using HO8.weaken hB3.size (Nat.le_refl _), below_step hB3 hB3.size hb8⟩
end Go.Proofs.YtpjbibcjefkcaaaGreat
