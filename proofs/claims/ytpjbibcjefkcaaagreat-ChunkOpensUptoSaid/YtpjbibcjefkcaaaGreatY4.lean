import Derived.Test.YtpjbibcjefkcaaaGreatY3
namespace Go.Proofs.YtpjbibcjefkcaaaGreat
open Go.RowKit

theorem lt128 {n : Nat} (h : n ≤ 9223372036854775807) : n < 128 ^ (8 + 1) := by
  have : (128 : Nat) ^ (8 + 1) = 9223372036854775808 := by decide
  omega
theorem rput9_ok (n : Nat) (w : World) (h1 : n ≤ 9223372036854775807) : Calls Tryz.prog 87 #[.int .i64 (n : Int)] w (Fresh kByte 5 w (vput n)) := by
  have := rput_ok 8 (n : Int) w (by omega) (by omega) (by rw [Int.toNat_natCast]; exact lt128 h1)
  rwa [Int.toNat_natCast] at this

set_option maxRecDepth 100000 in
set_option maxHeartbeats 800000 in
theorem rpwrite_ok (w : World) (B : Nat) (v : Value) (xs : List Int) (h : Rd (kInt .i64) 3 w B v xs) (hl : xs.length ≤ 1000000) (hm : may xs) :
    Calls Tryz.prog 97 #[v] w (Fresh kByte 5 w (pwrite xs)) := by
  obtain ⟨A, c, rfl, h1, h2⟩ := h.form
  have hw := pwidth_le hm
  have hf := may_fits hm
  have hps : (pput (nats xs) (pwidth xs)).length = psize xs.length (pwidth xs) := by simp [pput, nats]
  have hpl : psize xs.length (pwidth xs) ≤ 40000000 := by
    have := Nat.mul_le_mul hl hw
    unfold psize; omega
  have hpw : pwrite xs = vput xs.length ++ [UInt8.ofNat (pwidth xs)] ++ pput (nats xs) (pwidth xs) := by simp [pwrite]
  rw [← hps] at hpl
  have hvl := vput_len9 (n := xs.length) (by omega)
  have HM := Lib.hid hm; have HF := Lib.hid hf; have HPW := Lib.hid hpw; clear hm hf hps hpw
  go_enter Tryz.func97, Tryz.ntmps97
  go_wp2_with fail
  refine (rwidth_ok w B _ xs h hl HM.out).mono ?_
  rintro e w1 ⟨rfl, HB1⟩
  have HW2 : ∀ W, Below w.heap.size w W → Calls Tryz.prog 155 #[.slice A xs.length c] W fun en w' => en = .returned (.int .i64 (pwidth xs : Int)) ∧ Below W.heap.size W w' := fun W hb => rwidth_ok W B _ xs (h.below hb) hl HM.out
  have HP1 := rpput_ok w1 B _ xs (pwidth xs) (h.below HB1) hl hw HF.out HM.out
  generalize pput (nats xs) (pwidth xs) = P at *
  generalize pwidth xs = n at *
  have HHW := Lib.hid HW2; have HHP := Lib.hid HP1; clear HW2 HP1
  go_wp2_with fail
  refine HHP.out.mono ?_
  rintro e w2 ⟨v2, rfl, HO2, HB2⟩
  obtain ⟨A2, c2, rfl, _, _⟩ := HO2.form
  have hB2 := below_step HB1 HB1.size HB2
  go_wp2_with fail
  refine (rput9_ok xs.length w2 (by omega)).mono ?_
  rintro e w3 ⟨v3, rfl, HO3, HB3⟩
  obtain ⟨A3, c3, rfl, _, _⟩ := HO3.form
  have hB3 := below_step hB2 hB2.size HB3
  have HO2b := HO2.below HB3
  go_wp2_with fail
  refine (HHW.out w3 hB3).mono ?_
  rintro e w4 ⟨rfl, HB4⟩
  have hB4 := below_step hB3 hB3.size HB4
  have HO3b := HO3.below HB4
  have HO2c := HO2b.below HB4
  generalize vput xs.length = V at *
  have hs34 := Nat.le_trans HB3.size HB4.size
  have hb24 := below_step HB3 HB3.size HB4
  go_wp2_with (at_builtin; refine app1 (y := UInt8.ofNat n) Tryz.underlying36 Tryz.i5 HO3b (by simp [kByte]; omega) hs34 (by omega) ?_)
  intro v5 w5 HO5 hw5
  obtain ⟨A5, c5, rfl, _, _⟩ := HO5.form
  rw [show (V ++ [UInt8.ofNat n]).length = V.length + 1 by simp] at HO5
  have hb25 := hw5.below hb24 (Nat.le_refl _) hb24.size
  have HO2d := (HO2.below hb25).rd (B := 0)
  have hs5 := hb25.size
  go_wp2_with (at_builtin; refine appRow Tryz.underlying36 Tryz.i5 HO5 HO2d (fun _ _ _ h => h) hs5 (by simp; omega) ?_)
  intro v6 w6 HO6 hw6
  go_wp2_with fail
  go_ret
  have hb5 := hw5.below hB4 hB2.size hB4.size
  refine ⟨_, rfl, ?_, hw6.below hb5 hB2.size hb5.size⟩
  rw [HPW.out]
  exact HO6.weaken hB2.size (Nat.le_refl _)

set_option maxRecDepth 100000 in
theorem rbwrite_ok (w : World) (B : Nat) (v : Value) (xs : List Bool) (h : Rd kBool 4 w B v xs) (hl : xs.length ≤ 1000000) :
    Calls Tryz.prog 95 #[v] w (Fresh kByte 5 w (bwrite xs)) := by
  obtain ⟨A, c, rfl, h1, h2⟩ := h.form
  have hsz : (bput xs).length ≤ 1000000 := by rw [bput_len]; unfold bsize; omega
  have hvl := vput_len9 (n := xs.length) (by omega)
  go_enter Tryz.func95, Tryz.ntmps95
  go_wp2_with fail
  refine (rput9_ok xs.length w (by omega)).mono ?_
  rintro e w1 ⟨v1, rfl, HO1, HB1⟩
  obtain ⟨A1, c1, rfl, _, _⟩ := HO1.form
  go_wp2_with fail
  refine (rbput_ok w1 B _ xs (h.below HB1) hl).mono ?_
  rintro e w2 ⟨v2, rfl, HO2, HB2⟩
  have hB2 := below_step HB1 HB1.size HB2
  go_wp2_with (at_builtin; refine appRow Tryz.underlying36 Tryz.i5 (HO1.below HB2) (HO2.rd (B := 0)) (fun _ _ _ h => h) hB2.size (by omega) ?_)
  intro v3 w3 HO3 hw3
  go_wp2
  go_ret
  exact ⟨_, rfl, HO3, hw3.below hB2 (Nat.le_refl _) hB2.size⟩
end Go.Proofs.YtpjbibcjefkcaaaGreat
