import Derived.Test.YtpjbibcjefkcaaaGreatT7
namespace Go.Proofs.YtpjbibcjefkcaaaGreat
open Go.RowKit

/-- Numbers that may be written. -/
def may (l : List Int) : Prop := ∀ x ∈ l, 0 ≤ x ∧ x ≤ 4294967295
def pwrite (l : List Int) : List UInt8 := vput l.length ++ ([UInt8.ofNat (pwidth l)] ++ pput (nats l) (pwidth l))
theorem mem_le_max (l : List Int) : ∀ a : Int, ∀ x ∈ l, x ≤ l.foldl max a := by
  induction l with
  | nil => intro a x h; cases h
  | cons y l ih =>
    intro a x h
    rcases List.mem_cons.1 h with rfl | h
    · have := le_foldl_max l (max a x); simp only [List.foldl_cons]; omega
    · exact ih _ x h
theorem bitLen_lt : ∀ (k n : Nat), n < 2 ^ k → k ≤ 64 → n < 2 ^ Lib.bitLen n ∧ Lib.bitLen n ≤ k := by
  intro k
  induction k with
  | zero => intro n h _; obtain rfl : n = 0 := by omega
            decide
  | succ k ih =>
    intro n h hk
    by_cases h0 : n = 0
    · subst h0; exact ⟨by decide, by simp [Lib.bitLen, Lib.bitLenAux]⟩
    · have h64 : n < 2 ^ 64 := Nat.lt_of_lt_of_le h (Nat.pow_le_pow_right (by decide) hk)
      have hd : n / 2 < 2 ^ k := by rw [Nat.pow_succ] at h; omega
      obtain ⟨h1, h2⟩ := ih (n / 2) hd (by omega)
      rw [Lib.bitLen_half n h0 h64, Nat.add_comm, Nat.pow_succ]
      exact ⟨by omega, by omega⟩
theorem max_lt {l : List Int} (h : may l) : (l.foldl max 0).toNat < 2 ^ 32 := by
  have := foldl_max_le l 4294967295 0 (by omega) fun x hx => (h x hx).2
  have h2 : (2 : Nat) ^ 32 = 4294967296 := by decide
  omega
theorem pwidth_le {l : List Int} (h : may l) : pwidth l ≤ 32 := (bitLen_lt 32 _ (max_lt h) (by omega)).2
theorem may_fits {l : List Int} (h : may l) : fits l (pwidth l) := fun x hx => ⟨(h x hx).1, by
  have h1 := mem_le_max l 0 x hx
  have h2 := (bitLen_lt 32 _ (max_lt h) (by omega)).1
  unfold pwidth
  have := (h x hx).1
  omega⟩

def WritePost (w : World) (l : List Int) (en : Ending) (w' : World) : Prop :=
  Below w.heap.size w w' ∧ ((may l ∧ ∃ v1, en = .returned (.tuple #[v1, .int .i64 0]) ∧ Own kByte 5 w' w.heap.size 0 v1 (pwrite l)) ∨ (¬ may l ∧ en = .returned (.tuple #[.slice none 0 0, .int .i64 1])))

set_option maxRecDepth 100000 in
set_option maxHeartbeats 400000 in
theorem pwrite_ok (w : World) (B : Nat) (v : Value) (xs : List Int) (h : Rd (kInt .i64) 3 w B v xs) (hl : xs.length ≤ 10000000000000) :
    Calls Tryz.prog 198 #[v] w (WritePost w xs) := by
  obtain ⟨A, c, rfl, h1, h2⟩ := h.form
  go_enter Tryz.func198, Tryz.ntmps198
  go_wp2_with fail
  refine (containsFunc_int_ok 237 #[] _ w Tryz.call237 (write1_ok w) B _ xs h).mono ?_
  rintro e w1 ⟨rfl, HB1⟩
  by_cases hm : may xs
  · have ha : (xs.any fun x => decide (x < 0 ∨ 4294967295 < x)) = false := by
      rw [List.any_eq_false]; intro x hx; have := hm x hx; simp; omega
    rw [ha]
    have hw := pwidth_le hm
    have hf := may_fits hm
    have hps : (pput (nats xs) (pwidth xs)).length = psize xs.length (pwidth xs) := by simp [pput, nats]
    have hpl : psize xs.length (pwidth xs) ≤ 40000000000001 := by
      have := Nat.mul_le_mul hl hw
      unfold psize; omega
    have hvl := vput_len9 (n := xs.length) (by omega)
    have HM := Lib.hid hm; have HF := Lib.hid hf; have HPS := Lib.hid hps; clear hm hf hps ha
    have hr1 := h.below HB1
    go_wp2_with fail
    refine (width_ok w1 B _ xs hr1 HM.out).mono ?_
    rintro e w2 ⟨rfl, rfl⟩
    generalize hpw : pwidth xs = n at *
    have HPW := Lib.hid hpw; clear hpw
    go_wp2_with fail
    refine (pput_ok w1 B _ xs n hr1 (by omega) (by omega) (by omega)).mono ?_
    rintro e w2 ⟨HB2, ⟨_, v2, rfl, HO2⟩ | ⟨hnf, _⟩⟩
    · rw [Int.toNat_natCast] at HO2
      obtain ⟨A2, c2, rfl, k1, k2⟩ := HO2.form
      go_wp2_with fail
      refine (put_ok xs.length w2 (by omega) (by omega)).mono ?_
      rintro e w3 ⟨v3, rfl, HO3, HB3⟩
      obtain ⟨A3, c3, rfl, k31, k32⟩ := HO3.form
      rw [Int.toNat_natCast] at HO3
      go_wp2_with fail
      have hr3 := HO3.rd (B := 0)
      have hr2 := (HO2.rd (B := 0)).below HB3
      have hlit := own_lit (d := kByte) (e := 5) (W := w3) (b := 0) (B := 0) (xs := [UInt8.ofNat n]) (n := 1) (cells := #[.int .u8 (n : Int)]) rfl (Reps.one (by simp [kByte]; omega)) (Nat.zero_le _) (by omega)
      have hb := below_alloc (w := w3) (.cells #[.int .u8 (n : Int)] 5)
      have hss := own_lit (d := kBs) (e := 36) (W := w3.alloc (.cells #[.int .u8 (n : Int)] 5)) (b := 0) (B := 0) (xs := [vput xs.length, [UInt8.ofNat n], pput (nats xs) n]) (n := 3)
        (cells := #[.slice A3 (vput xs.length).length c3, .slice (some ⟨w3.heap.size, 0, none⟩) 1 1, .slice A2 (pput (nats xs) n).length c2]) rfl
        ⟨_, _, rfl, ⟨_, rfl, hr3.below hb⟩, _, _, rfl, ⟨_, rfl, hlit.rd⟩, _, _, rfl, ⟨_, rfl, hr2.below hb⟩, rfl⟩ (Nat.zero_le _) (by omega)
      rw [show (w3.alloc (.cells #[.int .u8 (n : Int)] 5)).heap.size = w3.heap.size + 1 from by simp] at hss
      refine (concat_ok _ 0 _ _ hss.rd (by simp [HPS.out]; omega) (by simp)).mono ?_
      rintro e w4 ⟨v4, rfl, HO4, HB4⟩
      go_wp2_with fail
      go_ret2
      have hbb := below_step (below_step (below_step (below_step HB1 HB1.size HB2) (by have := HB1.size; have := HB2.size; omega) HB3) (by have := HB1.size; have := HB2.size; have := HB3.size; omega) (hb.trans ((below_alloc _).mono (by simp)))) (by have := HB1.size; have := HB2.size; have := HB3.size; simp; omega) HB4
      refine ⟨hbb, .inl ⟨HM.out, _, rfl, ?_⟩⟩
      have e : pwrite xs = [vput xs.length, [UInt8.ofNat n], pput (nats xs) n].flatten := by simp [pwrite, HPW.out]
      rw [e]
      exact HO4.weaken (by have := HB1.size; have := HB2.size; have := HB3.size; simp; omega) (Nat.le_refl _)
    · exact absurd HF.out (by simpa using hnf)
  · have ha : (xs.any fun x => decide (x < 0 ∨ 4294967295 < x)) = true := by
      rw [List.any_eq_true]
      refine Classical.byContradiction fun hc => hm fun x hx => Classical.byContradiction fun hn => hc ⟨x, hx, by simp; omega⟩
    rw [ha]
    have HM := Lib.hid hm; clear hm ha
    go_wp2_with fail
    go_ret2
    exact ⟨HB1, .inr ⟨HM.out, rfl⟩⟩
end Go.Proofs.YtpjbibcjefkcaaaGreat
