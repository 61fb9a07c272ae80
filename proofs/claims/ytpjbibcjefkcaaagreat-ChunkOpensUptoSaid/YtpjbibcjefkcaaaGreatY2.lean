import Derived.Test.YtpjbibcjefkcaaaGreatY1
namespace Go.Proofs.YtpjbibcjefkcaaaGreat
open Go.RowKit

/-! ### hopperref03 -/
theorem pw_step (l : List Int) (hm : may l) (i : Nat) (hi : i < l.length) : pwidth (l.take i) ≤ pwidth (l.take (i + 1)) ∧ pwidth (l.take (i + 1)) ≤ 32 ∧
    ∀ k, pwidth (l.take i) ≤ k → k ≤ pwidth (l.take (i + 1)) → ((2 : Int) ^ k ≤ l[i] → k + 1 ≤ pwidth (l.take (i + 1))) ∧ (l[i] < (2 : Int) ^ k → k = pwidth (l.take (i + 1))) := by
  have htk : l.take (i + 1) = l.take i ++ [l[i]] := by rw [List.take_add_one, List.getElem?_eq_getElem hi]; rfl
  have hx := hm _ (List.getElem_mem hi)
  have hmt : may (l.take i) := fun x hx => hm x (List.mem_of_mem_take hx)
  have hmt' : may (l.take (i + 1)) := fun x hx => hm x (List.mem_of_mem_take hx)
  have hM := max_lt hmt
  have hM' := max_lt hmt'
  have hf : (l.take (i + 1)).foldl max 0 = max ((l.take i).foldl max 0) l[i] := by rw [htk, List.foldl_append]; rfl
  have h0 := le_foldl_max (l.take i) 0
  unfold pwidth
  rw [hf] at hM' ⊢
  generalize (l.take i).foldl max 0 = M at *
  generalize l[i] = x at *
  obtain ⟨a1, a2⟩ := bitLen_lt 32 _ hM (by decide)
  obtain ⟨b1, b2⟩ := bitLen_lt 32 _ hM' (by decide)
  have key : ∀ k, k ≤ 64 → (max M x).toNat < 2 ^ k → Lib.bitLen (max M x).toNat ≤ k := fun k hk h => (bitLen_lt k _ h hk).2
  have keyM : ∀ k, k ≤ 64 → M.toNat < 2 ^ k → Lib.bitLen M.toNat ≤ k := fun k hk h => (bitLen_lt k _ h hk).2
  generalize hb : Lib.bitLen (max M x).toNat = b at *
  generalize ha : Lib.bitLen M.toNat = a at *
  refine ⟨keyM b (by omega) (by omega), b2, fun k h1 h2 => ⟨fun h => ?_, fun h => ?_⟩⟩
  · rcases Nat.lt_or_ge k b with hk | hk
    · exact hk
    · have : k = b := by omega
      subst this
      have e : ((2 : Int) ^ k) = ((2 ^ k : Nat) : Int) := by simp
      rw [e] at h
      omega
  · have e : ((2 : Int) ^ k) = ((2 ^ k : Nat) : Int) := by simp
    rw [e] at h
    have h3 : (2 : Nat) ^ a ≤ 2 ^ k := Nat.pow_le_pow_right (by decide) h1
    have := key k (by omega) (by omega)
    omega

set_option maxRecDepth 100000 in
set_option maxHeartbeats 1600000 in
theorem rwidth_ok (w : World) (B : Nat) (v : Value) (xs : List Int) (h : Rd (kInt .i64) 3 w B v xs) (hl : xs.length ≤ 1000000) (hm : may xs) :
    Calls Tryz.prog 155 #[v] w fun en w' => en = .returned (.int .i64 (pwidth xs : Int)) ∧ Below w.heap.size w w' := by
  obtain ⟨A, c, rfl, h1, h2⟩ := h.form
  have HM := Lib.hid hm; clear hm
  go_enter Tryz.func155, Tryz.ntmps155
  go_wp2_with fail
  go_loopw [3, 4] (fun x i wr => ∃ j k : Nat, j ≤ xs.length ∧ i = .int .i64 (j : Int) ∧ x = .int .i64 (k : Int) ∧ k = pwidth (xs.take j) ∧ Below w.heap.size w wr) (fun _ i _ => xs.length - (intOf i).toNat)
  case atStart => exact ⟨0, 0, by omega, rfl, rfl, by simp [pwidth, Lib.bitLen, Lib.bitLenAux], Below.refl _ _⟩
  case round =>
    obtain ⟨j, k, hj, rfl, rfl, hk, HB⟩ := hrel
    by_cases hlt : j < xs.length
    · obtain ⟨b0, off0, cs0, rfl, ⟨rfl, hwf⟩, hc0⟩ := h.at hlt
      have hx := hc0 0 _ rfl
      simp only [Nat.add_zero, show (kInt .i64).sz = 1 from rfl, Nat.mul_one] at hx
      obtain ⟨s1, s2, s3⟩ := pw_step xs HM.out j hlt
      have hb := HM.out _ (List.getElem_mem hlt)
      rw [← hk] at s1 s3
      clear hc0 hk
      generalize xs[j] = x at *
      generalize hP : pwidth (xs.take (j + 1)) = P at *
      have S3 := Lib.hid s3; have HP := Lib.hid hP
      clear s3 hP
      go_wp2_with fail
      obtain ⟨wo, rfl⟩ : ∃ wo : World, wo = wr := ⟨_, rfl⟩
      go_loopw [3] (fun y w2 => ∃ m : Nat, k ≤ m ∧ m ≤ P ∧ y = .int .i64 (m : Int) ∧ Below w.heap.size w w2) (fun y _ => P - (intOf y).toNat)
      case atStart => exact ⟨k, by omega, s1, rfl, HB⟩
      case round =>
        obtain ⟨m, hm1, hm2, rfl, HB2⟩ := hrel
        have hx2 := belc HB2 hx
        obtain ⟨t1, t2⟩ := S3.out m hm1 hm2
        by_cases hc : (2 : Int) ^ m ≤ x
        · have hd : decide ((2 : Int) ^ m ≤ x) = true := by simpa using hc
          have hm3 := t1 hc
          clear t1 t2 hc
          go_wp2_with fail
          go_quiet ((go_at_call 199; refine quiet_mine (power_ok _ _ (by omega) (by omega))))
          go_wp2_with fail
          go_roundw
          case rel => exact ⟨m + 1, by omega, by omega, by go_num, below_step HB2 HB2.size (pw_drewN _ _)⟩
          case measure => simp [intOf]; omega
        · have hd : decide ((2 : Int) ^ m ≤ x) = false := by simpa using hc
          have hm3 := t2 (by omega)
          have HM3 := Lib.hid hm3
          clear t1 t2 hc hm3
          go_wp2_with fail
          go_quiet ((go_at_call 199; refine quiet_mine (power_ok _ _ (by omega) (by omega))))
          go_wp2_with fail
          go_roundw
          case rel => exact ⟨j + 1, m, by omega, by go_num, rfl, by rw [HM3.out, HP.out], below_step HB2 HB2.size (pw_drewN _ _)⟩
          case measure => simp [intOf]; omega
    · obtain rfl : j = xs.length := by omega
      rw [List.take_length] at hk
      have HK := Lib.hid hk
      clear hk
      go_wp2_with fail
      go_ret
      exact ⟨by rw [← HK.out]; rfl, HB⟩
end Go.Proofs.YtpjbibcjefkcaaaGreat
