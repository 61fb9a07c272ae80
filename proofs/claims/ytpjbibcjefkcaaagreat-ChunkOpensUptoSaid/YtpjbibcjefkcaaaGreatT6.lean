import Derived.Test.YtpjbibcjefkcaaaGreatT5
namespace Go.Proofs.YtpjbibcjefkcaaaGreat
open Go.RowKit

/-- Some orders have been drawn. -/
def Drawn (w w' : World) : Prop := ∃ n, w' = w.drewN n
theorem Drawn.refl (w : World) : Drawn w w := ⟨0, rfl⟩
theorem Drawn.below {w w' : World} (h : Drawn w w') : Below w.heap.size w w' := by obtain ⟨n, rfl⟩ := h; exact pw_drewN w n
theorem Drawn.step {w w' : World} (h : Drawn w w') (n : Nat) : Drawn w (w'.drewN n) := by obtain ⟨m, rfl⟩ := h; exact ⟨_, World.drewN_drewN ..⟩
theorem Drawn.wr {w w' : World} {b e} (h : Drawn w w') : Wr b e w w' := Wr.of_below h.below

theorem take_eq_snoc {α : Type} {xs ys : List α} {k : Nat} (h : xs.take k = ys.take k) (h1 : k < xs.length) (h2 : k < ys.length) (h3 : xs[k] = ys[k]) : xs.take (k + 1) = ys.take (k + 1) := by
  rw [List.take_add_one, List.take_add_one, h, List.getElem?_eq_getElem h1, List.getElem?_eq_getElem h2, h3]

set_option maxRecDepth 100000 in
theorem equal_byte_ok (w : World) (B B' : Nat) (v v' : Value) (xs ys : List UInt8) (h : Rd kByte 5 w B v xs) (h' : Rd kByte 5 w B' v' ys) :
    Calls Tryz.prog 159 #[v, v'] w fun en w' => en = .returned (.bool (decide (xs = ys))) ∧ Drawn w w' := by
  obtain ⟨A, c, rfl, h1, h2⟩ := h.form
  obtain ⟨A', c', rfl, h1', h2'⟩ := h'.form
  by_cases hl : xs.length = ys.length
  · have hl' : ((xs.length : Int) != (ys.length : Int)) = false := by simp [hl]
    have HL := Lib.hid hl; clear hl
    go_enter Tryz.func159, Tryz.ntmps159
    go_wp2_with fail
    go_loopw [13] (fun i wr => ∃ k : Nat, k ≤ xs.length ∧ i = .int .i64 (k : Int) ∧ xs.take k = ys.take k ∧ Drawn w wr) (fun i _ => xs.length - (intOf i).toNat)
    case atStart => exact ⟨0, by omega, rfl, by simp, Drawn.refl _⟩
    case round =>
      obtain ⟨k, hk, rfl, ht, HD⟩ := hrel
      have HT := Lib.hid ht; clear ht
      by_cases hlt : k < xs.length
      · have hlt' : k < ys.length := by rw [← HL.out]; exact hlt
        have hr := h.below HD.below
        have hr' := h'.below HD.below
        obtain ⟨b, off, cs, rfl, rfl, hc⟩ := hr.at hlt
        obtain ⟨b', off', cs, rfl, rfl, hc'⟩ := hr'.at hlt'
        have hc0 := hc 0 _ rfl
        have hc0' := hc' 0 _ rfl
        simp only [Nat.add_zero, show kByte.sz = 1 from rfl, Nat.mul_one] at hc0 hc0'
        generalize hx : xs[k] = x at *
        generalize hy : ys[k] = y at *
        have HX := Lib.hid hx; have HY := Lib.hid hy; clear hx hy hc hc'
        have i0 : (0 : Int) ≤ (k : Int) := by omega
        have i1 : (k : Int) < (xs.length : Int) := by omega
        have i2 : (k : Int) < (ys.length : Int) := by omega
        by_cases he : x = y
        · subst he
          go_wp2_with fail
          go_quiet (fail)
          go_wp2_with fail
          go_roundw
          case rel => exact ⟨k + 1, by omega, by go_num, take_eq_snoc HT.out hlt hlt' (by rw [HX.out, HY.out]), HD.step _⟩
          case measure => simp [intOf]; omega
        · have he' : ((x.toNat : Int) != (y.toNat : Int)) = true := by simp only [bne_iff_ne, ne_eq]; intro h; exact he (UInt8.toNat_inj.1 (by omega))
          have HN : ¬ xs = ys := fun e => he (by subst e; rw [← HX.out, ← HY.out])
          have HN' := Lib.hid HN; clear HN he
          go_wp2_with fail
          go_quiet (fail)
          go_wp2_with fail
          go_ret
          exact ⟨by simp [HN'.out], HD.step _⟩
      · obtain rfl : k = xs.length := by omega
        have e : xs = ys := by have := HT.out; rwa [List.take_length, HL.out, List.take_length] at this
        have HE := Lib.hid e; clear e
        go_wp2_with fail
        go_ret
        exact ⟨by simp [HE.out], HD⟩
  · have hl' : ((xs.length : Int) != (ys.length : Int)) = true := by simp; omega
    have HN : ¬ xs = ys := fun e => hl (by rw [e])
    have HN' := Lib.hid HN; clear HN hl
    go_enter Tryz.func159, Tryz.ntmps159
    go_wp2_with fail
    go_ret
    exact ⟨by simp [HN'.out], Drawn.refl _⟩

theorem getbit (x y r k : Nat) (hk : k < 32) (hx : x < 2 ^ k) (hy : y < 256) : bits .or .i64 (x : Int) (wrap64 (wrap64 (bits .and .u8 ((y : Int) / 2 ^ r) 1) * 2 ^ k)) = ((x + y / 2 ^ r % 2 * 2 ^ k : Nat) : Int) := by
  have hd : y / 2 ^ r < 256 := Nat.lt_of_le_of_lt (Nat.div_le_self _ _) hy
  have e1 : (y : Int) / 2 ^ r = ((y / 2 ^ r : Nat) : Int) := by simp
  have h1 := bits_mask .u8 8 (by decide) wraps_u8 1 (by decide) ((y / 2 ^ r : Nat) : Int) (Int.natCast_nonneg _) (by exact_mod_cast hd)
  have h1' : bits .and .u8 ((y : Int) / 2 ^ r) 1 = ((y / 2 ^ r % 2 : Nat) : Int) := by rw [e1]; simpa using h1
  rw [h1']
  have hb0 : y / 2 ^ r % 2 < 2 := Nat.mod_lt _ (by decide)
  generalize y / 2 ^ r % 2 = b at *
  have hp : (2 : Nat) ^ (k + 1) ≤ 2 ^ 32 := Nat.pow_le_pow_right (by decide) (by omega)
  rw [Nat.pow_succ] at hp
  have hm : b * 2 ^ k ≤ 1 * 2 ^ k := Nat.mul_le_mul_right _ (by omega)
  have c7 : (2 : Int) ^ k = ((2 ^ k : Nat) : Int) := by simp
  have e2 : (b : Int) * 2 ^ k = ((b * 2 ^ k : Nat) : Int) := by simp
  have h32 : (2 : Nat) ^ 32 = 4294967296 := by decide
  have h63 : (2 : Nat) ^ 63 = 9223372036854775808 := by decide
  rw [IntWalk.wrap64_in (b : Int) ⟨by omega, by omega⟩, e2, IntWalk.wrap64_in _ ⟨by omega, by omega⟩]
  have hc : bits .or .i64 (x : Int) ((b * 2 ^ k : Nat) : Int) = bits .or .i64 ((b * 2 ^ k : Nat) : Int) (x : Int) := by
    simp only [bits, BitVec.toNat_or, Nat.or_comm]
  have k1 : ((b * 2 ^ k : Nat) : Int) % 2 ^ k = 0 := by rw [c7, ← Int.natCast_emod, Nat.mul_mod_left]; rfl
  have k2 : b * 2 ^ k < 2 ^ 63 := by omega
  have k3 : x < 2 ^ 63 := by omega
  have k4 : (x : Int) < 2 ^ k := by rw [c7]; exact_mod_cast hx
  rw [hc, bits_join .i64 63 (by decide) wraps_i63 k _ _ (by omega) k1 (by exact_mod_cast k2) (by omega) k4 (by exact_mod_cast k3)]
  omega

set_option maxRecDepth 100000 in
theorem pget_ok (w : World) (B : Nat) (v : Value) (xs : List UInt8) (n i : Int) (h : Rd kByte 5 w B v xs) (hn0 : 0 ≤ n) (hn : n ≤ 32) (hi0 : 0 ≤ i) (hi : i ≤ 140737488355328) :
    Calls Tryz.prog 241 #[v, .int .i64 n, .int .i64 i] w fun en w' => en = .returned (.int .i64 (pget xs n.toNat i.toNat : Nat)) ∧ w = w' := by
  obtain ⟨A, c, rfl, h1, h2⟩ := h.form
  obtain ⟨m, rfl⟩ := Int.eq_ofNat_of_zero_le hn0
  obtain ⟨p, rfl⟩ := Int.eq_ofNat_of_zero_le hi0
  obtain ⟨q, hq⟩ : ∃ q : Nat, p * m = q := ⟨_, rfl⟩
  have hqm : q ≤ 140737488355328 * 32 := by rw [← hq]; exact Nat.mul_le_mul (by omega) (by omega)
  have hat : (p : Int) * m = (q : Int) := by rw [← hq]; simp
  have HQ := Lib.hid hq; clear hq
  go_enter Tryz.func241, Tryz.ntmps241
  go_wp2_with fail
  go_loop [7, 11] (fun x i => ∃ k : Nat, k ≤ m ∧ i = .int .i64 (k : Int) ∧ x = .int .i64 (pgetTo xs q k : Nat)) (fun _ i => m - (intOf i).toNat)
  case atStart => exact ⟨0, by omega, rfl, rfl⟩
  case round =>
    obtain ⟨k, hk, rfl, rfl⟩ := hrel
    by_cases hlt : k < m
    · have hx := pgetTo_lt xs q k
      have hst : pgetTo xs q (k + 1) = pgetTo xs q k + bitn xs (q + k) * 2 ^ k := rfl
      generalize pgetTo xs q k = x at *
      have HS := Lib.hid hst; have HX := Lib.hid hx; clear hst hx
      by_cases hin : (q + k) / 8 < xs.length
      · obtain ⟨b, off, cs, rfl, rfl, hc⟩ := h.at hin
        have hc0 := hc 0 _ rfl
        simp only [Nat.add_zero, show kByte.sz = 1 from rfl, Nat.mul_one] at hc0
        have hbi : bitn xs (q + k) = (xs[(q + k) / 8]).toNat / 2 ^ ((q + k) % 8) % 2 := by unfold bitn; rw [List.getElem?_eq_getElem hin]; rfl
        generalize xs[(q + k) / 8] = y at *
        have HB := Lib.hid hbi; clear hbi hc
        have hd : decide (((q : Int) + k) / 8 < xs.length) = true := by simp; omega
        have hg := getbit x y.toNat ((q + k) % 8) k (by omega) HX.out (UInt8.toNat_lt y)
        have HG := Lib.hid hg; clear hg
        go_wp2_with fail
        go_round
        case rel => exact ⟨k + 1, by omega, by go_num, by rw [HG.out, HS.out, HB.out]⟩
        case measure => simp [intOf]; omega
      · have hd : decide (((q : Int) + k) / 8 < xs.length) = false := by simp; omega
        have hbi : bitn xs (q + k) = 0 := by unfold bitn; rw [List.getElem?_eq_none (by omega)]; simp
        have HB := Lib.hid hbi; clear hbi
        go_wp2_with fail
        go_round
        case rel => exact ⟨k + 1, by omega, by go_num, by rw [HS.out, HB.out]; simp⟩
        case measure => simp [intOf]; omega
    · obtain rfl : k = m := by omega
      go_wp2_with fail
      go_ret
      exact ⟨by simp only [pget, HQ.out]; rfl, rfl⟩
end Go.Proofs.YtpjbibcjefkcaaaGreat
