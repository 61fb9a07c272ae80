import Derived.Test.YtpjbibcjefkcaaaGreatU3
namespace Go.Proofs.YtpjbibcjefkcaaaGreat
open Go.RowKit

theorem str_inj (x y : Str) : ((⟨x.toArray⟩ : ByteArray) = ⟨y.toArray⟩) ↔ x = y := by
  constructor
  · intro h; injection h with h; simpa using h
  · rintro rfl; rfl

set_option maxRecDepth 100000 in
theorem isnan_ok (w : World) (x : Str) : Calls Tryz.prog 236 #[.string ⟨x.toArray⟩] w fun en w' => en = .returned (.bool false) ∧ w = w' := by
  go_enter Tryz.func236, Tryz.ntmps236
  go_wp2
  go_ret
  exact ⟨by simp, rfl⟩

/-- Where a string is in a table, or would be. -/
def lowAt (t : List Str) (x : Str) : Nat := t.findIdx fun y => !decide (y < x)
def hasAt (t : List Str) (x : Str) : Bool := decide (t[lowAt t x]? = some x)
theorem lowAt_eq (t : List Str) (x : Str) (i : Nat) (hi : i ≤ t.length) (h1 : ∀ k (h : k < i), t[k]'(by omega) < x) (h2 : ∀ (h : i < t.length), ¬ t[i] < x) : lowAt t x = i := by
  unfold lowAt
  by_cases h : i < t.length
  · rw [List.findIdx_eq h]
    exact ⟨by simpa using h2 h, fun j hj => by simpa using h1 j hj⟩
  · obtain rfl : i = t.length := by omega
    rw [List.findIdx_eq_length]
    intro y hy
    obtain ⟨k, hk, rfl⟩ := List.getElem_of_mem hy
    simpa using h1 k hk
theorem str_le_trans {a b c : Str} (h : ¬ a < c) (k : a < b) : ¬ b < c := fun h' => h (List.lt_trans k h')

set_option maxRecDepth 100000 in
set_option maxHeartbeats 400000 in
theorem bsearch_ok (w : World) (B : Nat) (v : Value) (t : List Str) (x : Str) (h : Rd kStr 9 w B v t) (hs : t.Pairwise (· < ·)) (hl : t.length ≤ 1000000) :
    Calls Tryz.prog 197 #[v, .string ⟨x.toArray⟩] w fun en w' => en = .returned (.tuple #[.int .i64 (lowAt t x : Int), .bool (hasAt t x)]) ∧ w = w' := by
  obtain ⟨A, c, rfl, h1, h2⟩ := h.form
  have HS := Lib.hid hs; clear hs
  go_enter Tryz.func197, Tryz.ntmps197
  go_wp2_with fail
  go_loop [7, 8] (fun i j => ∃ m n : Nat, i = .int .i64 (m : Int) ∧ j = .int .i64 (n : Int) ∧ m ≤ n ∧ n ≤ t.length ∧ (∀ k (h : k < t.length), k < m → t[k] < x) ∧ (∀ k (h : k < t.length), n ≤ k → ¬ t[k] < x)) (fun i j => (intOf j).toNat - (intOf i).toNat)
  case atStart => exact ⟨0, t.length, rfl, rfl, by omega, by omega, by simp, by intro k h1 h2; omega⟩
  case round =>
    obtain ⟨m, n, rfl, rfl, hmn, hn, hlo, hhi⟩ := hrel
    have HLO := Lib.hid hlo; have HHI := Lib.hid hhi; clear hlo hhi
    by_cases hlt : m < n
    · have hq : (m + n) / 2 < t.length := by omega
      obtain ⟨b, off, cs, rfl, ⟨rfl, hsz⟩, hc⟩ := h.at hq
      have hc0 := hc 0 _ rfl
      simp only [Nat.add_zero, show kStr.sz = 1 from rfl, Nat.mul_one] at hc0
      have hlow : t[(m + n) / 2] < x → ∀ k (h : k < t.length), k < (m + n) / 2 + 1 → t[k] < x := fun hy k hk hk2 => by
        by_cases hkk : k = (m + n) / 2
        · subst hkk; exact hy
        · exact List.lt_trans (List.pairwise_iff_getElem.1 HS.out k ((m + n) / 2) hk hq (by omega)) hy
      have hhig : ¬ t[(m + n) / 2] < x → ∀ k (h : k < t.length), (m + n) / 2 ≤ k → ¬ t[k] < x := fun hy k hk hk2 => by
        by_cases hkk : k = (m + n) / 2
        · subst hkk; exact hy
        · exact str_le_trans hy (List.pairwise_iff_getElem.1 HS.out ((m + n) / 2) k hq hk (by omega))
      have H1 := Lib.hid hlow; have H2 := Lib.hid hhig
      generalize t[(m + n) / 2] = y at *
      clear hlow hhig hc
      by_cases hy : y < x
      · have HY := Lib.hid hy; clear hy
        have hd : decide (y < x) = true := by have := HY.out; simp [this]
        have HD := Lib.hid hd; clear hd
        go_wp2_with (go_at_call 225; refine (less_ok w y x).mono ?_; rintro e w1 ⟨rfl, rfl⟩; rw [HD.out])
        go_round
        case rel => exact ⟨(m + n) / 2 + 1, n, by go_num, rfl, by omega, by omega, H1.out HY.out, HHI.out⟩
        case measure => simp [intOf]; omega
      · have HY := Lib.hid hy; clear hy
        have hd : decide (y < x) = false := by have := HY.out; simp [this]
        have HD := Lib.hid hd; clear hd
        go_wp2_with (go_at_call 225; refine (less_ok w y x).mono ?_; rintro e w1 ⟨rfl, rfl⟩; rw [HD.out])
        go_round
        case rel => exact ⟨m, (m + n) / 2, rfl, by go_num, by omega, by omega, HLO.out, H2.out HY.out⟩
        case measure => simp [intOf]; omega
    · obtain rfl : m = n := by omega
      have hm : lowAt t x = m := lowAt_eq t x m hn (fun k hk => HLO.out k (by omega) hk) fun h => HHI.out m h (Nat.le_refl _)
      by_cases hlt2 : m < t.length
      · obtain ⟨b, off, cs, rfl, ⟨rfl, hsz⟩, hc⟩ := h.at hlt2
        have hc0 := hc 0 _ rfl
        simp only [Nat.add_zero, show kStr.sz = 1 from rfl, Nat.mul_one] at hc0
        have hh : hasAt t x = decide (t[m] = x) := by unfold hasAt; rw [hm, List.getElem?_eq_getElem hlt2]; simp
        have HM := Lib.hid hm; have HH := Lib.hid hh; clear hm hh
        generalize t[m] = y at *
        clear hc
        by_cases hy : y = x
        · subst hy
          have HB : hasAt t y = true := by rw [HH.out]; simp
          have HY := Lib.hid HB; clear HB HH
          go_wp2_with fail
          go_ret2
          exact ⟨by rw [HM.out, HY.out]; rfl, rfl⟩
        · have HB : hasAt t x = false := by rw [HH.out]; simp [hy]
          have HY := Lib.hid HB; clear HB HH
          have hb : (y == x) = false := by simp [hy]
          go_wp2_with (go_at_call 236; refine (isnan_ok w _).mono ?_; rintro e w1 ⟨rfl, rfl⟩)
          go_ret2
          exact ⟨by rw [HM.out, HY.out]; rfl, rfl⟩
      · have hh : hasAt t x = false := by unfold hasAt; rw [hm, List.getElem?_eq_none (by omega)]; simp
        have HM := Lib.hid hm; have HH := Lib.hid hh; clear hm hh
        go_wp2_with fail
        go_ret2
        exact ⟨by rw [HM.out, HH.out]; rfl, rfl⟩
end Go.Proofs.YtpjbibcjefkcaaaGreat
