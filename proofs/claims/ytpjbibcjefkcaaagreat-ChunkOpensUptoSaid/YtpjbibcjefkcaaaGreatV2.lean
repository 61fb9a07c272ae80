import Derived.Test.YtpjbibcjefkcaaaGreatV1
namespace Go.Proofs.YtpjbibcjefkcaaaGreat
open Go.RowKit

/-- The longest symbol, of at most n bytes. -/
def slong (t : List Str) (s : Str) : Nat → Option (Nat × Nat)
  | 0 => none
  | n + 1 => if hasAt t (s.take (n + 1)) = true then some (lowAt t (s.take (n + 1)), n + 1) else slong t s n
def slongest (t : List Str) (s : Str) : Option (Nat × Nat) := slong t s (min 8 s.length)
def longEnd : Option (Nat × Nat) → Ending
  | none => .returned (.tuple #[.int .i64 (-1), .int .i64 0])
  | some (k, n) => .returned (.tuple #[.int .i64 (k : Int), .int .i64 (n : Int)])

set_option maxRecDepth 100000 in
set_option maxHeartbeats 400000 in
theorem longest_ok (w : World) (B : Nat) (v : Value) (t : List Str) (s : Str) (h : Rd kStr 9 w B v t) (hs : t.Pairwise (· < ·)) (hl : t.length ≤ 1000000) (hsl : s.length ≤ 140737488355328) :
    Calls Tryz.prog 165 #[v, .string ⟨s.toArray⟩] w fun en w' => en = longEnd (slongest t s) ∧ w = w' := by
  obtain ⟨A, c, rfl, h1, h2⟩ := h.form
  have HS := Lib.hid hs; clear hs
  generalize hR : slongest t s = R
  unfold slongest at hR
  go_enter Tryz.func165, Tryz.ntmps165
  have hm : min (8 : Int) (s.length : Int) = ((min 8 s.length : Nat) : Int) := by omega
  have hm1 : min 8 s.length ≤ s.length := by omega
  have hm2 : min 8 s.length ≤ 8 := by omega
  have HM := Lib.hid hm; clear hm
  have HR := Lib.hid hR; clear hR
  go_wp2_with fail
  go_loop [6, 7, 8, 16, 21] (fun n _ _ _ _ => ∃ k : Nat, n = .int .i64 (k : Int) ∧ k ≤ s.length ∧ k ≤ 8 ∧ slong t s k = R) (fun n _ _ _ _ => (intOf n).toNat)
  case atStart => exact ⟨min 8 s.length, by rw [← HM.out], hm1, hm2, HR.out⟩
  case round =>
    obtain ⟨k, rfl, hk, hk8, hr⟩ := hrel
    cases k with
    | zero =>
      obtain rfl : none = R := hr
      go_wp2_with fail
      go_ret2
      exact ⟨rfl, rfl⟩
    | succ k =>
      have hst : R = if hasAt t (s.take (k + 1)) = true then some (lowAt t (s.take (k + 1)), k + 1) else slong t s k := by rw [← hr]; rfl
      have HST := Lib.hid hst; clear hr hst
      have hN : (((k + 1 : Nat) : Int)).toNat = k + 1 := by omega
      have hb := bsearch_ok w B (.slice A t.length c) t (s.take (k + 1)) h HS.out hl
      generalize hn : k + 1 = n at *
      have hki : (k : Int) = (n : Int) - 1 := by omega
      have hnk := Lib.hid hn; clear hn
      generalize lowAt t (s.take n) = lo at *
      by_cases hh : hasAt t (s.take n) = true
      · have hR : R = some (lo, n) := by rw [HST.out, if_pos hh]
        rw [hh] at hb
        have HH := Lib.hid hR; clear hR hh
        go_wp2_with (first | (refine strH Tryz.underlying9 rfl rfl (by omega) (by omega) ?_) | (go_at_call 197; (try simp only [Int.toNat_natCast]); refine hb.mono ?_; rintro e w1 ⟨rfl, rfl⟩))
        go_ret2
        exact ⟨by rw [HH.out]; rfl, rfl⟩
      · have hf : hasAt t (s.take n) = false := by simpa using hh
        have hR : R = slong t s k := by rw [HST.out, if_neg hh]
        rw [hf] at hb
        have HH := Lib.hid hR; clear hR hh hf
        go_wp2_with (first | (refine strH Tryz.underlying9 rfl rfl (by omega) (by omega) ?_) | (go_at_call 197; (try simp only [Int.toNat_natCast]); refine hb.mono ?_; rintro e w1 ⟨rfl, rfl⟩))
        go_round
        case rel => exact ⟨k, by go_num, by omega, by omega, HH.out.symm⟩
        case measure => simp [intOf]; omega
end Go.Proofs.YtpjbibcjefkcaaaGreat
