import Derived.Test.YtpjbibcjefkcaaaGreatX3
namespace Go.Proofs.YtpjbibcjefkcaaaGreat
open Go.RowKit

/-- May a value not be? -/
def wrongV (v : Bool × Str) : Bool := decide (4096 < v.2.length) || (v.1 && decide (v.2 ≠ []))
set_option maxRecDepth 100000 in
theorem wrong_ok (w : World) (b : Bool) (s : Str) : Calls Tryz.prog 146 #[.agg #[.bool b, .string ⟨s.toArray⟩]] w fun en w' => en = .returned (.bool (wrongV (b, s))) ∧ Below w.heap.size w w' := by
  have hu := Tryz.underlying74
  have hW : wrongV (b, s) = (decide (4096 < s.length) || (b && decide (s ≠ []))) := rfl
  generalize wrongV (b, s) = W at *
  have hsz : (⟨s.toArray⟩ : ByteArray).size = s.length := by simp [ByteArray.size]
  have hc := below_alloc (w := w) (.cells #[.bool b, .string ⟨s.toArray⟩] 74)
  by_cases h1 : 4096 < s.length
  · have hWt : W = true := by rw [hW]; simp [h1]
    have HW := Lib.hid hWt; clear hW hWt
    go_enter Tryz.func146, Tryz.ntmps146
    go_wp2
    go_ret
    exact ⟨by rw [HW.out]; rfl, hc⟩
  · have hd : decide (4096 < (s.length : Int)) = false := by simp; omega
    cases b with
    | false =>
      have hWt : W = false := by rw [hW]; simp [h1]
      have HW := Lib.hid hWt; clear hW hWt
      go_enter Tryz.func146, Tryz.ntmps146
      go_wp2
      go_ret
      exact ⟨by rw [HW.out]; rfl, hc⟩
    | true =>
      have hWt : W = decide (s ≠ []) := by rw [hW]; simp [h1]
      by_cases hs : s = []
      · subst hs
        have HW := Lib.hid hWt; clear hW hWt
        go_enter Tryz.func146, Tryz.ntmps146
        go_wp2
        go_ret
        exact ⟨by rw [HW.out]; rfl, hc⟩
      · have hWt2 : W = true := by rw [hWt]; simp [hs]
        have HW := Lib.hid hWt2; clear hW hWt hWt2
        have hs1 : (s == []) = false := by simp [hs]
        go_enter Tryz.func146, Tryz.ntmps146
        go_wp2
        go_ret
        exact ⟨by rw [HW.out]; rfl, hc⟩
end Go.Proofs.YtpjbibcjefkcaaaGreat
