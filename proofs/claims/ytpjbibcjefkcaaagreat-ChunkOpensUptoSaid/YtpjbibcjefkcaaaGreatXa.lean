import Derived.Test.YtpjbibcjefkcaaaGreatX9
namespace Go.Proofs.YtpjbibcjefkcaaaGreat
open Go.RowKit

/-! ### hopperref17.Right, Present -/
def codPre (l : List (Bool × Str)) (o : Cod) : Bool := decide (l.length ≤ 4096) && codOk o

set_option maxRecDepth 100000 in
set_option maxHeartbeats 3200000 in
theorem rright_ok (w : World) (B B2 : Nat) (v dv : Value) (l : List (Bool × Str)) (o : Cod) (h : Rd kVal 74 w B v l) (hd : Rd (kInt .i64) 3 w B2 dv o.draws) :
    Calls Tryz.prog 40 #[v, o.val dv] w fun en w' => en = .returned (.bool (cright l o)) ∧ Below w.heap.size w w' := by
  obtain ⟨A, c, rfl, h1, h2⟩ := h.form
  obtain ⟨k, b, r, ds⟩ := o
  obtain ⟨A2, c2, rfl, h3, h4⟩ := hd.form
  unfold Cod.val
  simp only
  have hu := Tryz.underlying58
  have hu74 := Tryz.underlying74
  have hR : cright l ⟨k, b, r, ds⟩ = (decide (l.length ≤ 4096) && (!(l.any wrongV) && codOk ⟨k, b, r, ds⟩)) := rfl
  have hC : codOk ⟨k, b, r, ds⟩ = decide (0 ≤ k ∧ k ≤ 3 ∧ 1 ≤ b ∧ b ≤ 64 ∧ 0 ≤ r ∧ r ≤ 8 ∧ ds.length ≤ 4096) := rfl
  have hb0 := below_alloc (w := w) (.cells #[.int .i64 k, .int .i64 b, .int .i64 r, .slice A2 ds.length c2] 58)
  have hrow := CodRow.new w k b r (.slice A2 ds.length c2)
  obtain ⟨q0, q1, q2, q3⟩ := hrow.cells
  by_cases hok : l.length ≤ 4096 ∧ 0 ≤ k ∧ k ≤ 3 ∧ 1 ≤ b ∧ b ≤ 64 ∧ 0 ≤ r ∧ r ≤ 8 ∧ ds.length ≤ 4096
  · obtain ⟨a1, a2, a3, a4, a5, a6, a7, a8⟩ := hok
    have hR2 : cright l ⟨k, b, r, ds⟩ = !(l.any wrongV) := by
      rw [hR, hC, decide_eq_true a1, decide_eq_true ⟨a2, a3, a4, a5, a6, a7, a8⟩]; simp
    clear hR hC
    have hl := h.below hb0
    generalize cright l ⟨k, b, r, ds⟩ = R at *
    have HR := Lib.hid hR2; clear hR2
    go_enter Tryz.func40, Tryz.ntmps40
    go_wp2_with fail
    go_loop [5] (fun i => ∃ j : Nat, j ≤ l.length ∧ i = .int .i64 (j : Int) ∧ (l.take j).any wrongV = false) (fun i => l.length - (intOf i).toNat)
    case atStart => exact ⟨0, by omega, rfl, by simp⟩
    case round =>
      obtain ⟨j, hj, rfl, hn⟩ := hrel
      have HN := Lib.hid hn; clear hn
      by_cases hlt : j < l.length
      · obtain ⟨b0, off0, cs0, rfl, hk, hc0⟩ := hl.at hlt
        have hsn : (l.take (j + 1)).any wrongV = ((l.take j).any wrongV || wrongV l[j]) := by
          rw [List.take_add_one, List.getElem?_eq_getElem hlt, List.any_append]; simp
        have hin : wrongV l[j] = true → l.any wrongV = true := fun h => List.any_eq_true.2 ⟨_, List.getElem_mem hlt, h⟩
        generalize l[j] = x at *
        obtain ⟨nl, s⟩ := x
        obtain ⟨p1, p2, rfl, rfl, rfl, hstr⟩ := hk
        have hx0 := hc0 0 _ rfl
        have hx1 := hc0 1 _ rfl
        simp only [Nat.add_zero, show kVal.sz = 2 from rfl] at hx0 hx1
        simp only at hstr
        clear hc0
        have hsz : (⟨s.toArray⟩ : ByteArray).size = s.length := by simp [ByteArray.size]
        have hW : wrongV (nl, s) = (decide (4096 < s.length) || (nl && decide (s ≠ []))) := rfl
        generalize wrongV (nl, s) = W at *
        have HS := Lib.hid hsn; have HI := Lib.hid hin; clear hsn hin
        by_cases c1 : 4096 < s.length
        · have hWt : W = true := by rw [hW]; simp [c1]
          have HW := Lib.hid hWt; clear hW hWt
          go_wp2_with fail
          go_ret
          exact ⟨by rw [HR.out, HI.out HW.out]; rfl, hb0⟩
        · have hd : decide (4096 < (s.length : Int)) = false := by simp; omega
          cases nl with
          | false =>
            have hWt : W = false := by rw [hW]; simp [c1]
            have HW := Lib.hid hWt; clear hW hWt
            go_wp2_with fail
            go_round
            case rel => exact ⟨j + 1, by omega, by go_num, by rw [HS.out, HN.out, HW.out]; rfl⟩
            case measure => simp [intOf]; omega
          | true =>
            by_cases hs : s = []
            · subst hs
              have hWt : W = false := by rw [hW]; simp
              have HW := Lib.hid hWt; clear hW hWt
              go_wp2_with fail
              go_round
              case rel => exact ⟨j + 1, by omega, by go_num, by rw [HS.out, HN.out, HW.out]; rfl⟩
              case measure => simp [intOf]; omega
            · have hWt : W = true := by rw [hW]; simp [hs]
              have HW := Lib.hid hWt; clear hW hWt
              have hs1 : (s == []) = false := by simp [hs]
              go_wp2_with fail
              go_ret
              exact ⟨by rw [HR.out, HI.out HW.out]; rfl, hb0⟩
      · obtain rfl : j = l.length := by omega
        have hn := HN.out
        rw [List.take_length] at hn
        have HN2 := Lib.hid hn; clear hn
        go_wp2_with fail
        go_ret
        exact ⟨by rw [HR.out, HN2.out]; rfl, hb0⟩
  · have hF : cright l ⟨k, b, r, ds⟩ = false := by
      rw [hR, hC]
      cases hx : (decide (l.length ≤ 4096) && (!(l.any wrongV) && decide (0 ≤ k ∧ k ≤ 3 ∧ 1 ≤ b ∧ b ≤ 64 ∧ 0 ≤ r ∧ r ≤ 8 ∧ ds.length ≤ 4096))) with
      | false => rfl
      | true =>
        simp only [Bool.and_eq_true, decide_eq_true_eq] at hx
        exact absurd ⟨hx.1, hx.2.2⟩ hok
    have HF := Lib.hid hF
    clear hR hC hF
    by_cases z1 : 4096 < l.length
    · clear hok
      go_enter Tryz.func40, Tryz.ntmps40
      go_wp2_with fail
      go_ret
      exact ⟨by rw [HF.out]; rfl, hb0⟩
    have d1 : decide (4096 < (l.length : Int)) = false := by simp; omega
    by_cases z2 : k < 0
    · clear hok
      go_enter Tryz.func40, Tryz.ntmps40
      go_wp2_with fail
      go_ret
      exact ⟨by rw [HF.out]; rfl, hb0⟩
    have d2 : decide (k < 0) = false := by simpa using z2
    by_cases z3 : 3 < k
    · clear hok
      go_enter Tryz.func40, Tryz.ntmps40
      go_wp2_with fail
      go_ret
      exact ⟨by rw [HF.out]; rfl, hb0⟩
    have d3 : decide (3 < k) = false := by simpa using z3
    by_cases z4 : b < 1
    · clear hok
      go_enter Tryz.func40, Tryz.ntmps40
      go_wp2_with fail
      go_ret
      exact ⟨by rw [HF.out]; rfl, hb0⟩
    have d4 : decide (b < 1) = false := by simpa using z4
    by_cases z5 : 64 < b
    · clear hok
      go_enter Tryz.func40, Tryz.ntmps40
      go_wp2_with fail
      go_ret
      exact ⟨by rw [HF.out]; rfl, hb0⟩
    have d5 : decide (64 < b) = false := by simpa using z5
    by_cases z6 : r < 0
    · clear hok
      go_enter Tryz.func40, Tryz.ntmps40
      go_wp2_with fail
      go_ret
      exact ⟨by rw [HF.out]; rfl, hb0⟩
    have d6 : decide (r < 0) = false := by simpa using z6
    by_cases z7 : 8 < r
    · clear hok
      go_enter Tryz.func40, Tryz.ntmps40
      go_wp2_with fail
      go_ret
      exact ⟨by rw [HF.out]; rfl, hb0⟩
    have d7 : decide (8 < r) = false := by simpa using z7
    have z8 : 4096 < ds.length := by omega
    clear hok
    go_enter Tryz.func40, Tryz.ntmps40
    go_wp2_with fail
    go_ret
    exact ⟨by rw [HF.out]; rfl, hb0⟩
end Go.Proofs.YtpjbibcjefkcaaaGreat
