import Derived.Test.YtpjbibcjefkcaaaGreatU1
import Derived.Sort.Walk0
import Derived.WalkLawsBesides
namespace Go.Proofs.YtpjbibcjefkcaaaGreat
open Go.RowKit

theorem Tryz.i9 : (Tryz.prog.info? 9).map (fun i => (i.zero, i.size, i.bytes)) = some (some (.string ⟨#[]⟩), 1, 16) := by kernel_rfl

abbrev Str := List UInt8

set_option maxRecDepth 100000 in
theorem less_ok (w : World) (x y : Str) : Calls Tryz.prog 225 #[.string ⟨x.toArray⟩, .string ⟨y.toArray⟩] w fun en w' => en = .returned (.bool (decide (x < y))) ∧ w = w' := by
  go_enter Tryz.func225, Tryz.ntmps225
  go_wp2
  go_ret
  exact ⟨by simp [bytesLess_eq], rfl⟩

/-- May a string be a symbol? -/
def smay (x : Str) : Bool := decide (1 ≤ x.length ∧ x.length ≤ 8)
set_option maxRecDepth 100000 in
theorem may_ok (w : World) (x : Str) : Calls Tryz.prog 269 #[.string ⟨x.toArray⟩] w fun en w' => en = .returned (.bool (smay x)) ∧ w = w' := by
  go_enter Tryz.func269, Tryz.ntmps269
  go_wp2
  all_goals
    go_ret
    exact ⟨congrArg (fun b => Ending.returned (.bool b)) (by rw [Bool.eq_iff_iff]; simp [smay]; omega), rfl⟩

/-- Are strings a table? -/
def sright (t : List Str) : Bool := decide (t.length ≤ 255 ∧ (∀ x ∈ t, smay x = true) ∧ t.Pairwise (· < ·))

theorem pairwise_snoc {t : List Str} {x : Str} (h : t.Pairwise (· < ·)) (hl : ∀ y, t.getLast? = some y → y < x) : (t ++ [x]).Pairwise (· < ·) := by
  rw [List.pairwise_append]
  refine ⟨h, by simp, fun a ha b hb => ?_⟩
  simp at hb
  subst hb
  rcases List.eq_nil_or_concat t with rfl | ⟨l, y, rfl⟩
  · simp at ha
  · have hy := hl y (by simp)
    simp only [List.concat_eq_append] at h ha
    rw [List.pairwise_append] at h
    rcases List.mem_append.1 ha with ha | ha
    · exact List.lt_trans (h.2.2 a ha y (by simp)) hy
    · simp at ha; subst ha; exact hy

set_option maxRecDepth 100000 in
set_option maxHeartbeats 400000 in
theorem sright_ok (w : World) (B : Nat) (v : Value) (t : List Str) (h : Rd kStr 9 w B v t) : Calls Tryz.prog 232 #[v] w fun en w' => en = .returned (.bool (sright t)) ∧ w = w' := by
  obtain ⟨A, c, rfl, h1, h2⟩ := h.form
  by_cases hn : t.length ≤ 255
  · go_enter Tryz.func232, Tryz.ntmps232
    go_wp2_with fail
    go_loop [10] (fun i => ∃ k : Nat, k ≤ t.length ∧ i = .int .i64 (k : Int) ∧ (∀ x ∈ t.take k, smay x = true) ∧ (t.take k).Pairwise (· < ·)) (fun i => t.length - (intOf i).toNat)
    case atStart => exact ⟨0, by omega, rfl, by simp, by simp⟩
    case round =>
      obtain ⟨k, hk, rfl, hm, hp⟩ := hrel
      have HM := Lib.hid hm; have HP := Lib.hid hp; clear hm hp
      by_cases hlt : k < t.length
      · obtain ⟨b, off, cs, rfl, ⟨rfl, hsz⟩, hc⟩ := h.at hlt
        have hc0 := hc 0 _ rfl
        simp only [Nat.add_zero, show kStr.sz = 1 from rfl, Nat.mul_one] at hc0
        have htk : t.take (k + 1) = t.take k ++ [t[k]] := by rw [List.take_add_one, List.getElem?_eq_getElem hlt]; rfl
        have hmem := List.getElem_mem hlt
        by_cases hmy : smay t[k] = true
        · have hm1 : ∀ x ∈ t.take (k + 1), smay x = true := by
            rw [htk]; intro x hx; rcases List.mem_append.1 hx with hx | hx
            · exact HM.out x hx
            · simp at hx; subst hx; exact hmy
          have HM1 := Lib.hid hm1; clear hm1
          by_cases hk0 : k = 0
          · have hp1 : (t.take (k + 1)).Pairwise (· < ·) := by
              have ht0 : t.take k = [] := by rw [hk0]; rfl
              rw [htk, ht0]; simp
            have hkp : decide (0 < (k : Int)) = false := by simp; omega
            have hkp' : decide (0 < k) = false := by simp; omega
            have HP1 := Lib.hid hp1; have HY := Lib.hid hmy
            generalize t[k] = x at *
            clear hp1 hmy hc htk hmem hk0
            go_wp2_with (go_at_call 269; refine (may_ok w x).mono ?_; rintro e w1 ⟨rfl, rfl⟩; rw [HY.out])
            go_round
            case rel => exact ⟨k + 1, by omega, by go_num, HM1.out, HP1.out⟩
            case measure => simp [intOf]; omega
          · obtain ⟨b', off', cs, hA, ⟨rfl, hsz'⟩, hc'⟩ := h.at (i := k - 1) (by omega)
            injection hA with hA; injection hA with hA1 hA2 hA3; subst hA1 hA2; clear hA3
            have hc1 := hc' 0 _ rfl
            simp only [Nat.add_zero, show kStr.sz = 1 from rfl, Nat.mul_one] at hc1
            have hkp : decide (0 < (k : Int)) = true := by simp; omega
            have hlast : (t.take k).getLast? = some t[k - 1] := by rw [List.getLast?_eq_getElem?, List.length_take, Nat.min_eq_left (by omega), List.getElem?_take, if_pos (by omega), List.getElem?_eq_getElem (by omega)]
            have hkk : t[k - 1] < t[k] → (t.take (k + 1)).Pairwise (· < ·) := fun hlt' => by
              rw [htk]; refine pairwise_snoc HP.out fun y hy => ?_
              rw [hlast] at hy; injection hy with hy; subst hy; exact hlt'
            have hnn : ¬ t[k - 1] < t[k] → sright t = false := fun hn' => by
              unfold sright; rw [decide_eq_false_iff_not]; rintro ⟨_, _, h3⟩
              exact hn' (List.pairwise_iff_getElem.1 h3 (k - 1) k (by omega) hlt (by omega))
            have HK := Lib.hid hkk; have HN := Lib.hid hnn; have HY := Lib.hid hmy
            generalize t[k] = x at *
            generalize t[k - 1] = y at *
            clear hkk hnn hmy hc hc' htk hmem hlast
            by_cases hlt' : y < x
            · have hb : (!Op.bytesLess y x) = false := by rw [bytesLess_eq]; simp [hlt']
              have HL := Lib.hid hlt'; clear hlt'
              go_wp2_with (go_at_call 269; refine (may_ok w x).mono ?_; rintro e w1 ⟨rfl, rfl⟩; rw [HY.out])
              go_round
              case rel => exact ⟨k + 1, by omega, by go_num, HM1.out, HK.out HL.out⟩
              case measure => simp [intOf]; omega
            · have hb : (!Op.bytesLess y x) = true := by rw [bytesLess_eq]; simp [hlt']
              have HL := Lib.hid hlt'; clear hlt'
              go_wp2_with (go_at_call 269; refine (may_ok w x).mono ?_; rintro e w1 ⟨rfl, rfl⟩; rw [HY.out])
              go_ret
              exact ⟨by rw [HN.out HL.out]; rfl, rfl⟩
        · have hmf : smay t[k] = false := by simpa using hmy
          have hsf : sright t = false := by
            unfold sright; rw [decide_eq_false_iff_not]; rintro ⟨_, h2, _⟩; exact hmy (h2 _ hmem)
          have HY := Lib.hid hmf; have HS := Lib.hid hsf
          generalize t[k] = x at *
          clear hmf hmy hsf hc htk hmem
          go_wp2_with (go_at_call 269; refine (may_ok w x).mono ?_; rintro e w1 ⟨rfl, rfl⟩; rw [HY.out])
          go_ret
          exact ⟨by rw [HS.out]; rfl, rfl⟩
      · obtain rfl : k = t.length := by omega
        have hs : sright t = true := by
          unfold sright; rw [decide_eq_true_eq]
          have := HM.out; have h3 := HP.out
          rw [List.take_length] at this h3
          exact ⟨hn, this, h3⟩
        have HS := Lib.hid hs; clear hs
        go_wp2_with fail
        go_ret
        exact ⟨by rw [HS.out]; rfl, rfl⟩
  · have hs : sright t = false := by unfold sright; simp; omega
    have HS := Lib.hid hs; clear hs
    go_enter Tryz.func232, Tryz.ntmps232
    go_wp2_with fail
    go_ret
    exact ⟨by rw [HS.out]; rfl, rfl⟩
end Go.Proofs.YtpjbibcjefkcaaaGreat
