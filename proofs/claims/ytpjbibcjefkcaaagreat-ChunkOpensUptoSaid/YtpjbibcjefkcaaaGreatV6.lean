import Derived.Test.YtpjbibcjefkcaaaGreatV5
namespace Go.Proofs.YtpjbibcjefkcaaaGreat
open Go.RowKit

/-- May strings and a block be a dictionary? -/
def fright (t : List Str) (block : Int) : Bool := decide ((1 ≤ block ∧ block ≤ 64) ∧ t.length ≤ 4096 ∧ (∀ x ∈ t, x.length ≤ 4096) ∧ t.Pairwise (· < ·))

set_option maxRecDepth 100000 in
set_option maxHeartbeats 400000 in
theorem fright_ok (w : World) (B : Nat) (v : Value) (t : List Str) (block : Int) (h : Rd kStr 9 w B v t) : Calls Tryz.prog 233 #[v, .int .i64 block] w fun en w' => en = .returned (.bool (fright t block)) ∧ w = w' := by
  obtain ⟨A, c, rfl, h1, h2⟩ := h.form
  by_cases hn : (1 ≤ block ∧ block ≤ 64) ∧ t.length ≤ 4096
  · obtain ⟨⟨hn1, hn2⟩, hn3⟩ := hn
    go_enter Tryz.func233, Tryz.ntmps233
    go_wp2_with fail
    go_loop [20] (fun i => ∃ k : Nat, k ≤ t.length ∧ i = .int .i64 (k : Int) ∧ (∀ x ∈ t.take k, x.length ≤ 4096) ∧ (t.take k).Pairwise (· < ·)) (fun i => t.length - (intOf i).toNat)
    case atStart => exact ⟨0, by omega, rfl, by simp, by simp⟩
    case round =>
      obtain ⟨k, hk, rfl, hm, hp⟩ := hrel
      have HM := Lib.hid hm; have HP := Lib.hid hp; clear hm hp
      by_cases hlt : k < t.length
      · obtain ⟨b, off, cs, rfl, ⟨rfl, hsz⟩, hc⟩ := h.at hlt
        have hc0 := hc 0 _ rfl
        simp only [Nat.add_zero, show kStr.sz = 1 from rfl, Nat.mul_one] at hc0
        have htk : t.take (k + 1) = t.take k ++ [t[k]] := by rw [List.take_add_one, List.getElem?_eq_getElem hlt]; rfl
        have hmem := List.getElem_mem hlt
        by_cases hmy : t[k].length ≤ 4096
        · have hm1 : ∀ x ∈ t.take (k + 1), x.length ≤ 4096 := by
            rw [htk]; intro x hx; rcases List.mem_append.1 hx with hx | hx
            · exact HM.out x hx
            · simp at hx; subst hx; exact hmy
          have HM1 := Lib.hid hm1; clear hm1
          by_cases hk0 : k = 0
          · have hp1 : (t.take (k + 1)).Pairwise (· < ·) := by
              have ht0 : t.take k = [] := by rw [hk0]; rfl
              rw [htk, ht0]; simp
            have hkp : decide (0 < (k : Int)) = false := by simp; omega
            have hkp' : decide (0 < k) = false := by simp; omega
            have HP1 := Lib.hid hp1
            generalize t[k] = x at *
            clear hp1 hc htk hmem hk0
            have hsz2 : (⟨x.toArray⟩ : ByteArray).size = x.length := by simp [ByteArray.size]
            go_wp2_with fail
            go_round
            case rel => exact ⟨k + 1, by omega, by go_num, HM1.out, HP1.out⟩
            case measure => simp [intOf]; omega
          · obtain ⟨b', off', cs, hA, ⟨rfl, hsz'⟩, hc'⟩ := h.at (i := k - 1) (by omega)
            injection hA with hA; injection hA with hA1 hA2 hA3; subst hA1 hA2; clear hA3
            have hc1 := hc' 0 _ rfl
            simp only [Nat.add_zero, show kStr.sz = 1 from rfl, Nat.mul_one] at hc1
            have hkp : decide (0 < (k : Int)) = true := by simp; omega
            have hlast : (t.take k).getLast? = some t[k - 1] := by rw [List.getLast?_eq_getElem?, List.length_take, Nat.min_eq_left (by omega), List.getElem?_take, if_pos (by omega), List.getElem?_eq_getElem (by omega)]
            have hkk : t[k - 1] < t[k] → (t.take (k + 1)).Pairwise (· < ·) := fun hlt' => by
              rw [htk]; refine pairwise_snoc HP.out fun y hy => ?_
              rw [hlast] at hy; injection hy with hy; subst hy; exact hlt'
            have hnn : ¬ t[k - 1] < t[k] → fright t block = false := fun hn' => by
              unfold fright; rw [decide_eq_false_iff_not]; rintro ⟨_, _, _, h3⟩
              exact hn' (List.pairwise_iff_getElem.1 h3 (k - 1) k (by omega) hlt (by omega))
            have HK := Lib.hid hkk; have HN := Lib.hid hnn
            generalize t[k] = x at *
            generalize t[k - 1] = y at *
            clear hkk hnn hc hc' htk hmem hlast
            by_cases hlt' : y < x
            · have hb : (!Op.bytesLess y x) = false := by rw [bytesLess_eq]; simp [hlt']
              have HL := Lib.hid hlt'; clear hlt'
              have hsz2 : (⟨x.toArray⟩ : ByteArray).size = x.length := by simp [ByteArray.size]
              go_wp2_with fail
              go_round
              case rel => exact ⟨k + 1, by omega, by go_num, HM1.out, HK.out HL.out⟩
              case measure => simp [intOf]; omega
            · have hb : (!Op.bytesLess y x) = true := by rw [bytesLess_eq]; simp [hlt']
              have HL := Lib.hid hlt'; clear hlt'
              have hsz2 : (⟨x.toArray⟩ : ByteArray).size = x.length := by simp [ByteArray.size]
              go_wp2_with fail
              go_ret
              exact ⟨by rw [HN.out HL.out]; rfl, rfl⟩
        · have hmf : 4096 < t[k].length := by omega
          have hsf : fright t block = false := by
            unfold fright; rw [decide_eq_false_iff_not]; rintro ⟨_, _, h2, _⟩; exact hmy (h2 _ hmem)
          have HS := Lib.hid hsf
          generalize t[k] = x at *
          clear hmy hsf hc htk hmem
          have hsz2 : (⟨x.toArray⟩ : ByteArray).size = x.length := by simp [ByteArray.size]
          go_wp2_with fail
          go_ret
          exact ⟨by rw [HS.out]; rfl, rfl⟩
      · obtain rfl : k = t.length := by omega
        have hs : fright t block = true := by
          unfold fright; rw [decide_eq_true_eq]
          have := HM.out; have h3 := HP.out
          rw [List.take_length] at this h3
          exact ⟨⟨hn1, hn2⟩, hn3, this, h3⟩
        have HS := Lib.hid hs; clear hs
        go_wp2_with fail
        go_ret
        exact ⟨by rw [HS.out]; rfl, rfl⟩
  · have hs : fright t block = false := by
      unfold fright; rw [decide_eq_false_iff_not]; rintro ⟨h1, h2, _⟩; exact hn ⟨h1, h2⟩
    have HS := Lib.hid hs; clear hs
    by_cases c1 : block < 1
    · go_enter Tryz.func233, Tryz.ntmps233
      go_wp2_with fail
      go_ret
      exact ⟨by rw [HS.out]; rfl, rfl⟩
    · by_cases c2 : 64 < block
      · go_enter Tryz.func233, Tryz.ntmps233
        go_wp2_with fail
        go_ret
        exact ⟨by rw [HS.out]; rfl, rfl⟩
      · have c3 : 4096 < t.length := by omega
        clear hn
        go_enter Tryz.func233, Tryz.ntmps233
        go_wp2_with fail
        go_ret
        exact ⟨by rw [HS.out]; rfl, rfl⟩

/-- How many bytes two strings share at the beginning. -/
def fshared : Str → Str → Nat
  | x :: a, y :: b => if x = y then fshared a b + 1 else 0
  | _, _ => 0
theorem fshared_le (a b : Str) : fshared a b ≤ a.length ∧ fshared a b ≤ b.length := by
  induction a generalizing b with
  | nil => simp [fshared]
  | cons x a ih =>
    cases b with
    | nil => simp [fshared]
    | cons y b => unfold fshared; have := ih b; split <;> simp <;> omega

set_option maxRecDepth 100000 in
set_option maxHeartbeats 400000 in
theorem shared_ok (w : World) (a b : Str) (ha : a.length ≤ 1000000) (hb : b.length ≤ 1000000) :
    Calls Tryz.prog 272 #[.string ⟨a.toArray⟩, .string ⟨b.toArray⟩] w fun en w' => en = .returned (.int .i64 (fshared a b : Int)) ∧ Drawn w w' := by
  generalize hR : fshared a b = R
  have HR := Lib.hid hR; clear hR
  have hsa : (⟨a.toArray⟩ : ByteArray).size = a.length := by simp [ByteArray.size]
  have hsb : (⟨b.toArray⟩ : ByteArray).size = b.length := by simp [ByteArray.size]
  go_enter Tryz.func272, Tryz.ntmps272
  go_wp2_with fail
  go_loopw [5] (fun i wr => ∃ k : Nat, i = .int .i64 (k : Int) ∧ k ≤ a.length ∧ k + fshared (a.drop k) (b.drop k) = R ∧ Drawn w wr) (fun i _ => a.length - (intOf i).toNat)
  case atStart => exact ⟨0, rfl, Nat.zero_le _, by simpa using HR.out, .refl _⟩
  case round =>
    obtain ⟨k, rfl, hk, hr, hD⟩ := hrel
    have hsl := fshared_le (a.drop k) (b.drop k)
    by_cases h1 : k < a.length
    · have t1 : decide ((k : Int) < (a.length : Int)) = true := by simp; omega
      by_cases h2 : k < b.length
      · have t2 : decide ((k : Int) < (b.length : Int)) = true := by simp; omega
        have ga : (⟨a.toArray⟩ : ByteArray)[k]'(by rw [hsa]; exact h1) = a[k] := rfl
        have gb : (⟨b.toArray⟩ : ByteArray)[k]'(by rw [hsb]; exact h2) = b[k] := rfl
        have hst : fshared (a.drop k) (b.drop k) = if a[k] = b[k] then fshared (a.drop (k + 1)) (b.drop (k + 1)) + 1 else 0 := by
          rw [← List.getElem_cons_drop h1, ← List.getElem_cons_drop h2]; rfl
        rw [hst] at hr
        clear hst hsl
        have HRR := Lib.hid hr; clear hr
        have hx := UInt8.toNat_lt a[k]
        by_cases he : a[k] = b[k]
        · have hr1 : k + 1 + fshared (a.drop (k + 1)) (b.drop (k + 1)) = R := by have := HRR.out; rw [if_pos he] at this; omega
          have HR1 := Lib.hid hr1; clear hr1 HRR
          have hbq : ((a[k].toNat : Int) == (b[k].toNat : Int)) = true := by rw [he]; simp
          go_wp2_with fail
          go_quiet (fail)
          go_wp2
          go_roundw
          case rel => exact ⟨k + 1, by go_num, by omega, HR1.out, hD.step _⟩
          case measure => simp [intOf]; omega
        · have hr1 : k = R := by have := HRR.out; rw [if_neg he] at this; omega
          have HR1 := Lib.hid hr1; clear hr1 HRR
          have hbq : ((a[k].toNat : Int) == (b[k].toNat : Int)) = false := by
            rw [beq_eq_false_iff_ne]; intro h; exact he (UInt8.toNat_inj.1 (by exact_mod_cast h))
          go_wp2_with fail
          go_quiet (fail)
          go_wp2
          go_ret
          exact ⟨by rw [← HR1.out]; rfl, hD.step _⟩
      · have t2 : decide ((k : Int) < (b.length : Int)) = false := by simp; omega
        have hr1 : k = R := by
          have : b.drop k = [] := List.drop_of_length_le (by omega)
          rw [this] at hr; have h0 : fshared (a.drop k) [] = 0 := by cases a.drop k <;> rfl
          omega
        have HR1 := Lib.hid hr1; clear hr1 hr hsl
        go_wp2_with fail
        go_quiet (fail)
        go_wp2
        go_ret
        exact ⟨by rw [← HR1.out]; rfl, hD.step _⟩
    · have t1 : decide ((k : Int) < (a.length : Int)) = false := by simp; omega
      have hr1 : k = R := by
        have : a.drop k = [] := List.drop_of_length_le (by omega)
        rw [this] at hr; have h0 : fshared [] (b.drop k) = 0 := by cases b.drop k <;> rfl
        omega
      have HR1 := Lib.hid hr1; clear hr1 hr hsl
      go_wp2_with fail
      go_quiet (fail)
      go_wp2
      go_ret
      exact ⟨by rw [← HR1.out]; rfl, hD.step _⟩
end Go.Proofs.YtpjbibcjefkcaaaGreat
