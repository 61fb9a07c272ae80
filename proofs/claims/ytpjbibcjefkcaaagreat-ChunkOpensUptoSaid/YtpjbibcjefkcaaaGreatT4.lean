import Derived.Test.YtpjbibcjefkcaaaGreatT3
import Derived.Test.YtpjbibcjefkcaaaGreatPk
import Derived.Shelf.Small.Bits
namespace Go.Proofs.YtpjbibcjefkcaaaGreat
open Go.RowKit

theorem Tryz.i3 : (Tryz.prog.info? 3).map (fun i => (i.zero, i.size, i.bytes)) = some (some (.int .i64 0), 1, 8) := by kernel_rfl

/-- What a predicate that is handed over answers. -/
def argOf : List Value → Value
  | [v] => v
  | cs => .agg cs.toArray
def PredIs {α : Type} (d : Kd α) (w0 : World) (f : Nat) (caps : Array Value) (p : α → Bool) : Prop := ∀ (W : World) (B : Nat) (x : α) (cs : List Value), Below w0.heap.size w0 W → d.K W B x cs → Calls Tryz.prog f (#[argOf cs] ++ caps) W fun en W' => en = .returned (.bool (p x)) ∧ Below W.heap.size W W'

set_option maxRecDepth 100000 in
theorem indexFunc_int_ok (f : Nat) (caps : Array Value) (p : Int → Bool) (w : World) (hf : ∀ args w, Sem.run Tryz.prog (callFunc f args) w = .ok (.enter f args) w) (hp : PredIs (kInt .i64) w f caps p) (B : Nat) (v : Value) (xs : List Int) (h : Rd (kInt .i64) 3 w B v xs) :
    Calls Tryz.prog 214 #[v, .func (.func f) #[] caps] w fun en w' => (∃ i : Int, en = .returned (.int .i64 i) ∧ (0 ≤ i ↔ xs.any p = true)) ∧ Below w.heap.size w w' := by
  obtain ⟨A, c, rfl, h1, h2⟩ := h.form
  go_enter Tryz.func214, Tryz.ntmps214
  go_wp2_with fail
  go_loopw [8] (fun i wr => ∃ k : Nat, k ≤ xs.length ∧ i = .int .i64 (k : Int) ∧ (xs.take k).any p = false ∧ Below w.heap.size w wr) (fun i _ => xs.length - (intOf i).toNat)
  case atStart => exact ⟨0, by omega, rfl, by simp, Below.refl _ _⟩
  case round =>
    obtain ⟨k, hk, rfl, hn, HB⟩ := hrel
    have HN := Lib.hid hn; clear hn
    by_cases hlt : k < xs.length
    · have hr := h.below HB
      obtain ⟨b, off, cs, rfl, hkk, hc⟩ := hr.at hlt
      obtain ⟨rfl, hwf⟩ := hkk
      have hc0 := hc 0 _ rfl
      simp only [Nat.add_zero, show (kInt .i64).sz = 1 from rfl, Nat.mul_one] at hc0
      have hsn : (xs.take (k + 1)).any p = ((xs.take k).any p || p xs[k]) := by
        rw [List.take_add_one, List.getElem?_eq_getElem hlt, List.any_append]; simp
      have hin : p xs[k] = true → xs.any p = true := fun h => List.any_eq_true.2 ⟨_, List.getElem_mem hlt, h⟩
      generalize xs[k] = y at *
      clear hc
      have HS := Lib.hid hsn; have HI := Lib.hid hin; clear hsn hin
      cases hy : p y
      · have HY := Lib.hid hy; clear hy
        go_wp2_with fail
        refine (hp _ B y [.int .i64 y] HB ⟨rfl, hwf⟩).mono ?_
        rintro e w1 ⟨rfl, HB1⟩
        rw [HY.out]
        go_wp2_with fail
        go_roundw
        case rel => exact ⟨k + 1, by omega, by go_num, by rw [HS.out, HN.out, HY.out]; rfl, below_step HB HB.size HB1⟩
        case measure => simp [intOf]; omega
      · have HY := Lib.hid hy; clear hy
        go_wp2_with fail
        refine (hp _ B y [.int .i64 y] HB ⟨rfl, hwf⟩).mono ?_
        rintro e w1 ⟨rfl, HB1⟩
        rw [HY.out]
        go_wp2_with fail
        go_ret
        exact ⟨⟨k, rfl, by simp [HI.out HY.out]⟩, below_step HB HB.size HB1⟩
    · obtain rfl : k = xs.length := by omega
      have hn := HN.out
      rw [List.take_length] at hn
      have HN2 := Lib.hid hn; clear hn
      go_wp2_with fail
      go_ret
      exact ⟨⟨-1, rfl, by simp [HN2.out]⟩, HB⟩

set_option maxRecDepth 100000 in
theorem containsFunc_int_ok (f : Nat) (caps : Array Value) (p : Int → Bool) (w : World) (hf : ∀ args w, Sem.run Tryz.prog (callFunc f args) w = .ok (.enter f args) w) (hp : PredIs (kInt .i64) w f caps p) (B : Nat) (v : Value) (xs : List Int) (h : Rd (kInt .i64) 3 w B v xs) :
    Calls Tryz.prog 180 #[v, .func (.func f) #[] caps] w fun en w' => en = .returned (.bool (xs.any p)) ∧ Below w.heap.size w w' := by
  go_enter Tryz.func180, Tryz.ntmps180
  go_wp2_with fail
  refine (indexFunc_int_ok f caps p w hf hp B v xs h).mono ?_
  rintro e w1 ⟨⟨i, rfl, hi⟩, HB⟩
  have HI := Lib.hid hi; clear hi
  go_wp2_with fail
  go_ret
  exact ⟨congrArg (fun b => Ending.returned (.bool b)) (by rw [Bool.eq_iff_iff, ← HI.out]; simp), HB⟩

set_option maxRecDepth 100000 in
theorem write1_ok (w0 : World) : PredIs (kInt .i64) w0 237 #[] fun x => decide (x < 0 ∨ 4294967295 < x) := by
  rintro W B x cs _ ⟨rfl, hwf⟩
  show Calls Tryz.prog 237 #[.int .i64 x] W _
  by_cases h0 : x < 0
  · have h0' : decide (x < 0) = true := by simp [h0]
    go_enter Tryz.func237, Tryz.ntmps237
    go_wp2
    go_ret
    exact ⟨by simp; exact .inl h0, Below.refl _ _⟩
  · have h0' : decide (x < 0) = false := by simp; omega
    go_enter Tryz.func237, Tryz.ntmps237
    go_wp2
    go_ret
    exact ⟨by simp; (try omega), Below.refl _ _⟩

/-! ### pack -/

set_option maxRecDepth 100000 in
theorem psize_ok_ (n k : Int) (w : World) (hn : 0 ≤ n) (hk : 0 ≤ k) (hn1 : n ≤ 140737488355328) (hk1 : k ≤ 255) : Calls Tryz.prog 240 #[.int .i64 n, .int .i64 k] w fun en w' => en = .returned (.int .i64 (psize n.toNat k.toNat : Nat)) ∧ w = w' := by
  obtain ⟨a, rfl⟩ := Int.eq_ofNat_of_zero_le hn
  obtain ⟨b, rfl⟩ := Int.eq_ofNat_of_zero_le hk
  have hm : a * b ≤ 140737488355328 * 255 := Nat.mul_le_mul (by omega) (by omega)
  have hz : (0 : Int) ≤ (a : Int) * b := by exact_mod_cast Nat.zero_le _
  have hm' : (a : Int) * b ≤ 35888059530608640 := by have h := Int.ofNat_le.2 hm; rw [Int.natCast_mul] at h; omega
  go_enter Tryz.func240, Tryz.ntmps240
  go_wp2
  go_ret
  refine ⟨?_, rfl⟩
  simp [psize]
  omega

/-- The least number of bits. -/
def width (l : List Nat) : Nat := Lib.bitLen (l.foldl max 0)

set_option maxRecDepth 100000 in
theorem max_ok (w : World) (B : Nat) (v : Value) (xs : List Int) (h : Rd (kInt .i64) 3 w B v xs) (hne : xs ≠ []) (h0 : ∀ x ∈ xs, 0 ≤ x) :
    Calls Tryz.prog 206 #[v] w fun en w' => en = .returned (.int .i64 (xs.foldl max 0)) ∧ w = w' := by
  obtain ⟨A, c, rfl, h1, h2⟩ := h.form
  have hpos : 0 < xs.length := List.length_pos_iff.2 hne
  obtain ⟨b, off, cs, rfl, ⟨rfl, hwf⟩, hc⟩ := h.at hpos
  have hc0 := hc 0 _ rfl
  simp only [Nat.add_zero, Nat.zero_mul] at hc0
  have hx0 : max (0 : Int) (xs[0]'hpos) = xs[0]'hpos := by have := h0 _ (List.getElem_mem hpos); omega
  have hst : (xs.take 1).foldl max 0 = xs[0] := by rw [List.take_one, List.head?_eq_getElem?, List.getElem?_eq_getElem hpos]; simpa using hx0
  have HST := Lib.hid hst; clear hst hx0
  have hd : decide ((xs.length : Int) < 1) = false := by simp; omega
  generalize hy0 : xs[0] = y0 at *
  clear hc hy0
  go_enter Tryz.func206, Tryz.ntmps206
  go_wp2_with fail
  go_loop [3, 4] (fun m i => ∃ k : Nat, 1 ≤ k ∧ k ≤ xs.length ∧ i = .int .i64 (k : Int) ∧ m = .int .i64 ((xs.take k).foldl max 0)) (fun _ i => xs.length - (intOf i).toNat)
  case atStart => exact ⟨1, by omega, by omega, rfl, by rw [HST.out]⟩
  case round =>
    obtain ⟨k, hk1, hk, rfl, rfl⟩ := hrel
    by_cases hlt : k < xs.length
    · obtain ⟨b', off', cs, hA, ⟨rfl, hwf'⟩, hc⟩ := h.at hlt
      injection hA with hA; injection hA with hA1 hA2; subst hA1 hA2
      have hc1 := hc 0 _ rfl
      simp only [Nat.add_zero, show (kInt .i64).sz = 1 from rfl, Nat.mul_one] at hc1
      have hs : (xs.take (k + 1)).foldl max 0 = max ((xs.take k).foldl max 0) xs[k] := by
        rw [List.take_add_one, List.getElem?_eq_getElem hlt, List.foldl_append]; rfl
      have HS := Lib.hid hs; clear hs hc
      generalize xs[k] = y at *
      generalize (xs.take k).foldl max 0 = m at *
      go_wp2
      all_goals
        go_round
        case rel => exact ⟨k + 1, by omega, by omega, by go_num, by rw [HS.out]; first | done | (congr 1; omega)⟩
        case measure => simp [intOf]; omega
    · obtain rfl : k = xs.length := by omega
      rw [List.take_length]
      go_wp2
      go_ret
      exact ⟨rfl, rfl⟩
end Go.Proofs.YtpjbibcjefkcaaaGreat
