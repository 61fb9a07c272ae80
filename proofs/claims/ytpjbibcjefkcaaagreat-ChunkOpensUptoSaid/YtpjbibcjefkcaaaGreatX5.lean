import Derived.Test.YtpjbibcjefkcaaaGreatX4
namespace Go.Proofs.YtpjbibcjefkcaaaGreat
open Go.RowKit

set_option maxRecDepth 100000 in
theorem indexFunc_val_ok (f : Nat) (caps : Array Value) (p : Bool × Str → Bool) (w : World) (hf : ∀ args w, Sem.run Tryz.prog (callFunc f args) w = .ok (.enter f args) w) (hp : PredIs kVal w f caps p) (B : Nat) (v : Value) (xs : List (Bool × Str)) (h : Rd kVal 74 w B v xs) :
    Calls Tryz.prog 189 #[v, .func (.func f) #[] caps] w fun en w' => (∃ i : Int, en = .returned (.int .i64 i) ∧ (0 ≤ i ↔ xs.any p = true)) ∧ Below w.heap.size w w' := by
  obtain ⟨A, c, rfl, h1, h2⟩ := h.form
  have hu := Tryz.underlying74
  go_enter Tryz.func189, Tryz.ntmps189
  go_wp2_with fail
  go_loopw [8] (fun i wr => ∃ k : Nat, k ≤ xs.length ∧ i = .int .i64 (k : Int) ∧ (xs.take k).any p = false ∧ Below w.heap.size w wr) (fun i _ => xs.length - (intOf i).toNat)
  case atStart => exact ⟨0, by omega, rfl, by simp, Below.refl _ _⟩
  case round =>
    obtain ⟨k, hk, rfl, hn, HB⟩ := hrel
    have HN := Lib.hid hn; clear hn
    by_cases hlt : k < xs.length
    · have hr := h.below HB
      obtain ⟨b, off, cs, rfl, hkk, hc⟩ := hr.at hlt
      obtain ⟨p1, p2, rfl, hp1, hp2⟩ := hkk
      have hkk2 : kVal.K wr B xs[k] (p1 ++ p2) := ⟨p1, p2, rfl, hp1, hp2⟩
      obtain rfl := hp1
      obtain ⟨rfl, hstr⟩ := hp2
      have hc0 := hc 0 _ rfl
      have hc1 := hc 1 _ rfl
      simp only [Nat.add_zero, show kVal.sz = 2 from rfl] at hc0 hc1
      have hsn : (xs.take (k + 1)).any p = ((xs.take k).any p || p xs[k]) := by
        rw [List.take_add_one, List.getElem?_eq_getElem hlt, List.any_append]; simp
      have hin : p xs[k] = true → xs.any p = true := fun h => List.any_eq_true.2 ⟨_, List.getElem_mem hlt, h⟩
      generalize xs[k] = y at *
      clear hc
      have HS := Lib.hid hsn; have HI := Lib.hid hin; clear hsn hin
      cases hy : p y
      · have HY := Lib.hid hy; clear hy
        go_wp2_with fail
        refine (hp _ B y _ HB hkk2).mono ?_
        rintro e w1 ⟨rfl, HB1⟩
        rw [HY.out]
        go_wp2_with fail
        go_roundw
        case rel => exact ⟨k + 1, by omega, by go_num, by rw [HS.out, HN.out, HY.out]; rfl, below_step HB HB.size HB1⟩
        case measure => simp [intOf]; omega
      · have HY := Lib.hid hy; clear hy
        go_wp2_with fail
        refine (hp _ B y _ HB hkk2).mono ?_
        rintro e w1 ⟨rfl, HB1⟩
        rw [HY.out]
        go_wp2_with fail
        go_ret
        exact ⟨⟨k, rfl, by simp [HI.out HY.out]⟩, below_step HB HB.size HB1⟩
    · obtain rfl : k = xs.length := by omega
      have hn := HN.out
      rw [List.take_length] at hn
      have HN2 := Lib.hid hn; clear hn
      go_wp2_with fail
      go_ret
      exact ⟨⟨-1, rfl, by simp [HN2.out]⟩, HB⟩

set_option maxRecDepth 100000 in
theorem containsFunc_val_ok (f : Nat) (caps : Array Value) (p : Bool × Str → Bool) (w : World) (hf : ∀ args w, Sem.run Tryz.prog (callFunc f args) w = .ok (.enter f args) w) (hp : PredIs kVal w f caps p) (B : Nat) (v : Value) (xs : List (Bool × Str)) (h : Rd kVal 74 w B v xs) :
    Calls Tryz.prog 147 #[v, .func (.func f) #[] caps] w fun en w' => en = .returned (.bool (xs.any p)) ∧ Below w.heap.size w w' := by
  go_enter Tryz.func147, Tryz.ntmps147
  go_wp2_with fail
  refine (indexFunc_val_ok f caps p w hf hp B v xs h).mono ?_
  rintro e w1 ⟨⟨i, rfl, hi⟩, HB⟩
  have HI := Lib.hid hi; clear hi
  go_wp2_with fail
  go_ret
  exact ⟨congrArg (fun b => Ending.returned (.bool b)) (by rw [Bool.eq_iff_iff, ← HI.out]; simp), HB⟩
end Go.Proofs.YtpjbibcjefkcaaaGreat
