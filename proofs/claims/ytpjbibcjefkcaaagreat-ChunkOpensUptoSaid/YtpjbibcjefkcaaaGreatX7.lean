import Derived.Test.YtpjbibcjefkcaaaGreatX6
import Derived.Test.YtpjbibcjefkcaaaGreatY1
namespace Go.Proofs.YtpjbibcjefkcaaaGreat
open Go.RowKit

/-- Chunk.At. -/
def valAt (l : List (Bool × Str)) (i : Int) : Bool × Str := if 0 ≤ i ∧ i < l.length then l.getD i.toNat (true, []) else (true, [])
def AggIs (b : Bool) (s : Str) (w : World) (en : Ending) (w' : World) : Prop := en = .returned (.agg #[.bool b, .string ⟨s.toArray⟩]) ∧ Below w.heap.size w w'
set_option maxRecDepth 100000 in
set_option maxHeartbeats 400000 in
theorem cat_ok (w : World) (gx : Nat) (X vals at_) (i : Int) (h : ChunkAt w gx X vals at_) : Calls Tryz.prog 54 #[.pointer (some ⟨gx, 0, none⟩), .int .i64 i] w (AggIs (valAt vals i).1 (valAt vals i).2 w) := by
  obtain ⟨v1, v6, h1, h2, h3⟩ := h
  obtain ⟨A, c, rfl, hl1, hl2⟩ := h2.form
  obtain ⟨_, _, _, _, _, _, _, q0, q1, _⟩ := h1.cells
  have hu := Tryz.underlying165
  have hu74 := Tryz.underlying74
  clear h1
  have hb0 := below_alloc (w := w) (.cells #[.bool false, .string ⟨#[]⟩] 74)
  by_cases hi0 : 0 ≤ i
  · by_cases hi : i < (vals.length : Int)
    · obtain ⟨n, rfl⟩ := Int.eq_ofNat_of_zero_le hi0
      have hn : n < vals.length := by omega
      have e : valAt vals (n : Int) = vals[n] := by
        unfold valAt; rw [if_pos ⟨by omega, by omega⟩]; simp [hn]
      rw [e]
      obtain ⟨b0, off0, cs0, rfl, hk, hc0⟩ := (h2.below hb0).at hn
      generalize vals[n] = x at *
      obtain ⟨nl, s⟩ := x
      obtain ⟨p1, p2, rfl, rfl, rfl, hstr⟩ := hk
      have hx0 := hc0 0 _ rfl
      have hx1 := hc0 1 _ rfl
      simp only [Nat.add_zero, show kVal.sz = 2 from rfl] at hx0 hx1
      have q1' := belc hb0 q1
      clear hc0 h2 e
      go_enter Tryz.func54, Tryz.ntmps54
      go_wp2
      exact bodyPost_ret (v := .agg #[.bool nl, .string ⟨s.toArray⟩]) (by simp [results, Tryz.results54, go_sem]) rfl ⟨rfl, (Below.refl _ _).alloc (Nat.le_refl _) _⟩
    · have e : valAt vals i = (true, []) := by unfold valAt; rw [if_neg (by omega)]
      rw [e]
      clear e
      have q1' := belc hb0 q1
      go_enter Tryz.func54, Tryz.ntmps54
      go_wp2
      exact bodyPost_ret (v := .agg #[.bool true, .string ⟨#[]⟩]) (by simp [results, Tryz.results54, go_sem]) rfl ⟨rfl, (Below.refl _ _).alloc (Nat.le_refl _) _⟩
  · have e : valAt vals i = (true, []) := by unfold valAt; rw [if_neg (by omega)]
    rw [e]
    clear e
    go_enter Tryz.func54, Tryz.ntmps54
    go_wp2
    exact bodyPost_ret (v := .agg #[.bool true, .string ⟨#[]⟩]) (by simp [results, Tryz.results54, go_sem]) rfl ⟨rfl, (Below.refl _ _).alloc (Nat.le_refl _) _⟩

/-- Few. -/
def bytesOf (l : List (Bool × Str)) : Nat := (l.map fun x => x.2.length).sum
def fewV (l : List (Bool × Str)) : Bool := decide (l.length ≤ 100) && decide (bytesOf l ≤ 5000)
theorem bytesOf_take (l : List (Bool × Str)) (k : Nat) (h : k < l.length) : bytesOf (l.take (k + 1)) = bytesOf (l.take k) + l[k].2.length := by
  rw [List.take_add_one, List.getElem?_eq_getElem h]
  unfold bytesOf
  rw [List.map_append, List.sum_append]
  rfl
theorem bytesOf_le (l : List (Bool × Str)) (k : Nat) : bytesOf (l.take k) ≤ bytesOf l := by
  conv => rhs; rw [← List.take_append_drop k l]
  unfold bytesOf
  rw [List.map_append, List.sum_append]
  omega
def FewPost (l : List (Bool × Str)) (w : World) (en : Ending) (w' : World) : Prop := ∃ b, en = .returned (.bool b) ∧ (b = true → l.length ≤ 100 ∧ bytesOf l ≤ 5000) ∧ w = w'
set_option maxRecDepth 100000 in
set_option maxHeartbeats 400000 in
theorem few_ok (w : World) (B : Nat) (v : Value) (l : List (Bool × Str)) (h : Rd kVal 74 w B v l) : Calls Tryz.prog 37 #[v] w (FewPost l w) := by
  obtain ⟨A, c, rfl, h1, h2⟩ := h.form
  have hu := Tryz.underlying74
  go_enter Tryz.func37, Tryz.ntmps37
  go_wp2_with fail
  go_loop [3, 4] (fun x i => ∃ j n : Nat, i = .int .i64 (j : Int) ∧ j ≤ l.length ∧ j ≤ 200 ∧ x = .int .i64 (n : Int) ∧ n ≤ 5000 ∧ n = bytesOf (l.take j)) (fun _ i => l.length - (intOf i).toNat)
  case atStart => exact ⟨0, 0, rfl, by omega, by omega, rfl, by omega, by simp [bytesOf]⟩
  case round =>
    obtain ⟨j, n, rfl, hj, hj2, rfl, hn5, hn⟩ := hrel
    by_cases hlt : j < l.length
    · by_cases h200 : j < 200
      · obtain ⟨b0, off0, cs0, rfl, hk, hc0⟩ := h.at hlt
        have hbt := bytesOf_take l j hlt
        generalize l[j] = x at *
        obtain ⟨nl, s⟩ := x
        obtain ⟨p1, p2, rfl, rfl, rfl, hstr⟩ := hk
        have hx0 := hc0 0 _ rfl
        have hx1 := hc0 1 _ rfl
        simp only [Nat.add_zero, show kVal.sz = 2 from rfl] at hx0 hx1
        simp only at hstr hbt
        have hsz : (⟨s.toArray⟩ : ByteArray).size = s.length := by simp [ByteArray.size]
        rw [← hn] at hbt
        have HBT := Lib.hid hbt
        clear hc0 hn hbt
        by_cases h5 : n + s.length ≤ 5000
        · have hd : decide ((5000 : Int) < (n : Int) + (s.length : Int)) = false := by simp; omega
          go_wp2_with fail
          go_round
          case rel => exact ⟨j + 1, n + s.length, by go_num, by omega, by omega, by go_num, h5, HBT.out.symm⟩
          case measure => simp [intOf]; omega
        · have hd : decide ((5000 : Int) < (n : Int) + (s.length : Int)) = true := by simp; omega
          go_wp2_with fail
          go_ret
          exact ⟨false, rfl, by simp, rfl⟩
      · have hd : decide ((l.length : Int) ≤ 100) = false := by simp; omega
        have h200' : decide ((j : Int) < 200) = false := by simp; omega
        clear hn
        go_wp2_with fail
        go_ret
        exact ⟨false, rfl, by simp, rfl⟩
    · obtain rfl : j = l.length := by omega
      rw [List.take_length] at hn
      have HN := Lib.hid hn; clear hn
      go_wp2_with fail
      go_ret
      exact ⟨_, rfl, fun hh => ⟨by have := of_decide_eq_true hh; omega, by rw [← HN.out]; exact hn5⟩, rfl⟩
end Go.Proofs.YtpjbibcjefkcaaaGreat
