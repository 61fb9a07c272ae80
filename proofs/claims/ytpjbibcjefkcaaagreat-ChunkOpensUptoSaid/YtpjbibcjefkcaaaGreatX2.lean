import Derived.Test.YtpjbibcjefkcaaaGreatX1
namespace Go.Proofs.YtpjbibcjefkcaaaGreat
open Go.RowKit

/-- Which values are there, and their strings. -/
def presB (l : List (Bool × Str)) : List Bool := l.map fun v => !v.1
def presS (l : List (Bool × Str)) : List Str := (l.filter fun v => !v.1).map fun v => v.2
theorem presB_snoc (l : List (Bool × Str)) (x : Bool × Str) : presB (l ++ [x]) = presB l ++ [!x.1] := by simp [presB]
theorem presS_snoc (l : List (Bool × Str)) (x : Bool × Str) : presS (l ++ [x]) = presS l ++ (if x.1 = true then [] else [x.2]) := by
  cases hx : x.1 <;> simp [presS, List.filter_append, hx]
theorem presS_len (l : List (Bool × Str)) : (presS l).length ≤ l.length := by
  unfold presS; rw [List.length_map]; exact List.length_filter_le ..

def PresPost (w : World) (l : List (Bool × Str)) : Ending → World → Prop := fun en w' =>
  ∃ v1 v2, en = .returned (.tuple #[v1, v2]) ∧ Own kBool 4 w' w.heap.size 0 v1 (presB l) ∧ Own kStr 9 w' w.heap.size 0 v2 (presS l) ∧ Below w.heap.size w w'

set_option maxRecDepth 100000 in
set_option maxHeartbeats 1600000 in
theorem present_ok (w : World) (B : Nat) (v : Value) (l : List (Bool × Str)) (h : Rd kVal 74 w B v l) (hn : l.length ≤ 1000000) :
    Calls Tryz.prog 92 #[v] w (PresPost w l) := by
  obtain ⟨A, c, rfl, h1, h2⟩ := h.form
  have hu := Tryz.underlying74
  go_enter Tryz.func92, Tryz.ntmps92
  go_wp2_with fail
  go_loopw [4, 5, 10] (fun bv sv i wr => ∃ (j : Nat) (bs : List Bool) (ss : List Str), i = .int .i64 (j : Int) ∧ j ≤ l.length ∧ bs = presB (l.take j) ∧ ss = presS (l.take j) ∧ Own kBool 4 wr w.heap.size 0 bv bs ∧ Own kStr 9 wr w.heap.size 0 sv ss ∧ Below w.heap.size w wr) (fun _ _ i _ => l.length - (intOf i).toNat)
  case atStart => exact ⟨0, [], [], rfl, by omega, rfl, rfl, Own.nil _ _ _ _ _, Own.nil _ _ _ _ _, Below.refl _ _⟩
  case round =>
    obtain ⟨j, bs, ss, rfl, hj, hbs, hss, HO, HO2, HB⟩ := hrel
    obtain ⟨A5, c5, rfl, _, _⟩ := HO.form
    obtain ⟨A6, c6, rfl, _, _⟩ := HO2.form
    have hbl : bs.length = j := by rw [hbs, presB, List.length_map, List.length_take]; omega
    have hsl : ss.length ≤ j := by rw [hss]; refine Nat.le_trans (presS_len _) ?_; rw [List.length_take]; omega
    by_cases hlt : j < l.length
    · obtain ⟨b0, off0, cs0, rfl, hk, hc0⟩ := (h.below HB).at hlt
      have ht : l.take (j + 1) = l.take j ++ [l[j]] := by rw [List.take_add_one, List.getElem?_eq_getElem hlt]; rfl
      have hb2 := presB_snoc (l.take j) l[j]
      have hs2 := presS_snoc (l.take j) l[j]
      rw [← ht, ← hbs] at hb2
      rw [← ht, ← hss] at hs2
      have HB2 := Lib.hid hb2; have HS2 := Lib.hid hs2; have HBL := Lib.hid hbl; have HSL := Lib.hid hsl
      clear hb2 hs2 ht hbs hss hbl hsl
      generalize l[j] = x at *
      obtain ⟨nl, s⟩ := x
      obtain ⟨p1, p2, rfl, rfl, rfl, hstr⟩ := hk
      have hx0 := hc0 0 _ rfl
      have hx1 := hc0 1 _ rfl
      simp only [Nat.add_zero, show kVal.sz = 2 from rfl] at hx0 hx1
      clear hc0
      have hlimb : (bs.length + 1) * 1 ≤ 140737488355328 := by rw [HBL.out]; omega
      have hlims : (ss.length + 1) * 16 ≤ 140737488355328 := by have := HSL.out; omega
      have hb0 := below_alloc (w := wr) (.cells #[.bool nl, .string ⟨s.toArray⟩] 74)
      have hb01 := below_alloc (w := wr.alloc (.cells #[.bool nl, .string ⟨s.toArray⟩] 74)) (.cells #[.bool !nl] 4)
      have hb1 := below_step hb0 hb0.size hb01
      have HO1 := HO.below hb1
      have hsz1 : (wr.alloc (.cells #[.bool nl, .string ⟨s.toArray⟩] 74)).heap.size = wr.heap.size + 1 := by simp
      have hrow := (hb01.block _ (lt_of_some (heap_alloc_new wr (.cells #[.bool nl, .string ⟨s.toArray⟩] 74)))).trans (heap_alloc_new wr (.cells #[.bool nl, .string ⟨s.toArray⟩] 74))
      have HRl := (own_lit (d := kBool) (e := 4) (W := wr.alloc (.cells #[.bool nl, .string ⟨s.toArray⟩] 74)) (b := 0) (B := 0) (n := 1) (xs := [!nl]) (cells := #[.bool !nl]) rfl ⟨_, _, rfl, rfl, rfl⟩ (Nat.zero_le _) (by decide)).rd (B := 0)
      rw [hsz1] at HRl
      cases nl with
      | true =>
        go_wp2_with (at_builtin; refine appRow (d := kBool) (e := 4) (b := w.heap.size) (B := 0) (B' := 0) (xs := bs) (ys := [false]) Tryz.underlying65 Tryz.i4 HO1 HRl (fun _ _ _ h => h) (Nat.le_trans HB.size hb1.size) hlimb ?_; intro v10 w10 HO10 hw10; have hr10 := hw10.typed _ _ _ _ (by decide) hrow; have k0 : w10.cell? ⟨wr.heap.size, 0, none⟩ = some (.bool true) := (by simp [World.cell?, hr10]); have k1 : w10.cell? ⟨wr.heap.size, 1, none⟩ = some (.string ⟨s.toArray⟩) := (by simp [World.cell?, hr10]); have HS10 := (HO2.below hb1).wr hw10 (by decide) (by decide) (Nat.zero_le _); have HB10 := hw10.below (below_step HB HB.size hb1) (Nat.le_refl _) (Nat.le_trans HB.size hb1.size))
        go_roundw
        case rel => exact ⟨j + 1, _, _, by go_num, by omega, HB2.out.symm, by have := HS2.out; simpa using this.symm, HO10, HS10, HB10⟩
        case measure => simp [intOf]; omega
      | false =>
        go_wp2_with (first | (at_builtin; refine appRow (d := kBool) (e := 4) (b := w.heap.size) (B := 0) (B' := 0) (xs := bs) (ys := [true]) Tryz.underlying65 Tryz.i4 HO1 HRl (fun _ _ _ h => h) (Nat.le_trans HB.size hb1.size) hlimb ?_; intro v10 w10 HO10 hw10; have hr10 := hw10.typed _ _ _ _ (by decide) hrow; have k0 : w10.cell? ⟨wr.heap.size, 0, none⟩ = some (.bool false) := (by simp [World.cell?, hr10]); have k1 : w10.cell? ⟨wr.heap.size, 1, none⟩ = some (.string ⟨s.toArray⟩) := (by simp [World.cell?, hr10]); have HS10 := (HO2.below hb1).wr hw10 (by decide) (by decide) (Nat.zero_le _); have HB10 := hw10.below (below_step HB HB.size hb1) (Nat.le_refl _) (Nat.le_trans HB.size hb1.size)) | (at_builtin; refine app1 (y := s) Tryz.underlying52 Tryz.i9 HS10 ⟨rfl, hstr⟩ HB10.size hlims ?_; intro v12 w12 HO12 hw12))
        go_roundw
        case rel => exact ⟨j + 1, _, _, by go_num, by omega, HB2.out.symm, by have := HS2.out; simpa using this.symm, HO10.wr hw12 (by decide) (by decide) (Nat.zero_le _), HO12, hw12.below HB10 (Nat.le_refl _) HB10.size⟩
        case measure => simp [intOf]; omega
    · obtain rfl : j = l.length := by omega
      rw [List.take_length] at hbs hss
      have HBS := Lib.hid hbs; have HSS := Lib.hid hss
      clear hbs hss hbl hsl
      go_wp2_with fail
      go_ret2
      exact ⟨_, _, rfl, by rw [← HBS.out]; exact HO, by rw [← HSS.out]; exact HO2, HB⟩
end Go.Proofs.YtpjbibcjefkcaaaGreat
