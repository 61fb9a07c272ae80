import Derived.Test.YtpjbibcjefkcaaaGreatXa
import Derived.Test.YtpjbibcjefkcaaaGreatY4
namespace Go.Proofs.YtpjbibcjefkcaaaGreat
open Go.RowKit

set_option maxRecDepth 100000 in
set_option maxHeartbeats 1600000 in
theorem rpresent_ok (w : World) (B : Nat) (v : Value) (l : List (Bool × Str)) (h : Rd kVal 74 w B v l) (hn : l.length ≤ 1000000) :
    Calls Tryz.prog 41 #[v] w (PresPost w l) := by
  obtain ⟨A, c, rfl, h1, h2⟩ := h.form
  have hu := Tryz.underlying74
  go_enter Tryz.func41, Tryz.ntmps41
  go_wp2_with fail
  go_loopw [4, 5, 6] (fun bv sv i wr => ∃ (j : Nat) (bs : List Bool) (ss : List Str), i = .int .i64 (j : Int) ∧ j ≤ l.length ∧ bs = presB (l.take j) ∧ ss = presS (l.take j) ∧ Own kBool 4 wr w.heap.size 0 bv bs ∧ Own kStr 9 wr w.heap.size 0 sv ss ∧ Below w.heap.size w wr) (fun _ _ i _ => l.length - (intOf i).toNat)
  case atStart => exact ⟨0, [], [], rfl, by omega, rfl, rfl, Own.nil _ _ _ _ _, Own.nil _ _ _ _ _, Below.refl _ _⟩
  case round =>
    obtain ⟨j, bs, ss, rfl, hj, hbs, hss, HO, HO2, HB⟩ := hrel
    obtain ⟨A5, c5, rfl, _, _⟩ := HO.form
    obtain ⟨A6, c6, rfl, _, _⟩ := HO2.form
    have hbl : bs.length = j := by rw [hbs, presB, List.length_map, List.length_take]; omega
    have hsl : ss.length ≤ j := by rw [hss]; refine Nat.le_trans (presS_len _) ?_; rw [List.length_take]; omega
    by_cases hlt : j < l.length
    · obtain ⟨b0, off0, cs0, rfl, hk, hc0⟩ := h.at hlt
      have ht : l.take (j + 1) = l.take j ++ [l[j]] := by rw [List.take_add_one, List.getElem?_eq_getElem hlt]; rfl
      have hb2 := presB_snoc (l.take j) l[j]
      have hs2 := presS_snoc (l.take j) l[j]
      rw [← ht, ← hbs] at hb2
      rw [← ht, ← hss] at hs2
      have HB2 := Lib.hid hb2; have HS2 := Lib.hid hs2; have HBL := Lib.hid hbl; have HSL := Lib.hid hsl
      clear hb2 hs2 ht hbs hss hbl hsl
      generalize l[j] = x at *
      obtain ⟨nl, s⟩ := x
      obtain ⟨p1, p2, rfl, rfl, rfl, hstr⟩ := hk
      have hy0 := hc0 0 _ rfl
      have hy1 := hc0 1 _ rfl
      simp only [Nat.add_zero, show kVal.sz = 2 from rfl] at hy0 hy1
      have hx0 := belc HB hy0
      have hx1 := belc HB hy1
      clear hc0
      have hlimb : (bs.length + 1) * 1 ≤ 140737488355328 := by rw [HBL.out]; omega
      have hlims : (ss.length + 1) * 16 ≤ 140737488355328 := by have := HSL.out; omega
      cases nl with
      | true =>
        go_wp2_with (at_builtin; refine app1 (d := kBool) (y := false) Tryz.underlying65 Tryz.i4 HO rfl HB.size hlimb ?_; intro v10 w10 HO10 hw10; have HB10 := hw10.below HB (Nat.le_refl _) HB.size; have k0 := belc HB10 hy0; have k1 := belc HB10 hy1)
        go_roundw
        case rel => exact ⟨j + 1, _, _, by go_num, by omega, HB2.out.symm, by have := HS2.out; simpa using this.symm, HO10, HO2.wr hw10 (by decide) (by decide) (Nat.zero_le _), HB10⟩
        case measure => simp [intOf]; omega
      | false =>
        go_wp2_with (at_builtin; refine app1 (d := kBool) (y := true) Tryz.underlying65 Tryz.i4 HO rfl HB.size hlimb ?_)
        intro v10 w10 HO10 hw10
        have HB10 := hw10.below HB (Nat.le_refl _) HB.size
        have k0 := belc HB10 hy0
        have k1 := belc HB10 hy1
        have HS10 := HO2.wr hw10 (by decide) (by decide) (Nat.zero_le _)
        go_wp2_with (at_builtin; refine app1 (d := kStr) (y := s) Tryz.underlying52 Tryz.i9 HS10 ⟨rfl, hstr⟩ HB10.size hlims ?_)
        intro v12 w12 HO12 hw12
        go_wp2_with fail
        go_roundw
        case rel => exact ⟨j + 1, _, _, by go_num, by omega, HB2.out.symm, by have := HS2.out; simpa using this.symm, HO10.wr hw12 (by decide) (by decide) (Nat.zero_le _), HO12, hw12.below HB10 (Nat.le_refl _) HB10.size⟩
        case measure => simp [intOf]; omega
    · obtain rfl : j = l.length := by omega
      rw [List.take_length] at hbs hss
      have HBS := Lib.hid hbs; have HSS := Lib.hid hss
      clear hbs hss hbl hsl
      go_wp2_with fail
      go_ret2
      exact ⟨_, _, rfl, by rw [← HBS.out]; exact HO, by rw [← HSS.out]; exact HO2, HB⟩
end Go.Proofs.YtpjbibcjefkcaaaGreat
