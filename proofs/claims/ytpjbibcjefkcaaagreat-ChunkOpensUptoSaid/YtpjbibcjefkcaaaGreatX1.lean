import Derived.Test.YtpjbibcjefkcaaaGreatW6
namespace Go.Proofs.YtpjbibcjefkcaaaGreat
open Go.RowKit

/-- Byte strings, packed. -/
def texts (l : List Str) : Str := pwrite (ints (l.map List.length)) ++ l.flatten

theorem pwrite_len (l : List Int) (h : may l) (hn : l.length ≤ 1000000) : (pwrite l).length ≤ 5000000 := by
  have h1 := pwidth_le h
  have h2 : (vput l.length).length ≤ 9 := vput_len9 (by omega)
  have h3 : (nats l).length = l.length := by simp [nats]
  have h4 : l.length * pwidth l ≤ l.length * 32 := Nat.mul_le_mul_left _ h1
  unfold pwrite
  rw [List.length_append, List.length_append, List.length_singleton]
  unfold pput
  rw [pk_len, h3]
  unfold psize
  omega
theorem flat_len (l : List Str) (m : Nat) (h : ∀ x ∈ l, x.length ≤ m) : l.flatten.length ≤ l.length * m := by
  induction l with
  | nil => simp
  | cons x l ih =>
    have h1 := h x (List.mem_cons_self ..)
    have h2 := ih fun y hy => h y (List.mem_cons_of_mem _ hy)
    rw [List.flatten_cons, List.length_append, List.length_cons, Nat.add_mul]; omega

set_option maxRecDepth 100000 in
set_option maxHeartbeats 1600000 in
theorem texts_ok (w : World) (B : Nat) (v : Value) (l : List Str) (h : Rd kBs 36 w B v l) (hn : l.length ≤ 1000000) (hl : ∀ x ∈ l, x.length ≤ 1000000) :
    Calls Tryz.prog 190 #[v] w (Fresh kByte 5 w (texts l)) := by
  obtain ⟨A, c, rfl, h1, h2⟩ := h.form
  have HL := Lib.hid hl
  have hfl := flat_len l 1000000 hl
  clear hl
  go_enter Tryz.func190, Tryz.ntmps190
  go_wp2_with fail
  go_loopw [3, 10] (fun ov i wr => ∃ (j : Nat) (out : List Int), i = .int .i64 (j : Int) ∧ j ≤ l.length ∧ out = ints ((l.take j).map List.length) ∧ Own (kInt .i64) 3 wr w.heap.size 0 ov out ∧ Below w.heap.size w wr) (fun _ i _ => l.length - (intOf i).toNat)
  case atStart => exact ⟨0, [], rfl, by omega, rfl, Own.nil _ _ _ _ _, Below.refl _ _⟩
  case round =>
    obtain ⟨j, out, rfl, hj, hol, HO, HB⟩ := hrel
    obtain ⟨A5, c5, rfl, _, _⟩ := HO.form
    by_cases hlt : j < l.length
    · obtain ⟨b0, off0, cs0, rfl, ⟨vb, rfl, HR6⟩, hc0⟩ := (h.below HB).at hlt
      have hx0 := hc0 0 _ rfl
      simp only [Nat.add_zero, show kBs.sz = 1 from rfl, Nat.mul_one] at hx0
      obtain ⟨A6, c6, rfl, _, _⟩ := HR6.form
      have hxl := HL.out _ (List.getElem_mem hlt)
      have hs2 : out ++ [((l[j]).length : Int)] = ints ((l.take (j + 1)).map List.length) := by
        have ht : l.take (j + 1) = l.take j ++ [l[j]] := by rw [List.take_add_one, List.getElem?_eq_getElem hlt]; rfl
        rw [hol, ht, ints, ints, List.map_append, List.map_append]; rfl
      have hlim : (out.length + 1) * 8 ≤ 140737488355328 := by rw [hol, ints_len, List.length_map, List.length_take]; omega
      have HS2 := Lib.hid hs2; clear hs2 hc0 hol
      generalize l[j] = x at *
      go_wp2_with (at_builtin; refine app1 (y := (x.length : Int)) Tryz.underlying56 Tryz.i3 HO ⟨rfl, by go_wf⟩ HB.size hlim ?_; intro v10 w10 HO10 hw10)
      go_roundw
      case rel => exact ⟨j + 1, _, by go_num, by omega, HS2.out, HO10, hw10.below HB (Nat.le_refl _) HB.size⟩
      case measure => simp [intOf]; omega
    · obtain rfl : j = l.length := by omega
      rw [List.take_length] at hol
      have hmay : may out := by
        intro x hx
        rw [hol] at hx
        simp only [ints, List.map_map, List.mem_map, Function.comp_apply] at hx
        obtain ⟨y, hy, rfl⟩ := hx
        have := HL.out y hy
        exact ⟨Int.natCast_nonneg _, by show ((y.length : Nat) : Int) ≤ _; omega⟩
      have hol2 : out.length = l.length := by rw [hol, ints_len, List.length_map]
      have hpl := pwrite_len out hmay (by omega)
      have htx : texts l = pwrite out ++ l.flatten := by rw [hol]; rfl
      have HTX := Lib.hid htx; have HOL := Lib.hid hol2
      clear htx hol hol2
      go_wp2_with fail
      refine (pwrite_ok wr 0 _ out HO.rd (by rw [HOL.out]; omega)).mono ?_
      rintro e w1 ⟨HB1, ⟨_, v1, rfl, HO1⟩ | ⟨hnm, _⟩⟩
      · have hB1 := below_step HB HB.size HB1
        obtain ⟨A7, c7, rfl, _, _⟩ := HO1.form
        generalize pwrite out = pw at *
        have hfl2 : l.flatten.length ≤ 140737488355328 := by omega
        go_wp2_with fail
        refine (concat_ok w1 B _ l (h.below hB1) hfl2 hn).mono ?_
        rintro e w2 ⟨v2, rfl, HO2, HB2⟩
        have HO1' := HO1.below HB2
        have hB2 := below_step hB1 hB1.size HB2
        obtain ⟨A8, c8, rfl, _, _⟩ := HO2.form
        generalize l.flatten = fl at *
        have hlit := (own_lit (d := kBs) (e := 36) (W := w2) (b := 0) (B := 0) (n := 2) (xs := [pw, fl]) (cells := #[.slice A7 pw.length c7, .slice A8 fl.length c8]) rfl ⟨_, _, rfl, ⟨_, rfl, HO1'.rd⟩, _, _, rfl, ⟨_, rfl, HO2.rd⟩, rfl⟩ (Nat.zero_le _) (by decide)).rd (B := 0)
        have hB3 := below_step hB2 hB2.size (below_alloc (w := w2) (.cells #[.slice A7 pw.length c7, .slice A8 fl.length c8] 36))
        have hfl3 : [pw, fl].flatten.length ≤ 140737488355328 := by simp; omega
        have hcat : [pw, fl].flatten = pw ++ fl := by simp
        go_wp2_with fail
        refine (concat_ok _ 0 _ [pw, fl] hlit hfl3 (by simp)).mono ?_
        rintro e w3 ⟨v3, rfl, HO3, HB3⟩
        go_wp2_with fail
        go_ret
        refine ⟨_, rfl, ?_, below_step hB3 hB3.size HB3⟩
        rw [HTX.out, ← hcat]
        exact HO3.weaken hB3.size (Nat.le_refl _)
      · exact absurd hmay hnm

set_option maxRecDepth 100000 in
set_option maxHeartbeats 800000 in
theorem plain_ok (w : World) (B : Nat) (v : Value) (l : List Str) (h : Rd kStr 9 w B v l) (hn : l.length ≤ 1000000) (hl : ∀ x ∈ l, x.length ≤ 1000000) :
    Calls Tryz.prog 148 #[v] w (Fresh kByte 5 w (texts l)) := by
  obtain ⟨A, c, rfl, h1, h2⟩ := h.form
  have HL := Lib.hid hl; clear hl
  go_enter Tryz.func148, Tryz.ntmps148
  go_wp2_with fail
  go_loopw [3, 8] (fun ov i wr => ∃ (j : Nat) (out : List Str), i = .int .i64 (j : Int) ∧ j ≤ l.length ∧ out = l.take j ∧ Own kBs 36 wr w.heap.size 0 ov out ∧ Below w.heap.size w wr) (fun _ i _ => l.length - (intOf i).toNat)
  case atStart => exact ⟨0, [], rfl, by omega, rfl, Own.nil _ _ _ _ _, Below.refl _ _⟩
  case round =>
    obtain ⟨j, out, rfl, hj, hol, HO, HB⟩ := hrel
    obtain ⟨A5, c5, rfl, _, _⟩ := HO.form
    by_cases hlt : j < l.length
    · obtain ⟨b0, off0, cs0, rfl, ⟨rfl, hsl⟩, hc0⟩ := (h.below HB).at hlt
      have hx0 := hc0 0 _ rfl
      simp only [Nat.add_zero, show kStr.sz = 1 from rfl, Nat.mul_one] at hx0
      have hs2 : out ++ [l[j]] = l.take (j + 1) := by rw [hol, List.take_add_one, List.getElem?_eq_getElem hlt]; rfl
      have hlim : (out.length + 1) * 24 ≤ 140737488355328 := by rw [hol, List.length_take]; omega
      have HS2 := Lib.hid hs2; clear hs2 hc0 hol
      generalize l[j] = x at *
      have hsz : (⟨x.toArray⟩ : ByteArray).size ≤ 140737488355328 := by simpa [ByteArray.size] using hsl
      go_wp2_with (first | (refine convBytes Tryz.underlying9 Tryz.underlying36 Tryz.underlying5 rfl hsz ?_; intro v6 w6 HR6 hb6; obtain ⟨A6, c6, rfl, _, _⟩ := HR6.form; have HO6 := HO.below hb6; have HB6 := below_step HB HB.size hb6) | (at_builtin; refine app1 (y := x) Tryz.underlying39 Tryz.i36 HO6 ⟨_, rfl, HR6⟩ HB6.size hlim ?_; intro v10 w10 HO10 hw10))
      go_roundw
      case rel => exact ⟨j + 1, _, by go_num, by omega, HS2.out, HO10, hw10.below HB6 (Nat.le_refl _) HB6.size⟩
      case measure => simp [intOf]; omega
    · obtain rfl : j = l.length := by omega
      rw [List.take_length] at hol
      subst hol
      go_wp2_with fail
      refine (texts_ok wr 0 _ out HO.rd hn HL.out).mono ?_
      rintro e w9 ⟨v9, rfl, HO9, HB9⟩
      go_wp2_with fail
      go_ret
      exact ⟨_, rfl, HO9.weaken HB.size (Nat.le_refl _), below_step HB HB.size HB9⟩
end Go.Proofs.YtpjbibcjefkcaaaGreat
