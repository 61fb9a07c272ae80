import Derived.Test.YtpjbibcjefkcaaaGreatXb
namespace Go.Proofs.YtpjbibcjefkcaaaGreat
open Go.RowKit

/-! ### hopperref17.Payload, of the plain kind; Chosen, of a kind -/
def PosPost (w : World) (k : Int) : Ending → World → Prop := fun en w' => en = .returned (.int .i64 k) ∧ Below w.heap.size w w'
set_option maxRecDepth 100000 in
set_option maxHeartbeats 400000 in
theorem rchosen_kind (w : World) (v dv : Value) (o : Cod) (hk : o.kind ≠ 0) :
    Calls Tryz.prog 42 #[v, o.val dv] w (PosPost w o.kind) := by
  obtain ⟨k, b, r, ds⟩ := o
  have hb0 := below_alloc (w := w) (.cells #[.int .i64 k, .int .i64 b, .int .i64 r, dv] 58)
  obtain ⟨q0, q1, q2, q3⟩ := (CodRow.new w k b r dv).cells
  unfold Cod.val
  simp only at hk ⊢
  have hu := Tryz.underlying58
  have hd : (k != 0) = true := by simpa using hk
  clear hk
  go_enter Tryz.func42, Tryz.ntmps42
  go_wp2_with fail
  go_ret
  exact ⟨rfl, hb0⟩

set_option maxRecDepth 100000 in
set_option maxHeartbeats 1600000 in
theorem rpay1_ok (w : World) (B B2 : Nat) (v dv : Value) (s : List Str) (o : Cod) (h : Rd kStr 9 w B v s) (hd : Rd (kInt .i64) 3 w B2 dv o.draws) (hk : o.kind = 1) (hn : s.length ≤ 1000000) (hl : ∀ x ∈ s, x.length ≤ 1000000) :
    Calls Tryz.prog 44 #[v, o.val dv] w (Fresh kByte 5 w (texts s)) := by
  obtain ⟨A, c, rfl, h1, h2⟩ := h.form
  obtain ⟨k, b, r, ds⟩ := o
  obtain ⟨A2, c2, rfl, h3, h4⟩ := hd.form
  obtain rfl : k = 1 := hk
  have hb0 := below_alloc (w := w) (.cells #[.int .i64 1, .int .i64 b, .int .i64 r, .slice A2 ds.length c2] 58)
  have hrow := CodRow.new w 1 b r (.slice A2 ds.length c2)
  have HL := Lib.hid hl; clear hl
  unfold Cod.val
  simp only
  have hu := Tryz.underlying58
  obtain ⟨q0, q1, q2, q3⟩ := hrow.cells
  go_enter Tryz.func44, Tryz.ntmps44
  go_wp2_with fail
  clear q0 q1 q2 q3
  go_loopw [6, 7, 12] (fun sv av iv wr => ∃ (j : Nat) (sz : List Int) (all : Str), iv = .int .i64 (j : Int) ∧ j ≤ s.length ∧ sz = ints ((s.take j).map List.length) ∧ all = (s.take j).flatten ∧ Own (kInt .i64) 3 wr w.heap.size 0 sv sz ∧ Own kByte 5 wr w.heap.size 0 av all ∧ CodRow wr w.heap.size 1 b r (.slice A2 ds.length c2) ∧ Below w.heap.size w wr) (fun _ _ iv _ => s.length - (intOf iv).toNat)
  case atStart => exact ⟨0, [], [], rfl, by omega, rfl, rfl, Own.nil _ _ _ _ _, Own.nil _ _ _ _ _, hrow, hb0⟩
  case round =>
    obtain ⟨j, sz, all, rfl, hj, hsz, hall, HS, HA, HR, HB⟩ := hrel
    obtain ⟨A5, c5, rfl, _, _⟩ := HS.form
    obtain ⟨A6, c6, rfl, _, _⟩ := HA.form
    have hfl := flat_len (s.take j) 1000000 fun x hx => HL.out x (List.mem_of_mem_take hx)
    rw [← hall] at hfl
    have hfl2 : all.length ≤ 1000000000000 := Nat.le_trans hfl (Nat.le_trans (Nat.mul_le_mul_right _ (show (s.take j).length ≤ 1000000 by rw [List.length_take]; omega)) (by decide))
    have hszl : sz.length = j := by rw [hsz, ints_len, List.length_map, List.length_take]; omega
    clear hfl
    by_cases hlt : j < s.length
    · obtain ⟨b0, off0, cs0, rfl, ⟨rfl, hstr⟩, hc0⟩ := h.at hlt
      have hx := hc0 0 _ rfl
      simp only [Nat.add_zero, show kStr.sz = 1 from rfl, Nat.mul_one] at hx
      have hx0 := belc HB hx
      have hxl := HL.out _ (List.getElem_mem hlt)
      have ht : s.take (j + 1) = s.take j ++ [s[j]] := by rw [List.take_add_one, List.getElem?_eq_getElem hlt]; rfl
      have hsz2 : sz ++ [((s[j]).length : Int)] = ints ((s.take (j + 1)).map List.length) := by rw [hsz, ht, ints, ints, List.map_append, List.map_append]; rfl
      have hall2 : all ++ s[j] = (s.take (j + 1)).flatten := by rw [hall, ht, List.flatten_append, List.flatten_cons, List.flatten_nil, List.append_nil]
      have HS2 := Lib.hid hsz2; have HA2 := Lib.hid hall2; have HSL := Lib.hid hszl
      clear hc0 hsz hall ht hsz2 hall2 hszl
      generalize s[j] = x at *
      obtain ⟨q0, q1, q2, q3⟩ := HR.cells
      have hbsz : (⟨x.toArray⟩ : ByteArray).size ≤ 140737488355328 := by simpa [ByteArray.size] using hstr
      go_wp2_with (refine convBytes Tryz.underlying9 Tryz.underlying36 Tryz.underlying5 rfl hbsz ?_)
      intro v13 w13 HR13 hb13
      obtain ⟨A13, c13, rfl, _, _⟩ := HR13.form
      have HS13 := HS.below hb13
      have HA13 := HA.below hb13
      have HRb := HR.below hb13
      have HB13 := below_step HB HB.size hb13
      obtain ⟨q0, q1, q2, q3⟩ := HRb.cells
      go_wp2_with (at_builtin; refine app1 (d := kInt .i64) (y := (x.length : Int)) Tryz.underlying56 Tryz.i3 HS13 ⟨rfl, by go_wf⟩ HB13.size (by rw [HSL.out]; omega) ?_)
      intro v14 w14 HS14 hw14
      have HA14 := HA13.wr hw14 (by decide) (by decide) (Nat.zero_le _)
      have HR14 := HR13.mono (hw14.keep (B := 0) (Nat.zero_le _) (by decide))
      have HRc := HRb.wr hw14 (by decide)
      have HB14 := hw14.below HB13 (Nat.le_refl _) HB13.size
      go_wp2_with (at_builtin; refine appRow (d := kByte) Tryz.underlying36 Tryz.i5 HA14 HR14 (fun _ _ _ h => h) HB14.size (by omega) ?_)
      intro v15 w15 HA15 hw15
      go_wp2_with fail
      go_roundw
      case rel => exact ⟨j + 1, _, _, by go_num, by omega, HS2.out, HA2.out, HS14.wr hw15 (by decide) (by decide) (Nat.zero_le _), HA15, HRc.wr hw15 (by decide), hw15.below HB14 (Nat.le_refl _) HB14.size⟩
      case measure => simp [intOf]; omega
    · obtain rfl : j = s.length := by omega
      rw [List.take_length] at hsz hall
      have hmay : may sz := by
        intro x hx
        rw [hsz] at hx
        simp only [ints, List.map_map, List.mem_map, Function.comp_apply] at hx
        obtain ⟨y, hy, rfl⟩ := hx
        have := HL.out y hy
        exact ⟨Int.natCast_nonneg _, by show ((y.length : Nat) : Int) ≤ _; omega⟩
      have hpl := pwrite_len sz hmay (by omega)
      have htx : texts s = pwrite sz ++ all := by rw [hsz, hall]; rfl
      have HTX := Lib.hid htx
      have hszb : sz.length ≤ 1000000 := by omega
      clear hsz hall htx hszl
      go_wp2_with fail
      refine (rpwrite_ok wr 0 _ sz HS.rd hszb hmay).mono ?_
      rintro e w1 ⟨v1, rfl, HO1, HB1⟩
      obtain ⟨A7, c7, rfl, _, _⟩ := HO1.form
      have hB1 := below_step HB HB.size HB1
      have HA1 := HA.below HB1
      generalize pwrite sz = pw at *
      go_wp2_with (at_builtin; refine appRow (d := kByte) (b := w1.heap.size) (B := 0) (xs := []) Tryz.underlying36 Tryz.i5 (Own.nil _ _ _ _ _) (HO1.rd (B := 0)) (fun _ _ _ h => h) (Nat.le_refl _) (by simp; omega) ?_)
      intro v2 w2 HO2 hw2
      simp only [List.nil_append] at HO2
      obtain ⟨A8, c8, rfl, _, _⟩ := HO2.form
      have hb12 := hw2.grown
      have hB2 := below_step hB1 hB1.size hb12
      have HA2 := HA1.below hb12
      go_wp2_with (at_builtin; refine appRow (d := kByte) (b := w1.heap.size) (B := 0) (xs := pw) Tryz.underlying36 Tryz.i5 HO2 (HA2.rd (B := 0)) (fun _ _ _ h => h) hb12.size (by omega) ?_)
      intro v3 w3 HO3 hw3
      go_wp2_with fail
      go_ret
      refine ⟨_, rfl, ?_, hw3.below hB2 hB1.size hB2.size⟩
      rw [HTX.out]
      exact HO3.weaken hB1.size (Nat.le_refl _)
end Go.Proofs.YtpjbibcjefkcaaaGreat
