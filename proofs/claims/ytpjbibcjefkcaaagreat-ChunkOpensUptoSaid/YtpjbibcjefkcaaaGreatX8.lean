import Derived.Test.YtpjbibcjefkcaaaGreatX7
import Derived.Deep.RegionHeld3
namespace Go.Proofs.YtpjbibcjefkcaaaGreat
open Go.RowKit

/-- A payload, and its kind. -/
def PayPost (w : World) (b : Str) (k : Int) : Ending → World → Prop := fun en w' =>
  ∃ v, en = .returned (.tuple #[v, .int .i64 k]) ∧ Own kByte 5 w' w.heap.size 0 v b ∧ Below w.heap.size w w'

/-- Code, its payload known. -/
def CodePost (w : World) (b : Str) : Ending → World → Prop := fun en w' =>
  ∃ v, en = .returned (.tuple #[v, .int .i64 0]) ∧ Own kByte 5 w' w.heap.size 0 v b ∧ Below w.heap.size w w'
def BadPost (w : World) : Ending → World → Prop := fun en w' => en = .returned (.tuple #[.slice none 0 0, .int .i64 1]) ∧ Below w.heap.size w w'

set_option maxRecDepth 100000 in
set_option maxHeartbeats 800000 in
theorem code_bad (w : World) (B B2 : Nat) (v dv : Value) (l : List (Bool × Str)) (o : Cod) (h : Rd kVal 74 w B v l) (hd : Rd (kInt .i64) 3 w B2 dv o.draws) (hr : cright l o = false) :
    Calls Tryz.prog 38 #[v, o.val dv] w (BadPost w) := by
  obtain ⟨A, c, rfl, h1, h2⟩ := h.form
  obtain ⟨k, b, r, ds⟩ := o
  obtain ⟨A2, c2, rfl, h3, h4⟩ := hd.form
  have hb0 := below_alloc (w := w) (.cells #[.int .i64 k, .int .i64 b, .int .i64 r, .slice A2 ds.length c2] 58)
  have hrow := CodRow.new w k b r (.slice A2 ds.length c2)
  have HC := cright_ok _ B B2 _ _ l ⟨k, b, r, ds⟩ (h.below hb0) (hd.below hb0)
  rw [hr] at HC
  unfold Cod.val at HC ⊢
  simp only at HC ⊢
  have HHC := Lib.hid HC; clear HC hr
  have hu := Tryz.underlying58
  obtain ⟨q0, q1, q2, q3⟩ := hrow.cells
  go_enter Tryz.func38, Tryz.ntmps38
  go_wp2_with fail
  refine HHC.out.mono ?_
  rintro e w1 ⟨rfl, HB⟩
  go_wp2_with fail
  go_ret2
  exact ⟨rfl, below_step hb0 hb0.size HB⟩

set_option maxRecDepth 100000 in
set_option maxHeartbeats 1600000 in
theorem code_good (w : World) (B B2 : Nat) (v dv : Value) (l : List (Bool × Str)) (o : Cod) (pay : Str) (pk : Nat) (hpk : pk < 256) (hpl : pay.length ≤ 100000000) (h : Rd kVal 74 w B v l) (hd : Rd (kInt .i64) 3 w B2 dv o.draws) (hr : cright l o = true)
    (hp : ∀ W u, Below w.heap.size w W → Rd kStr 9 W 0 u (presS l) → Calls Tryz.prog 93 #[u, o.val dv] W (PayPost W pay pk)) :
    Calls Tryz.prog 38 #[v, o.val dv] w (CodePost w (UInt8.ofNat pk :: (bwrite (presB l) ++ pay))) := by
  obtain ⟨A, c, rfl, h1, h2⟩ := h.form
  obtain ⟨k, b, r, ds⟩ := o
  obtain ⟨A2, c2, rfl, h3, h4⟩ := hd.form
  have hb0 := below_alloc (w := w) (.cells #[.int .i64 k, .int .i64 b, .int .i64 r, .slice A2 ds.length c2] 58)
  have hrow := CodRow.new w k b r (.slice A2 ds.length c2)
  have HC := cright_ok _ B B2 _ _ l ⟨k, b, r, ds⟩ (h.below hb0) (hd.below hb0)
  rw [hr] at HC
  have hl : l.length ≤ 4096 := by
    unfold cright at hr
    simp only [Bool.and_eq_true, decide_eq_true_eq] at hr
    exact hr.1
  have hbl : (presB l).length = l.length := by simp [presB]
  have hwl : (bwrite (presB l)).length ≤ 1000 := by
    unfold bwrite
    have := vput_len9 (n := (presB l).length) (by omega)
    rw [List.length_append, bput_len]; unfold bsize; omega
  unfold Cod.val at HC hp ⊢
  simp only at HC hp ⊢
  have HHC := Lib.hid HC; have HHP := Lib.hid hp; have HBL := Lib.hid hbl; clear HC hr hp hbl
  have hu := Tryz.underlying58
  obtain ⟨q0, q1, q2, q3⟩ := hrow.cells
  go_enter Tryz.func38, Tryz.ntmps38
  go_wp2_with fail
  refine HHC.out.mono ?_
  rintro e w1 ⟨rfl, HB⟩
  have HB1 := below_step hb0 hb0.size HB
  obtain ⟨q0, q1, q2, q3⟩ := (hrow.below HB).cells
  go_wp2_with fail
  refine (present_ok w1 B _ l (h.below HB1) (by omega)).mono ?_
  rintro e w2 ⟨bv, sv, rfl, HOB, HOS, HB2⟩
  obtain ⟨A3, c3, rfl, _, _⟩ := HOB.form
  obtain ⟨A4, c4, rfl, _, _⟩ := HOS.form
  have hB2 := below_step HB1 HB1.size HB2
  obtain ⟨q0, q1, q2, q3⟩ := ((hrow.below HB).below HB2).cells
  go_wp2_with fail
  refine (HHP.out w2 _ hB2 HOS.rd).mono ?_
  rintro e w3 ⟨pv, rfl, HOP, HB3⟩
  obtain ⟨A5, c5, rfl, _, _⟩ := HOP.form
  have hB3 := below_step hB2 hB2.size HB3
  have hbl2 := own_lit (d := kByte) (e := 5) (W := w3) (b := 0) (B := 0) (xs := [UInt8.ofNat pk]) (n := 1) (cells := #[.int .u8 (pk : Int)]) rfl (Reps.one (by simp [kByte]; omega)) (Nat.zero_le _) (by omega)
  have hb3 := below_alloc (w := w3) (.cells #[.int .u8 (pk : Int)] 5)
  have hB3b := below_step hB3 hB3.size hb3
  go_wp2_with fail
  refine (bwrite_ok _ 0 _ (presB l) ((HOB.below HB3).below hb3).rd (by rw [HBL.out]; omega)).mono ?_
  rintro e w4 ⟨wv, rfl, HOW, HB4⟩
  obtain ⟨A6, c6, rfl, _, _⟩ := HOW.form
  have hB4 := below_step hB3b hB3b.size HB4
  have hss := own_lit (d := kBs) (e := 36) (W := w4) (b := 0) (B := 0) (xs := [[UInt8.ofNat pk], bwrite (presB l), pay]) (n := 3)
    (cells := #[.slice (some ⟨w3.heap.size, 0, none⟩) 1 1, .slice A6 (bwrite (presB l)).length c6, .slice A5 pay.length c5]) rfl
    ⟨_, _, rfl, ⟨_, rfl, (hbl2.below HB4).rd⟩, _, _, rfl, ⟨_, rfl, HOW.rd⟩, _, _, rfl, ⟨_, rfl, ((HOP.below hb3).below HB4).rd⟩, rfl⟩ (Nat.zero_le _) (by omega)
  have hB5 := below_step hB4 hB4.size (below_alloc (w := w4) (.cells #[.slice (some ⟨w3.heap.size, 0, none⟩) 1 1, .slice A6 (bwrite (presB l)).length c6, .slice A5 pay.length c5] 36))
  go_wp2_with fail
  refine (concat_ok _ 0 _ _ hss.rd (by simp; omega) (by simp)).mono ?_
  rintro e w6 ⟨v6, rfl, HO6, HB6⟩
  go_wp2_with fail
  go_ret2
  refine ⟨_, rfl, ?_, below_step hB5 hB5.size HB6⟩
  have e : [[UInt8.ofNat pk], bwrite (presB l), pay].flatten = UInt8.ofNat pk :: (bwrite (presB l) ++ pay) := by simp
  rw [← e]
  exact HO6.weaken hB5.size (Nat.le_refl _)

set_option maxRecDepth 100000 in
set_option maxHeartbeats 800000 in
theorem pay1_ok (w : World) (B B2 : Nat) (v dv : Value) (s : List Str) (o : Cod) (h : Rd kStr 9 w B v s) (hd : Rd (kInt .i64) 3 w B2 dv o.draws) (hk : o.kind = 1) (hn : s.length ≤ 1000000) (hl : ∀ x ∈ s, x.length ≤ 1000000) :
    Calls Tryz.prog 93 #[v, o.val dv] w (PayPost w (texts s) 1) := by
  obtain ⟨A, c, rfl, h1, h2⟩ := h.form
  obtain ⟨k, b, r, ds⟩ := o
  obtain ⟨A2, c2, rfl, h3, h4⟩ := hd.form
  obtain rfl : k = 1 := hk
  have hb0 := below_alloc (w := w) (.cells #[.int .i64 1, .int .i64 b, .int .i64 r, .slice A2 ds.length c2] 58)
  have hrow := CodRow.new w 1 b r (.slice A2 ds.length c2)
  have HP := fun W hb => plain_ok W B (.slice A s.length c) s (h.below (w' := W) hb) hn hl
  have HHP := Lib.hid HP; have HHL := Lib.hid hl; clear HP hl
  unfold Cod.val
  simp only
  have hu := Tryz.underlying58
  obtain ⟨q0, q1, q2, q3⟩ := hrow.cells
  go_enter Tryz.func93, Tryz.ntmps93
  go_wp2_with fail
  have hbd := below_step hb0 hb0.size (below_drew (w.alloc (.cells #[.int .i64 1, .int .i64 b, .int .i64 r, .slice A2 ds.length c2] 58)))
  go_region_held3 (fun w' => w'.cell? ⟨w.heap.size, 0, none⟩ = some (.int .i64 1)) (first | go_keep | exact hq)
    ((go_at_call 148; refine (HHP.out _ hbd).mono ?_; rintro e w1 ⟨v1, rfl, HO1, HB1⟩; have hq := belc HB1 q0))
  go_wp2_with fail
  go_ret2
  exact ⟨_, rfl, HO1.weaken hbd.size (Nat.le_refl _), below_step hbd hbd.size HB1⟩
end Go.Proofs.YtpjbibcjefkcaaaGreat
