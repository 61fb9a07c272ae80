/- The walks of package cursor: what each call answers, and what becomes of the cursor. Conditions: the cursor is one that New made. -/
import Derived.Test.YtpjbibcjefkcaaaGreatProg
import Derived.Test.YtpjbibcjefkcaaaGreatT1
import Derived.StillTailTactics
import Derived.Deep.QuietTactic
import Derived.BigQuiet
namespace Go.Proofs.YtpjbibcjefkcaaaGreat
open Go.RowKit

structure Cur where
  b : List UInt8
  at_ : Nat
  e : Int

/-- Block g is a cursor. -/
def CurAt (w : World) (g : Nat) (S : Cur) : Prop :=
  ∃ v, w.heap[g]? = some (.cells #[v, .int .i64 (S.at_ : Int), .int .i64 S.e] 163 (0, 0)) ∧ Rd kByte 5 w 0 v S.b ∧ S.at_ ≤ S.b.length

theorem wr_set {w : World} {g t j : Nat} {cs : Array Value} {u : Value} (h : w.heap[g]? = some (.cells cs t (0, 0))) : Wr g t w (w.setCell ⟨g, j, none⟩ u) := by
  refine ⟨rfl, rfl, rfl, by simp [World.setCell], fun k hk _ => Below.heap_setCell _ _ _ _ (by simp; omega), fun k c t' fr ht hc => ?_, fun k o ho hc => ?_⟩
  · by_cases hk : k = g
    · subst hk; rw [h] at hc; injection hc with hc; injection hc with _ h2 _; exact absurd h2.symm ht
    · rw [Below.heap_setCell _ _ _ _ hk]; exact hc
  · by_cases hk : k = g
    · subst hk; rw [h] at hc; injection hc with hc; exact absurd hc.symm (ho _ _ _)
    · rw [Below.heap_setCell _ _ _ _ hk]; exact hc
theorem heap_set {w : World} {g t j : Nat} {cs : Array Value} {fr} {u : Value} (h : w.heap[g]? = some (.cells cs t fr)) : (w.setCell ⟨g, j, none⟩ u).heap[g]? = some (.cells (cs.setIfInBounds j u) t fr) := by
  simp [World.setCell, Array.getElem?_modify, h]

theorem CurAt.lt {w g S} (h : CurAt w g S) : g < w.heap.size := by obtain ⟨v, h, _⟩ := h; exact lt_of_some h
theorem CurAt.wr {w w' : World} {g : Nat} {S b e} (h : CurAt w g S) (hw : Wr b e w w') (h1 : e ≠ 163) (h2 : e ≠ 5) : CurAt w' g S := by
  obtain ⟨v, h, hr, ha⟩ := h
  exact ⟨v, hw.typed _ _ _ _ (fun k => h1 k.symm) h, hr.mono (hw.keep (Nat.zero_le _) (by simp [kByte]; exact h2)), ha⟩
theorem CurAt.below {w w' : World} {g : Nat} {S} (h : CurAt w g S) (hw : Below w.heap.size w w') : CurAt w' g S := by
  obtain ⟨v, h, hr, ha⟩ := h
  exact ⟨v, (hw.block _ (lt_of_some h)).trans h, hr.below hw, ha⟩
theorem CurAt.setAt {w : World} {g : Nat} {S : Cur} (h : CurAt w g S) (n : Int) (h0 : 0 ≤ n) (hn : n ≤ S.b.length) : CurAt (w.setCell ⟨g, 1, none⟩ (.int .i64 n)) g { S with at_ := n.toNat } ∧ Wr g 163 w (w.setCell ⟨g, 1, none⟩ (.int .i64 n)) := by
  obtain ⟨v, h, hr, ha⟩ := h
  have hw := wr_set (j := 1) (u := .int .i64 n) h
  refine ⟨⟨v, by rw [heap_set h]; simp [Int.toNat_of_nonneg h0], hr.mono (hw.keep (Nat.zero_le _) (by simp [kByte])), by simp; omega⟩, hw⟩
theorem CurAt.setE {w : World} {g : Nat} {S : Cur} (h : CurAt w g S) (n : Int) : CurAt (w.setCell ⟨g, 2, none⟩ (.int .i64 n)) g { S with e := n } ∧ Wr g 163 w (w.setCell ⟨g, 2, none⟩ (.int .i64 n)) := by
  obtain ⟨v, h, hr, ha⟩ := h
  have hw := wr_set (j := 2) (u := .int .i64 n) h
  refine ⟨⟨v, by rw [heap_set h]; simp, hr.mono (hw.keep (Nat.zero_le _) (by simp [kByte])), ha⟩, hw⟩
/-- What a walk reads. -/
theorem CurAt.cells {w : World} {g : Nat} {S : Cur} (h : CurAt w g S) : ∃ A c, w.cell? ⟨g, 0, none⟩ = some (.slice A S.b.length c) ∧ Rd kByte 5 w 0 (.slice A S.b.length c) S.b ∧ w.cell? ⟨g, 1, none⟩ = some (.int .i64 (S.at_ : Int)) ∧ w.cell? ⟨g, 2, none⟩ = some (.int .i64 S.e) ∧
    w.frozen? ⟨g, 1, none⟩ = false ∧ w.frozen? ⟨g, 2, none⟩ = false ∧ S.at_ ≤ S.b.length ∧ S.b.length ≤ 9223372036854775807 := by
  obtain ⟨v, h, hr, ha⟩ := h
  obtain ⟨A, c, rfl, h1, h2⟩ := hr.form
  exact ⟨A, c, by simp [World.cell?, h], hr, by simp [World.cell?, h], by simp [World.cell?, h], by simp [World.frozen?, h], by simp [World.frozen?, h], ha, h2⟩

/-- The first error is kept. -/
def Cur.fail (S : Cur) (n : Int) : Cur := if S.e = 0 then { S with e := n } else S

/-- What a call on a cursor does: its value (told by V), and the cursor as it is then. -/
def CurPost (w : World) (g : Nat) (S' : Cur) (V : Value → World → Prop) : Ending → World → Prop := fun en w' => ∃ v, en = .returned v ∧ V v w' ∧ CurAt w' g S' ∧ Wr g 163 w w'

set_option maxRecDepth 100000 in
theorem good_ok (w : World) (g : Nat) (S : Cur) (h : CurAt w g S) : Calls Tryz.prog 47 #[.pointer (some ⟨g, 0, none⟩)] w fun en w' => en = .returned (.bool (decide (S.e = 0))) ∧ w = w' := by
  obtain ⟨A, c, h0, hr, h1, h2, h3, h4, h5, h6⟩ := h.cells
  go_enter Tryz.func47, Tryz.ntmps47
  go_wp2
  go_ret
  exact ⟨by simp; rfl, rfl⟩

set_option maxRecDepth 100000 in
theorem left_ok (w : World) (g : Nat) (S : Cur) (h : CurAt w g S) : Calls Tryz.prog 51 #[.pointer (some ⟨g, 0, none⟩)] w fun en w' => en = .returned (.int .i64 ((S.b.length : Int) - S.at_)) ∧ ∃ n, w' = w.drewN n := by
  obtain ⟨A, c, h0, hr, h1, h2, h3, h4, h5, h6⟩ := h.cells
  go_enter Tryz.func51, Tryz.ntmps51
  go_wp2
  go_quiet (fail)
  go_wp2
  go_outline
  go_ret
  exact ⟨by simp, _, rfl⟩

set_option maxRecDepth 100000 in
theorem fail_ok (w : World) (g : Nat) (S : Cur) (n : Int) (h : CurAt w g S) : Calls Tryz.prog 160 #[.pointer (some ⟨g, 0, none⟩), .int .i64 n] w fun en w' => (∃ v, en = .returned v) ∧ CurAt w' g (S.fail n) ∧ Wr g 163 w w' := by
  obtain ⟨A, c, h0, hr, h1, h2, h3, h4, h5, h6⟩ := h.cells
  have H := Lib.hid h; clear h
  by_cases he : S.e = 0
  · have he' : (S.e == 0) = true := by simp [he]
    have hF := Lib.hid he; clear he
    go_enter Tryz.func160, Tryz.ntmps160
    go_wp2
    go_end0
    exact ⟨⟨_, rfl⟩, by rw [show S.fail n = { S with e := n } from by simp [Cur.fail, hF.out]]; exact (H.out.setE n).1, (H.out.setE n).2⟩
  · have he' : (S.e == 0) = false := by simp [he]
    have hF := Lib.hid he; clear he
    go_enter Tryz.func160, Tryz.ntmps160
    go_wp2
    go_end0
    exact ⟨⟨_, rfl⟩, by rw [show S.fail n = S from by simp [Cur.fail, hF.out]]; exact H.out, Wr.refl _ _ _⟩
end Go.Proofs.YtpjbibcjefkcaaaGreat
