import Derived.Test.YtpjbibcjefkcaaaGreatW4
namespace Go.Proofs.YtpjbibcjefkcaaaGreat
open Go.RowKit

/-- A value: is it null, and its string. -/
abbrev kVal : Kd (Bool × Str) := kBool.prod kStr
theorem Tryz.i74 : (Tryz.prog.info? 74).map (fun i => (i.zero, i.size, i.bytes)) = some (some (.agg #[.bool false, .string ⟨#[]⟩]), 2, 24) := by kernel_rfl

/-- A chunk's values and places: from these on. -/
def valsFrom (s : List Str) : List Bool → Nat → List (Bool × Str)
  | [], _ => []
  | true :: bs, n => (false, s.getD n []) :: valsFrom s bs (n + 1)
  | false :: bs, n => (true, []) :: valsFrom s bs n
def atFrom : List Bool → Nat → List Int
  | [], _ => []
  | true :: bs, n => (n : Int) :: atFrom bs (n + 1)
  | false :: bs, n => -1 :: atFrom bs n

def chk0 (k : Int) : Chk := ⟨k, [], [], none, []⟩
def Cur.chunkBad (S : Cur) : Bool :=
  let b := (S.took 1).bits_ 4096
  decide ((strCur b.2 S.byte (trues b.1)).e ≠ 0) || decide ((strOut b.2 S.byte (trues b.1)).length ≠ trues b.1)

/-- A chunk in memory. -/
def ChunkAt (w : World) (gx : Nat) (X : Chk) (vals : List (Bool × Str)) (at_ : List Int) : Prop :=
  ∃ v1 v6, ChAt w gx X v1 v6 ∧ Rd kVal 74 w 0 v1 vals ∧ Rd (kInt .i64) 3 w 0 v6 at_

theorem ChAt.stored {w gx X v1 v6 u1 u6} (h : ChAt w gx X v1 v6) : ChAt ((w.setCell ⟨gx, 1, none⟩ u1).setCell ⟨gx, 6, none⟩ u6) gx X u1 u6 ∧ Wr gx 165 w ((w.setCell ⟨gx, 1, none⟩ u1).setCell ⟨gx, 6, none⟩ u6) := by
  obtain ⟨v2, v3, v4, v5, h0, h2, h3, h4, h5⟩ := h
  have hw1 := wr_set (j := 1) (u := u1) h0
  have h1 := heap_set (j := 1) (u := u1) h0
  simp at h1
  have hw2 := wr_set (j := 6) (u := u6) h1
  have hw := hw1.trans hw2
  exact ⟨⟨v2, v3, v4, v5, by rw [heap_set h1]; simp, h2.mono (hw.keep (Nat.zero_le _) (by decide)), h3.mono (hw.keep (Nat.zero_le _) (by decide)), h4.wr hw (by decide) (by decide), h5.mono (hw.keep (Nat.zero_le _) (by decide))⟩, hw⟩
theorem ChAt.stored' {w gx X v1 v6 u1 u6} (h : ChAt w gx X v1 v6) : ChAt ((w.setCell ⟨gx, 6, none⟩ u6).setCell ⟨gx, 1, none⟩ u1) gx X u1 u6 ∧ Wr gx 165 w ((w.setCell ⟨gx, 6, none⟩ u6).setCell ⟨gx, 1, none⟩ u1) := by
  obtain ⟨v2, v3, v4, v5, h0, h2, h3, h4, h5⟩ := h
  have hw1 := wr_set (j := 6) (u := u6) h0
  have h1 := heap_set (j := 6) (u := u6) h0
  simp at h1
  have hw2 := wr_set (j := 1) (u := u1) h1
  have hw := hw1.trans hw2
  exact ⟨⟨v2, v3, v4, v5, by rw [heap_set h1]; simp, h2.mono (hw.keep (Nat.zero_le _) (by decide)), h3.mono (hw.keep (Nat.zero_le _) (by decide)), h4.wr hw (by decide) (by decide), h5.mono (hw.keep (Nat.zero_le _) (by decide))⟩, hw⟩
set_option maxRecDepth 100000 in
theorem clen_ok (w : World) (gx : Nat) (X vals at_) (h : ChunkAt w gx X vals at_) : Calls Tryz.prog 48 #[.pointer (some ⟨gx, 0, none⟩)] w fun en w' => en = .returned (.int .i64 (vals.length : Int)) ∧ w = w' := by
  obtain ⟨v1, v6, h1, h2, h3⟩ := h
  obtain ⟨A, c, rfl, _, _⟩ := h2.form
  obtain ⟨_, _, _, _, _, _, _, q0, q1, _⟩ := h1.cells
  have hu := Tryz.underlying165
  clear h1
  go_enter Tryz.func48, Tryz.ntmps48
  go_wp2
  go_ret
  exact ⟨rfl, rfl⟩
set_option maxRecDepth 100000 in
theorem ckind_ok (w : World) (gx : Nat) (X vals at_) (h : ChunkAt w gx X vals at_) : Calls Tryz.prog 50 #[.pointer (some ⟨gx, 0, none⟩)] w fun en w' => en = .returned (.int .i64 X.kind) ∧ w = w' := by
  obtain ⟨v1, v6, h1, h2, h3⟩ := h
  obtain ⟨_, _, _, _, _, _, _, q0, q1, _⟩ := h1.cells
  have hu := Tryz.underlying165
  clear h1
  go_enter Tryz.func50, Tryz.ntmps50
  go_wp2
  go_ret
  exact ⟨rfl, rfl⟩
end Go.Proofs.YtpjbibcjefkcaaaGreat
