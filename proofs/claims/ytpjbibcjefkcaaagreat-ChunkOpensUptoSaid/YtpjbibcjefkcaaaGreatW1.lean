import Derived.Test.YtpjbibcjefkcaaaGreatV9
namespace Go.Proofs.YtpjbibcjefkcaaaGreat
open Go.RowKit

theorem take_le (S : Cur) (n : Nat) : (S.take n).length ≤ n := by unfold Cur.take; split <;> simp; omega
theorem take_fail (S : Cur) (n : Int) : (S.fail 3).take n = [] := by
  have h : (S.fail 3).e ≠ 0 := by
    unfold Cur.fail; split
    · exact (by decide : (3 : Int) ≠ 0)
    · assumption
  unfold Cur.take
  rw [if_neg (fun k => h k.1)]
theorem cutIt_le (most : Nat) (ks : List Nat) : ∀ S : Cur, ∀ x ∈ (cutIt most ks S).2, x.length ≤ most := by
  induction ks with
  | nil => intro S x hx; simp [cutIt] at hx
  | cons k ks ih =>
    intro S x hx
    simp only [cutIt, List.mem_cons] at hx
    rcases hx with rfl | hx
    · unfold cutFix; split
      · rw [take_fail]; simp
      · have := take_le S k; omega
    · exact ih _ x hx
theorem cut_le (S : Cur) (n : Int) (most : Nat) : ∀ x ∈ (S.cut n most).1, x.length ≤ most := by
  unfold Cur.cut; split
  · simp
  · exact cutIt_le most _ _
theorem cutIt_len (most : Nat) (ks : List Nat) : ∀ S : Cur, (cutIt most ks S).2.length = ks.length := by
  induction ks with
  | nil => intro S; rfl
  | cons k ks ih => intro S; simp [cutIt, ih]
theorem cut_len (S : Cur) (n : Int) (most : Nat) : (S.cut n most).1.length ≤ 4096 := by
  unfold Cur.cut; split
  · simp
  · have := pack_len S 4096 (by decide); rw [cutIt_len]; omega
theorem cutIt_b (most : Nat) (ks : List Nat) : ∀ S : Cur, (cutIt most ks S).1.b = S.b := by
  induction ks with
  | nil => intro S; rfl
  | cons k ks ih => intro S; simp [cutIt, ih]
@[simp] theorem cut_b (S : Cur) (n : Int) (most : Nat) : (S.cut n most).2.b = S.b := by
  unfold Cur.cut; split
  · simp [pack_b]
  · simp [cutIt_b, pack_b]

/-- A chunk, but for its values. -/
structure Chk where
  kind : Int
  raw : List Str
  table : List Str
  dict : Option (List Str)
  codes : List Nat
def DictOpt (w : World) (v : Value) : Option (List Str) → Prop
  | none => v = .pointer none
  | some l => ∃ g, v = .pointer (some ⟨g, 0, none⟩) ∧ DictAt w g l
theorem DictOpt.wr {w w' v o b e} (h : DictOpt w v o) (hw : Wr b e w w') (h1 : e ≠ 171) (h2 : e ≠ 9) : DictOpt w' v o := by
  cases o with
  | none => exact h
  | some l => obtain ⟨g, rfl, h⟩ := h; exact ⟨g, rfl, h.wr hw h1 h2⟩
theorem DictOpt.below {w w' v o} (h : DictOpt w v o) (hw : Below w.heap.size w w') : DictOpt w' v o := by
  cases o with
  | none => exact h
  | some l => obtain ⟨g, rfl, h⟩ := h; exact ⟨g, rfl, h.below hw⟩
theorem DictOpt.oneCell {w v o} (h : DictOpt w v o) : ∃ p, v = .pointer p := by
  cases o with
  | none => exact ⟨_, h⟩
  | some l => obtain ⟨g, rfl, h⟩ := h; exact ⟨_, rfl⟩
def ChAt (w : World) (gx : Nat) (X : Chk) (v1 v6 : Value) : Prop :=
  ∃ v2 v3 v4 v5, w.heap[gx]? = some (.cells #[.int .i64 X.kind, v1, v2, v3, v4, v5, v6] 165 (0, 0)) ∧ Rd kBs 36 w 0 v2 X.raw ∧ Rd kStr 9 w 0 v3 X.table ∧ DictOpt w v4 X.dict ∧ Rd (kInt .i64) 3 w 0 v5 (ints X.codes)
theorem ChAt.wr {w w' gx X v1 v6 b e} (h : ChAt w gx X v1 v6) (hw : Wr b e w w') (he : e ∉ [165, 36, 5, 9, 171, 3]) : ChAt w' gx X v1 v6 := by
  obtain ⟨v2, v3, v4, v5, h0, h2, h3, h4, h5⟩ := h
  simp only [List.mem_cons, not_or] at he
  obtain ⟨e1, e2, e3, e4, e5, e6, _⟩ := he
  exact ⟨v2, v3, v4, v5, hw.typed _ _ _ _ (fun k => e1 k.symm) h0, h2.mono (hw.keep (Nat.zero_le _) (by simp [kSl, kByte]; exact ⟨e2, e3⟩)), h3.mono (hw.keep (Nat.zero_le _) (by simp [kStr]; exact e4)), h4.wr hw e5 e4, h5.mono (hw.keep (Nat.zero_le _) (by simp [kInt]; exact e6))⟩
theorem ChAt.below {w w' gx X v1 v6} (h : ChAt w gx X v1 v6) (hw : Below w.heap.size w w') : ChAt w' gx X v1 v6 := by
  obtain ⟨v2, v3, v4, v5, h0, h2, h3, h4, h5⟩ := h
  exact ⟨v2, v3, v4, v5, (hw.block _ (lt_of_some h0)).trans h0, h2.below hw, h3.below hw, h4.below hw, h5.below hw⟩
theorem ChAt.setRaw {w gx X v1 v6 v raw} (h : ChAt w gx X v1 v6) (hv : Rd kBs 36 w 0 v raw) : ChAt (w.setCell ⟨gx, 2, none⟩ v) gx { X with raw := raw } v1 v6 ∧ Wr gx 165 w (w.setCell ⟨gx, 2, none⟩ v) := by
  obtain ⟨v2, v3, v4, v5, h0, h2, h3, h4, h5⟩ := h
  have hw := wr_set (j := 2) (u := v) h0
  exact ⟨⟨v, v3, v4, v5, by rw [heap_set h0]; simp, hv.mono (hw.keep (Nat.zero_le _) (by decide)), h3.mono (hw.keep (Nat.zero_le _) (by decide)), h4.wr hw (by decide) (by decide), h5.mono (hw.keep (Nat.zero_le _) (by decide))⟩, hw⟩
theorem ChAt.setTable {w gx X v1 v6 v t} (h : ChAt w gx X v1 v6) (hv : Rd kStr 9 w 0 v t) : ChAt (w.setCell ⟨gx, 3, none⟩ v) gx { X with table := t } v1 v6 ∧ Wr gx 165 w (w.setCell ⟨gx, 3, none⟩ v) := by
  obtain ⟨v2, v3, v4, v5, h0, h2, h3, h4, h5⟩ := h
  have hw := wr_set (j := 3) (u := v) h0
  exact ⟨⟨v2, v, v4, v5, by rw [heap_set h0]; simp, h2.mono (hw.keep (Nat.zero_le _) (by decide)), hv.mono (hw.keep (Nat.zero_le _) (by decide)), h4.wr hw (by decide) (by decide), h5.mono (hw.keep (Nat.zero_le _) (by decide))⟩, hw⟩
theorem ChAt.setDict {w gx X v1 v6 v o} (h : ChAt w gx X v1 v6) (hv : DictOpt w v o) : ChAt (w.setCell ⟨gx, 4, none⟩ v) gx { X with dict := o } v1 v6 ∧ Wr gx 165 w (w.setCell ⟨gx, 4, none⟩ v) := by
  obtain ⟨v2, v3, v4, v5, h0, h2, h3, h4, h5⟩ := h
  have hw := wr_set (j := 4) (u := v) h0
  exact ⟨⟨v2, v3, v, v5, by rw [heap_set h0]; simp, h2.mono (hw.keep (Nat.zero_le _) (by decide)), h3.mono (hw.keep (Nat.zero_le _) (by decide)), hv.wr hw (by decide) (by decide), h5.mono (hw.keep (Nat.zero_le _) (by decide))⟩, hw⟩
theorem ChAt.setCodes {w gx X v1 v6 v l} (h : ChAt w gx X v1 v6) (hv : Rd (kInt .i64) 3 w 0 v (ints l)) : ChAt (w.setCell ⟨gx, 5, none⟩ v) gx { X with codes := l } v1 v6 ∧ Wr gx 165 w (w.setCell ⟨gx, 5, none⟩ v) := by
  obtain ⟨v2, v3, v4, v5, h0, h2, h3, h4, h5⟩ := h
  have hw := wr_set (j := 5) (u := v) h0
  exact ⟨⟨v2, v3, v4, v, by rw [heap_set h0]; simp, h2.mono (hw.keep (Nat.zero_le _) (by decide)), h3.mono (hw.keep (Nat.zero_le _) (by decide)), h4.wr hw (by decide) (by decide), hv.mono (hw.keep (Nat.zero_le _) (by decide))⟩, hw⟩
/-- What a walk reads. -/
theorem ChAt.cells {w gx X v1 v6} (h : ChAt w gx X v1 v6) : ∃ A2 c2 A3 c3 p4 A5 c5, w.cell? ⟨gx, 0, none⟩ = some (.int .i64 X.kind) ∧ w.cell? ⟨gx, 1, none⟩ = some v1 ∧ w.cell? ⟨gx, 2, none⟩ = some (.slice A2 X.raw.length c2) ∧ w.cell? ⟨gx, 3, none⟩ = some (.slice A3 X.table.length c3) ∧ w.cell? ⟨gx, 4, none⟩ = some (.pointer p4) ∧
    w.cell? ⟨gx, 5, none⟩ = some (.slice A5 X.codes.length c5) ∧ w.cell? ⟨gx, 6, none⟩ = some v6 ∧ (∀ i, w.frozen? ⟨gx, i, none⟩ = false) ∧ Rd kBs 36 w 0 (.slice A2 X.raw.length c2) X.raw ∧ Rd kStr 9 w 0 (.slice A3 X.table.length c3) X.table ∧ DictOpt w (.pointer p4) X.dict ∧ Rd (kInt .i64) 3 w 0 (.slice A5 X.codes.length c5) (ints X.codes) := by
  obtain ⟨v2, v3, v4, v5, h0, h2, h3, h4, h5⟩ := h
  obtain ⟨A2, c2, rfl, _, _⟩ := h2.form
  obtain ⟨A3, c3, rfl, _, _⟩ := h3.form
  obtain ⟨A5, c5, rfl, _, _⟩ := h5.form
  rw [ints_len] at *
  obtain ⟨p4, rfl⟩ := h4.oneCell
  exact ⟨A2, c2, A3, c3, p4, A5, c5, by simp [World.cell?, h0], by simp [World.cell?, h0], by simp [World.cell?, h0], by simp [World.cell?, h0], by simp [World.cell?, h0], by simp [World.cell?, h0], by simp [World.cell?, h0], fun i => by simp [World.frozen?, h0], h2, h3, h4, h5⟩
/-- Rows of other types than a cursor's and a chunk's stay. -/
def Ks (w w' : World) : Prop := ∀ E : List TypeId, 163 ∉ E → 165 ∉ E → Keep 0 E w w'
theorem Ks.refl (w : World) : Ks w w := fun E _ _ => Keep.refl _ _ _
theorem Ks.trans {a b c : World} (h : Ks a b) (k : Ks b c) : Ks a c := fun E h1 h2 => (h E h1 h2).trans (k E h1 h2)
theorem Ks.of1 {b w w'} (h : Wr b 163 w w') : Ks w w' := fun E h1 _ => h.keep (Nat.zero_le _) h1
theorem Ks.of5 {b w w'} (h : Wr b 165 w w') : Ks w w' := fun E _ h2 => h.keep (Nat.zero_le _) h2
theorem Ks.of_below {w w' : World} (h : Below w.heap.size w w') : Ks w w' := fun E _ _ => keep_below h
def ChPost (w0 w : World) (g gx : Nat) (v1 v6 : Value) (out : List Str) (S : Cur) (X : Chk) : Ending → World → Prop :=
  fun en w' => ∃ v, en = .returned v ∧ Own kStr 9 w' w0.heap.size 0 v out ∧ CurAt w' g S ∧ ChAt w' gx X v1 v6 ∧ Wr g 163 w0 w' ∧ Ks w w'
end Go.Proofs.YtpjbibcjefkcaaaGreat
