/- Plain laws of a chunk that is read: what it has, and of the plain kind its bytes. No condition. -/
import Derived.Test.YtpjbibcjefkcaaaGreatP1
import Derived.Test.YtpjbibcjefkcaaaGreatXe
namespace Go.Proofs.YtpjbibcjefkcaaaGreat
open Go.RowKit
set_option linter.unusedVariables false
set_option linter.unusedSimpArgs false

/-! ### an error stays -/
theorem textS_e {S : Cur} (h : S.textS.e = 0) : S.e = 0 := by
  unfold Cur.textS at h
  split at h
  · next hh => exact absurd h hh
  · exact (most_canon (took_canon h).1).1
theorem fcur_e {S : Cur} {l : Str} (h : (fcur S l).e = 0) : S.e = 0 := (most_canon (textS_e h)).1
theorem fchk_e {S : Cur} {l : Str} (h : (fchk S l).e = 0) : S.e = 0 := by
  unfold fchk at h
  split at h
  · exact absurd h (fail_e _ _ (by decide))
  · exact fcur_e h
theorem ftakeN_e (n : Nat) : ∀ {S : Cur} {out : List Str}, (ftakeN n S out).1.e = 0 → S.e = 0 ∧ (ftakeN n S out).2.2 = false := by
  induction n with
  | zero => intro S out h; exact ⟨h, rfl⟩
  | succ n ih =>
    intro S out h
    unfold ftakeN at h ⊢
    split at h
    · next hh => exact absurd h hh
    · next hh =>
      rw [if_neg hh]
      exact ⟨fchk_e (ih h).1, (ih h).2⟩
theorem ftaken_e {S : Cur} {n size : Int} (h : (ftaken S n size).2.e = 0) : S.e = 0 := by
  unfold ftaken at h
  simp only at h
  split at h
  · next hh =>
    simp only at h
    have := (ftakeN_e _ h).2
    rw [hh] at this
    cases this
  · simp only at h
    split at h
    · exact absurd h (fail_e _ _ (by decide))
    · exact textS_e (ftakeN_e _ h).1
theorem fopenN_e (n block : Nat) (ss : List Nat) : ∀ {i : Nat} {S : Cur} {l : List Str}, (fopenN n block ss i S l).1.e = 0 → S.e = 0 ∧ (fopenN n block ss i S l).2.2 = false := by
  induction ss with
  | nil => intro i S l h; exact ⟨h, rfl⟩
  | cons s ss ih =>
    intro i S l h
    unfold fopenN at h ⊢
    split at h
    · next hh => exact absurd h hh
    · next hh =>
      rw [if_neg hh]
      exact ⟨ftaken_e (ih h).1, (ih h).2⟩
theorem dict_e {S : Cur} (h : S.dict.2.e = 0) : S.e = 0 := by
  unfold Cur.dict at h
  simp only at h
  split at h
  · exact absurd h (fail_e _ _ (by decide))
  · split at h
    · next hh =>
      simp only at h
      have := (fopenN_e _ _ _ h).2
      rw [hh] at this
      cases this
    · have key : ∀ (c : Cur), c.e = 0 → (c = (fopenN (S.mostV 4096) ((S.mostS 4096).mostV 64) ((((S.mostS 4096).mostS 64).pack 4096).1) 0 ((((S.mostS 4096).mostS 64).pack 4096).2) []).1 ∨ ∃ d : Cur, c = d.fail 3) → S.e = 0 := by
        intro c hc hh
        rcases hh with rfl | ⟨d, rfl⟩
        · exact (most_canon (most_canon (pack_canon (fopenN_e _ _ _ hc).1).1).1).1
        · exact absurd hc (fail_e _ _ (by decide))
      by_cases hf : fright (fopenN (S.mostV 4096) ((S.mostS 4096).mostV 64) ((((S.mostS 4096).mostS 64).pack 4096).1) 0 ((((S.mostS 4096).mostS 64).pack 4096).2) []).2.1 ((S.mostS 4096).mostV 64) = true
      · rw [if_pos hf] at h
        split at h <;> exact key _ h (.inl rfl)
      · rw [if_neg hf] at h
        split at h <;> exact key _ h (.inr ⟨_, rfl⟩)
theorem dict_le (S : Cur) : ∀ x ∈ S.dict.1, x.length ≤ 4096 := by
  unfold Cur.dict
  simp only
  split
  · simp
  · split
    · simp
    · by_cases hf : fright (fopenN (S.mostV 4096) ((S.mostS 4096).mostV 64) ((((S.mostS 4096).mostS 64).pack 4096).1) 0 ((((S.mostS 4096).mostS 64).pack 4096).2) []).2.1 ((S.mostS 4096).mostV 64) = true
      · rw [if_pos hf]
        unfold fright at hf
        rw [decide_eq_true_eq] at hf
        split
        · exact hf.2.2.1
        · simp
      · rw [if_neg hf]
        split
        · next hh => exact absurd hh (fail_e _ _ (by decide))
        · simp
theorem symIt_e (S : Cur) (k : Nat) (h : (symIt S k).1.e = 0) : S.e = 0 := by
  induction k with
  | zero => exact h
  | succ k ih =>
    simp only [symIt, symStep] at h
    have h1 := (took_canon h).1
    have h2 : ((symIt S k).1.took 1).e = 0 := by
      unfold symFix at h1
      split at h1
      · exact absurd h1 (fail_e _ _ (by decide))
      · exact h1
    exact ih (took_canon h2).1
theorem syms_e {S : Cur} (h : S.syms.2.e = 0) : S.e = 0 := by
  unfold Cur.syms at h
  simp only at h
  split at h
  · exact (took_canon (symIt_e _ _ h)).1
  · exact absurd h (fail_e _ _ (by decide))
theorem encCur_e (t : List Str) (bs : List Str) : ∀ {S : Cur}, (encCur t bs S).e = 0 → S.e = 0 := by
  induction bs with
  | nil => intro S h; exact h
  | cons b bs ih =>
    intro S h
    unfold encCur at h
    have := ih h
    split at this
    · exact absurd this (fail_e _ _ (by decide))
    · exact this

/-! ### a chunk that is read -/
theorem valsFrom_len (s : List Str) (bs : List Bool) : ∀ n, (valsFrom s bs n).length = bs.length := by
  induction bs with
  | nil => intro n; rfl
  | cons b bs ih => intro n; cases b <;> simp [valsFrom, ih]
theorem valsFrom_right (s : List Str) (hs : ∀ x ∈ s, x.length ≤ 4096) (bs : List Bool) : ∀ n, (valsFrom s bs n).any wrongV = false := by
  induction bs with
  | nil => intro n; rfl
  | cons b bs ih =>
    intro n
    cases b
    · simp [valsFrom, ih, wrongV]
    · simp only [valsFrom, List.any_cons, ih, Bool.or_false]
      have : (s.getD n []).length ≤ 4096 := by
        rw [List.getD_eq_getElem?_getD]
        cases hh : s[n]? with
        | none => simp
        | some y => exact hs _ (List.mem_of_getElem? hh)
      unfold wrongV
      simp only [Bool.false_and, Bool.or_false, decide_eq_false_iff_not]
      omega
theorem valsFrom_presB (s : List Str) (bs : List Bool) : ∀ n, presB (valsFrom s bs n) = bs := by
  induction bs with
  | nil => intro n; rfl
  | cons b bs ih =>
    intro n
    cases b
    · show (!true) :: presB (valsFrom s bs n) = _
      rw [ih]; rfl
    · show (!false) :: presB (valsFrom s bs (n + 1)) = _
      rw [ih]; rfl
theorem valsFrom_presS (s : List Str) (bs : List Bool) : ∀ n, s.length = n + trues bs → presS (valsFrom s bs n) = s.drop n := by
  induction bs with
  | nil => intro n h; simp [trues] at h; simp [valsFrom, presS, ← h]
  | cons b bs ih =>
    intro n h
    rw [trues_cons] at h
    cases b
    · have : presS (valsFrom s (false :: bs) n) = presS (valsFrom s bs n) := by simp [valsFrom, presS]
      rw [this]
      exact ih n (by simpa using h)
    · have hlt : n < s.length := by simp at h; omega
      have : presS (valsFrom s (true :: bs) n) = s.getD n [] :: presS (valsFrom s bs (n + 1)) := by simp [valsFrom, presS]
      rw [this, ih (n + 1) (by simp at h; omega), ← List.getElem_cons_drop hlt]
      simp [List.getD_eq_getElem?_getD, List.getElem?_eq_getElem hlt]

theorem strOut_le (S : Cur) (k n : Int) : ∀ x ∈ strOut S k n, x.length ≤ 4096 := by
  unfold strOut
  split
  · exact cut_le S n 4096
  · split
    · intro x hx
      unfold encOut at hx
      obtain ⟨b, _, rfl⟩ := List.mem_map.1 hx
      exact fdec_le _ _ _
    · split
      · intro x hx
        unfold codedOut at hx
        split at hx
        · cases hx
        · unfold codOut at hx
          obtain ⟨i, _, rfl⟩ := List.mem_map.1 hx
          rw [List.getD_eq_getElem?_getD]
          cases hh : S.dict.1[i]? with
          | none => simp
          | some y => exact dict_le S _ (List.mem_of_getElem? hh)
      · simp
theorem strCur_e {S : Cur} {k n : Int} (h : (strCur S k n).e = 0) : S.e = 0 ∧ (k = 1 ∨ k = 2 ∨ k = 3) := by
  unfold strCur at h
  split at h
  · next hk => exact ⟨(cut_canon h).1, .inl hk⟩
  · split at h
    · next hk => exact ⟨syms_e (cut_canon (encCur_e _ _ h)).1, .inr (.inl hk)⟩
    · split at h
      · next hk =>
        unfold codedCur at h
        split at h
        · exact absurd h (fail_e _ _ (by decide))
        · exact ⟨dict_e (pack_canon h).1, .inr (.inr hk)⟩
      · exact absurd h (fail_e _ _ (by decide))

theorem strOut_len {S : Cur} {k n : Int} (h : (strCur S k n).e = 0) : ((strOut S k n).length : Int) = n := by
  unfold strCur at h
  unfold strOut
  split at h
  · next hk => rw [if_pos hk]; exact (cut_canon h).2.2.2
  · next hk =>
    rw [if_neg hk]
    split at h
    · next hk =>
      rw [if_pos hk]
      unfold encOut
      rw [List.length_map]
      exact (cut_canon (encCur_e _ _ h)).2.2.2
    · next hk =>
      rw [if_neg hk]
      split at h
      · next hk =>
        rw [if_pos hk]
        unfold codedCur at h
        split at h
        · exact absurd h (fail_e _ _ (by decide))
        · next hb =>
          unfold codedOut
          rw [if_neg hb]
          unfold codOut
          rw [List.length_map]
          unfold codBad at hb
          simp only [Bool.or_eq_true, decide_eq_true_eq, not_or] at hb
          omega
      · exact absurd h (fail_e _ _ (by decide))

/-- A chunk that is read without an error. -/
structure GoodChunk (xs : Str) (R : Cur × Chk × List (Bool × Str) × List Int) (k : Nat) : Prop where
  k1 : 1 ≤ k ∧ k ≤ 3
  kind : R.2.1.kind = (k : Int)
  first : ∃ r, xs = UInt8.ofNat k :: r
  len : R.2.2.1.length ≤ 4096
  right : R.2.2.1.any wrongV = false
  b_eq : R.1.b = xs
  plain : k = 1 → xs.take R.1.at_ = UInt8.ofNat 1 :: (bwrite (presB R.2.2.1) ++ texts (presS R.2.2.1))
def BadChunk (R : Cur × Chk × List (Bool × Str) × List Int) : Prop := R.2.1 = chk0 0 ∧ R.2.2.1 = [] ∧ R.2.2.2 = []

theorem chunk_bad {S : Cur} (h : S.chunk.1.e ≠ 0) : BadChunk S.chunk := by
  unfold Cur.chunk at h ⊢
  simp only at h ⊢
  split
  · exact ⟨rfl, rfl, rfl⟩
  · next hh =>
    rw [if_neg hh] at h
    exact absurd (Or.inl h) hh
theorem chunk_good (xs : Str) (h : (⟨xs, 0, 0⟩ : Cur).chunk.1.e = 0) : ∃ k, GoodChunk xs (⟨xs, 0, 0⟩ : Cur).chunk k := by
  have hun : ∀ S : Cur, S.chunk = (let p := (S.took 1).bits_ 4096
    let n := trues p.1
    if (strCur p.2 S.byte n).e ≠ 0 ∨ (strOut p.2 S.byte n).length ≠ n then (strCur p.2 S.byte n, chk0 0, [], [])
    else (strCur p.2 S.byte n, strChk p.2 (chk0 S.byte) n, valsFrom (strOut p.2 S.byte n) p.1 0, atFrom p.1 0)) := fun _ => rfl
  rw [hun] at h ⊢
  generalize hS : (⟨xs, 0, 0⟩ : Cur) = S at *
  simp only at h ⊢
  generalize hP : (S.took 1).bits_ 4096 = P at *
  have he : (strCur P.2 S.byte (trues P.1)).e = 0 := by
    split at h <;> exact h
  have hlen := strOut_len he
  have hc : ¬ ((strCur P.2 S.byte (trues P.1)).e ≠ 0 ∨ (strOut P.2 S.byte (trues P.1)).length ≠ trues P.1) := by
    rintro (h1 | h1)
    · exact h1 he
    · exact h1 (by omega)
  rw [if_neg hc]
  clear h hc
  obtain ⟨e1, hk⟩ := strCur_e he
  rw [← hP] at e1
  obtain ⟨e2, b1, b2, b3⟩ := bits_canon e1
  rw [hP] at e1 b1 b2 b3
  obtain ⟨e3, c1, c2, c3⟩ := byte_canon e2
  have hrest : S.rest = xs := by rw [← hS]; rfl
  have hat : S.at_ = 0 := by rw [← hS]
  have hSb : S.b = xs := by rw [← hS]
  have hpres : presS (valsFrom (strOut P.2 S.byte (trues P.1)) P.1 0) = strOut P.2 S.byte (trues P.1) := by
    rw [valsFrom_presS _ _ 0 (by omega)]; rfl
  have hbb : (strCur P.2 S.byte (trues P.1)).b = xs := by
    have hPb : P.2.b = xs := by rw [← hP]; simp [hSb]
    unfold strCur
    split
    · simp [hPb]
    · split
      · have : ∀ (t bs : List Str) (S : Cur), (encCur t bs S).b = S.b := by
          intro t bs
          induction bs with
          | nil => intro S; rfl
          | cons b bs ih => intro S; unfold encCur; rw [ih]; split <;> simp
        rw [this]; simp [hPb]
      · split
        · unfold codedCur; split <;> simp [hPb, pack_b]
        · simp [hPb]
  refine ⟨S.byte, ⟨by omega, ?_, ⟨(S.took 1).rest, by rw [← hrest]; exact c1⟩, ?_, valsFrom_right _ (strOut_le _ _ _) _ _, ?_, ?_⟩⟩
  · show (strChk P.2 (chk0 S.byte) _).kind = _
    unfold strChk
    split
    · rfl
    · split
      · rfl
      · split <;> rfl
  · show (valsFrom _ _ _).length ≤ 4096
    rw [valsFrom_len]; omega
  · exact hbb
  · intro hk1
    show xs.take (strCur P.2 S.byte (trues P.1)).at_ = UInt8.ofNat 1 :: (bwrite (presB (valsFrom _ P.1 0)) ++ texts (presS _))
    rw [hpres, valsFrom_presB]
    rw [hk1] at he ⊢
    have hs1 : strCur P.2 ((1 : Nat) : Int) (trues P.1) = (P.2.cut (trues P.1) 4096).2 := by unfold strCur; rw [if_pos (by decide)]
    have ho1 : strOut P.2 ((1 : Nat) : Int) (trues P.1) = (P.2.cut (trues P.1) 4096).1 := by unfold strOut; rw [if_pos (by decide)]
    rw [hs1] at he ⊢
    rw [ho1]
    obtain ⟨_, d1, d2, _⟩ := cut_canon he
    rw [d2, b2, c3, hat, ← hrest, c1, b1, d1, hk1, Nat.zero_add, ← List.append_assoc, ← List.cons_append, List.take_left' (by simp; omega)]
end Go.Proofs.YtpjbibcjefkcaaaGreat
