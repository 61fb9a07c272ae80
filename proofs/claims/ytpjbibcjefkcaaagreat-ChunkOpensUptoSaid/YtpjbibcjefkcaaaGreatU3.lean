import Derived.Test.YtpjbibcjefkcaaaGreatU2
namespace Go.Proofs.YtpjbibcjefkcaaaGreat
open Go.RowKit

def symFix (S : Cur) (k : Nat) : Cur := if 8 < k then S.fail 3 else S
def symStep (p : Cur × List Str) : Cur × List Str :=
  ((symFix (p.1.took 1) p.1.byte).took p.1.byte, p.2 ++ [(symFix (p.1.took 1) p.1.byte).take p.1.byte])
def symIt (S : Cur) : Nat → Cur × List Str
  | 0 => (S, [])
  | k + 1 => symStep (symIt S k)
/-- A table of symbols that is read. -/
def Cur.syms (S : Cur) : List Str × Cur :=
  let p := symIt (S.took 1) S.byte
  if sright p.2 = true then (p.2, p.1) else ([], p.1.fail 3)
def StrsAre (xs : List Str) (w0 : World) (v : Value) (w : World) : Prop := Own kStr 9 w w0.heap.size 0 v xs
@[simp] theorem symFix_b (S : Cur) (k : Nat) : (symFix S k).b = S.b := by unfold symFix; split <;> simp
@[simp] theorem symIt_b (S : Cur) (k : Nat) : (symIt S k).1.b = S.b := by
  induction k with
  | zero => rfl
  | succ k ih => simp [symIt, symStep, ih]
@[simp] theorem symIt_len (S : Cur) (k : Nat) : (symIt S k).2.length = k := by
  induction k with
  | zero => rfl
  | succ k ih => simp [symIt, symStep, ih]
theorem take_len (S : Cur) (n : Int) : (S.take n).length ≤ S.b.length := by unfold Cur.take; split <;> simp; omega
theorem curbyte_lt (S : Cur) : S.byte < 256 := by unfold Cur.byte; exact UInt8.toNat_lt _

set_option maxRecDepth 100000 in
set_option maxHeartbeats 800000 in
theorem syms_ok (w : World) (g : Nat) (S : Cur) (h : CurAt w g S) (hl : S.b.length ≤ 140737488355328) :
    Calls Tryz.prog 203 #[.pointer (some ⟨g, 0, none⟩)] w (CurPost w g S.syms.2 (StrsAre S.syms.1 w)) := by
  have hn := curbyte_lt S
  generalize hP : S.syms = P
  unfold Cur.syms at hP
  go_enter Tryz.func203, Tryz.ntmps203
  go_wp2_with fail
  refine (byte_ok w g S h hl).mono ?_
  rintro e w1 ⟨v1, rfl, rfl, HC1, HW1⟩
  have hb1 : (S.took 1).b.length ≤ 140737488355328 := by simpa using hl
  generalize S.byte = n at *
  generalize S.took 1 = S1 at *
  have HP := Lib.hid hP; clear hP
  go_wp2_with fail
  go_loopw [4, 9] (fun v i wr => ∃ j : Nat, j ≤ n ∧ i = .int .i64 (j : Int) ∧ Own kStr 9 wr w.heap.size 0 v (symIt S1 j).2 ∧ CurAt wr g (symIt S1 j).1 ∧ Wr g 163 w wr) (fun _ i _ => n - (intOf i).toNat)
  case atStart => exact ⟨0, by omega, rfl, Own.nil _ _ _ _ _, HC1, HW1⟩
  case round =>
    obtain ⟨j, hj, rfl, HO, HC, HW⟩ := hrel
    by_cases hlt : j < n
    · have hst : symIt S1 (j + 1) = symStep (symIt S1 j) := rfl
      have hlen := symIt_len S1 j
      have hb2 : (symIt S1 j).1.b.length ≤ 140737488355328 := by simpa using hb1
      generalize symIt S1 j = p at *
      obtain ⟨S2, out⟩ := p
      simp only at HO HC hlen hb2
      have HS := Lib.hid hst; have HL := Lib.hid hlen; clear hst hlen
      have hkb := curbyte_lt S2
      go_wp2_with fail
      refine (byte_ok wr g S2 HC hb2).mono ?_
      rintro e w2 ⟨v2, rfl, rfl, HC2, HW2⟩
      have hO2 := HO.wr HW2 (by decide) (by decide) (Nat.zero_le _)
      have hW2 := HW.trans HW2
      have hb3 : (symFix (S2.took 1) S2.byte).b.length ≤ 140737488355328 := by simpa using hb2
      have hst2 : symStep (S2, out) = ((symFix (S2.took 1) S2.byte).took S2.byte, out ++ [(symFix (S2.took 1) S2.byte).take S2.byte]) := rfl
      have HS2 := Lib.hid hst2; clear hst2
      have hfx : symFix (S2.took 1) S2.byte = if 8 < S2.byte then (S2.took 1).fail 3 else S2.took 1 := rfl
      have HF := Lib.hid hfx; clear hfx
      have htl := take_len (symFix (S2.took 1) S2.byte) S2.byte
      generalize S2.byte = k at *
      generalize symFix (S2.took 1) k = S3 at *
      generalize S2.took 1 = S2' at *
      by_cases hk : 8 < k
      · have hfx : S3 = S2'.fail 3 := by have := HF.out; rw [if_pos hk] at this; exact this
        have HFX := Lib.hid hfx; clear hfx
        go_wp2_with fail
        refine (fail_ok w2 g S2' 3 HC2).mono ?_
        rintro e w3 ⟨⟨v3, rfl⟩, HC3, HW3⟩
        rw [← HFX.out] at HC3
        have hO3 := hO2.wr HW3 (by decide) (by decide) (Nat.zero_le _)
        have hW3 := hW2.trans HW3
        obtain ⟨A4, c4, rfl, _, _⟩ := hO3.form
        go_wp2_with fail
        refine (bytes_ok w3 g S3 k HC3 hb3 (by omega) (by omega)).mono ?_
        rintro e w4 ⟨v4, rfl, HO4, HC4, HW4⟩
        have hO4 := hO3.wr HW4 (by decide) (by decide) (Nat.zero_le _)
        have hW4 := hW3.trans HW4
        go_wp2_with (first | (refine convStr Tryz.underlying36 Tryz.underlying5 Tryz.underlying9 HO4.rd ?_) | (at_builtin; refine app1 (y := S3.take k) Tryz.underlying52 Tryz.i9 hO4 ⟨rfl, by omega⟩ hW4.size (by rw [HL.out]; omega) ?_))
        intro v5 w5 HO5 hw5
        go_wp2
        go_roundw
        case rel => exact ⟨j + 1, by omega, by go_num, by rw [HS.out, HS2.out]; exact HO5, by rw [HS.out, HS2.out]; exact HC4.wr hw5 (by decide) (by decide), hW4.new hw5 (Nat.le_refl _)⟩
        case measure => simp [intOf]; omega
      · have hfx : S3 = S2' := by have := HF.out; rw [if_neg hk] at this; exact this
        have HFX := Lib.hid hfx; clear hfx
        rw [← HFX.out] at HC2
        obtain ⟨A4, c4, rfl, _, _⟩ := hO2.form
        go_wp2_with fail
        refine (bytes_ok w2 g S3 k HC2 hb3 (by omega) (by omega)).mono ?_
        rintro e w4 ⟨v4, rfl, HO4, HC4, HW4⟩
        have hO4 := hO2.wr HW4 (by decide) (by decide) (Nat.zero_le _)
        have hW4 := hW2.trans HW4
        go_wp2_with (first | (refine convStr Tryz.underlying36 Tryz.underlying5 Tryz.underlying9 HO4.rd ?_) | (at_builtin; refine app1 (y := S3.take k) Tryz.underlying52 Tryz.i9 hO4 ⟨rfl, by omega⟩ hW4.size (by rw [HL.out]; omega) ?_))
        intro v5 w5 HO5 hw5
        go_wp2
        go_roundw
        case rel => exact ⟨j + 1, by omega, by go_num, by rw [HS.out, HS2.out]; exact HO5, by rw [HS.out, HS2.out]; exact HC4.wr hw5 (by decide) (by decide), hW4.new hw5 (Nat.le_refl _)⟩
        case measure => simp [intOf]; omega
    · obtain rfl : j = n := by omega
      have hlen := symIt_len S1 j
      generalize symIt S1 j = p at *
      obtain ⟨S2, out⟩ := p
      simp only at HO HC hlen
      have HL := Lib.hid hlen; clear hlen
      obtain ⟨A4, c4, rfl, _, _⟩ := HO.form
      have hd : decide ((out.length : Int) < (j : Int)) = false := by rw [HL.out]; simp
      have hd' : decide (out.length < j) = false := by rw [HL.out]; simp
      go_wp2_with fail
      refine (sright_ok wr 0 _ out HO.rd).mono ?_
      rintro e w2 ⟨rfl, rfl⟩
      by_cases hr : sright out = true
      · have hP : P = (out, S2) := by rw [← HP.out]; simp [hr]
        have HP2 := Lib.hid hP; have HR := Lib.hid hr; clear hP hr
        rw [HR.out]
        go_wp2_with (go_at_call 232; refine (sright_ok wr 0 _ out HO.rd).mono ?_; rintro e w2 ⟨rfl, rfl⟩; rw [HR.out])
        go_ret
        exact ⟨_, rfl, by rw [HP2.out]; exact HO, by rw [HP2.out]; exact HC, HW⟩
      · have hr' : sright out = false := by simpa using hr
        have hP : P = ([], S2.fail 3) := by rw [← HP.out]; simp [hr]
        have HP2 := Lib.hid hP; have HR := Lib.hid hr'; clear hP hr hr'
        rw [HR.out]
        go_wp2_with fail
        refine (fail_ok wr g S2 3 HC).mono ?_
        rintro e w3 ⟨⟨v3, rfl⟩, HC3, HW3⟩
        have hO3 := HO.wr HW3 (by decide) (by decide) (Nat.zero_le _)
        go_wp2_with (go_at_call 232; refine (sright_ok w3 0 _ out hO3.rd).mono ?_; rintro e w4 ⟨rfl, rfl⟩; rw [HR.out])
        go_ret
        exact ⟨_, rfl, by rw [HP2.out]; exact Own.nil _ _ _ _ _, by rw [HP2.out]; exact HC3, HW.trans HW3⟩
end Go.Proofs.YtpjbibcjefkcaaaGreat
