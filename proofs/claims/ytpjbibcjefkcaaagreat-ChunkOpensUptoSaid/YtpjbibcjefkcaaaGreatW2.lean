import Derived.Test.YtpjbibcjefkcaaaGreatW1
namespace Go.Proofs.YtpjbibcjefkcaaaGreat
open Go.RowKit

theorem below_cell {w w' : World} (h : Below w.heap.size w w') {b o : Nat} {u : Value} (hc : w.cell? ⟨b, o, none⟩ = some u) : w'.cell? ⟨b, o, none⟩ = some u :=
  cell_keep (e := 0) (E := [0]) (B := w.heap.size) (keep_below h) (by simp) hc (.inl (World.block_lt_of_cell? w ⟨b, o, none⟩ hc))
theorem fdecN_le (t : List Str) (most : Nat) (n : Nat) : ∀ (out b : Str), out.length ≤ most → (fdecN t most n out b).1.length ≤ most := by
  induction n with
  | zero => intro out b h; exact h
  | succ n ih =>
    intro out b h
    unfold fdecN
    split
    · exact h
    · split
      · simp
      · split
        · simp
        · next h1 h2 h3 => exact ih _ _ (by rw [List.length_append]; omega)
theorem fdec_le (t : List Str) (b : Str) (most : Nat) : (fdec t b most).1.length ≤ most := fdecN_le t most _ _ _ (by simp)

/-- Is a string's code not the one that is written? -/
def encBad (t : List Str) (b : Str) : Bool := decide ((fdec t b 4096).2 ≠ 0) || !decide (fenc t (fdec t b 4096).1 = b)
def encCur (t : List Str) : List Str → Cur → Cur
  | [], S => S
  | b :: bs, S => encCur t bs (if encBad t b = true then S.fail 3 else S)
def encOut (t : List Str) (raw : List Str) : List Str := raw.map fun b => (fdec t b 4096).1
theorem sright_nil : sright [] = true := by decide
theorem syms_right (S : Cur) : sright S.syms.1 = true := by
  unfold Cur.syms; simp only; split
  · assumption
  · exact sright_nil
theorem symIt_b' (S : Cur) (k : Nat) : (symIt S k).1.b = S.b := symIt_b S k
@[simp] theorem syms_b (S : Cur) : S.syms.2.b = S.b := by
  unfold Cur.syms; simp only; split <;> simp

set_option maxRecDepth 100000 in
set_option maxHeartbeats 1600000 in
theorem encoded_ok (w0 w : World) (g gx : Nat) (S : Cur) (X : Chk) (v1 v6 : Value) (n : Int) (h : CurAt w g S) (hl : S.b.length ≤ 140737488355328) (hx : ChAt w gx X v1 v6) (hW : Wr g 163 w0 w) (hgx : w0.heap.size ≤ gx) :
    Calls Tryz.prog 162 #[.pointer (some ⟨gx, 0, none⟩), .pointer (some ⟨g, 0, none⟩), .int .i64 n] w
      (ChPost w0 w g gx v1 v6 (encOut S.syms.1 (S.syms.2.cut n 8192).1) (encCur S.syms.1 (S.syms.2.cut n 8192).1 (S.syms.2.cut n 8192).2) { X with table := S.syms.1, raw := (S.syms.2.cut n 8192).1 }) := by
  have hu := Tryz.underlying165
  go_enter Tryz.func162, Tryz.ntmps162
  go_wp2_with fail
  refine (syms_ok w g S h hl).mono ?_
  rintro e w1 ⟨x1, rfl, HO1, HC1, HW1⟩
  have hX1 := hx.wr HW1 (by decide)
  have hb1 : S.syms.2.b.length ≤ 140737488355328 := by simpa using hl
  have hsr := syms_right S
  generalize S.syms = p at *
  obtain ⟨T, S1⟩ := p
  simp only at HO1 HC1 hb1 hsr ⊢
  obtain ⟨A1, c1, rfl, _, _⟩ := HO1.form
  obtain ⟨hX2, hw2⟩ := hX1.setTable HO1.rd
  have HC2 := HC1.wr hw2 (by decide) (by decide)
  have hK2 : Ks w (w1.setCell ⟨gx, 3, none⟩ (.slice A1 T.length c1)) := (Ks.of1 HW1).trans (Ks.of5 hw2)
  have hW2 : Wr g 163 w0 (w1.setCell ⟨gx, 3, none⟩ (.slice A1 T.length c1)) := (hW.trans HW1).new hw2 hgx
  obtain ⟨A2, c2, A3, c3, p4, A5, c5, q0, q1, q2, q3, q4, q5, q6, qf, _⟩ := hX1.cells
  have qf3 := qf 3
  go_wp2_with fail
  clear q0 q1 q2 q3 q4 q5 q6 qf qf3 hX1 hw2
  generalize w1.setCell ⟨gx, 3, none⟩ (.slice A1 T.length c1) = w2 at *
  refine (cut_ok w2 g S1 n 8192 HC2 hb1 (by decide)).mono ?_
  rintro e w3 ⟨x3, rfl, HO3, HC3, HW3⟩
  have hX3 := hX2.wr HW3 (by decide)
  have hb3 : (S1.cut n 8192).2.b.length ≤ 140737488355328 := by simpa using hb1
  have hcl := cut_le S1 n 8192
  have hcn := cut_len S1 n 8192
  generalize S1.cut n 8192 = p at *
  obtain ⟨R, S3⟩ := p
  simp only at HO3 HC3 hb3 hcl hcn ⊢
  obtain ⟨A3', c3', rfl, _, _⟩ := HO3.form
  obtain ⟨hX4, hw4⟩ := hX3.setRaw HO3.rd
  have HC4 := HC3.wr hw4 (by decide) (by decide)
  have hK4 : Ks w (w3.setCell ⟨gx, 2, none⟩ (.slice A3' R.length c3')) := (hK2.trans (Ks.of1 HW3)).trans (Ks.of5 hw4)
  have hW4 : Wr g 163 w0 (w3.setCell ⟨gx, 2, none⟩ (.slice A3' R.length c3')) := (hW2.trans HW3).new hw4 hgx
  obtain ⟨A2, c2, A3, c3, p4, A5, c5, q0, q1, q2, q3, q4, q5, q6, qf, _⟩ := hX3.cells
  have qf2 := qf 2
  have HRd := HO3.rd (B := 0)
  have HRw := HRd.mono (hw4.keep (Nat.zero_le _) (by decide))
  go_wp2_with fail
  clear q0 q1 q2 q3 q4 q5 q6 qf qf2 hX3 hw4
  generalize w3.setCell ⟨gx, 2, none⟩ (.slice A3' R.length c3') = w4 at *
  have hT := (of_decide_eq_true hsr : T.length ≤ 255 ∧ (∀ x ∈ T, smay x = true) ∧ T.Pairwise (· < ·))
  have hTs : ∀ x ∈ T, x.length ≤ 1000000 := fun x hx => by have := of_decide_eq_true (hT.2.1 x hx); omega
  have HT := Lib.hid hT; have HTS := Lib.hid hTs; have HCL := Lib.hid hcl
  clear hT hTs hcl hsr
  go_loopw [7, 28] (fun ov i wr => ∃ (j : Nat) (S' : Cur) (out : List Str), i = .int .i64 (j : Int) ∧ j ≤ R.length ∧ out.length = j ∧ encCur T (R.drop j) S' = encCur T R S3 ∧ out ++ encOut T (R.drop j) = encOut T R ∧ S'.b = S3.b ∧ Own kStr 9 wr w4.heap.size 0 ov out ∧ CurAt wr g S' ∧ Wr g 163 w4 wr) (fun _ i _ => R.length - (intOf i).toNat)
  case atStart => exact ⟨0, S3, [], rfl, by omega, rfl, rfl, rfl, rfl, Own.nil _ _ _ _ _, HC4, Wr.refl _ _ _⟩
  case round =>
    obtain ⟨j, S', out, rfl, hj, hol, hs1, hs2, hbb, HO, HC, HW⟩ := hrel
    have hb4 : S'.b.length ≤ 140737488355328 := by rw [hbb]; exact hb3
    have HOL := Lib.hid hol; clear hol
    obtain ⟨A5', c5', rfl, _, _⟩ := HO.form
    have hXr := hX4.wr HW (by decide)
    by_cases hlt : j < R.length
    · have hd : R.drop j = R[j] :: R.drop (j + 1) := (List.getElem_cons_drop hlt).symm
      rw [hd] at hs1 hs2
      obtain ⟨b0, off0, cs0, rfl, ⟨vb, rfl, HB⟩, hc0⟩ := (HRw.mono (HW.keep (Nat.zero_le _) (by decide))).at hlt
      have hx0 := hc0 0 _ rfl
      simp only [Nat.add_zero, show kBs.sz = 1 from rfl, Nat.mul_one] at hx0
      obtain ⟨Ab, cb, rfl, _, _⟩ := HB.form
      have hbl := HCL.out _ (List.getElem_mem hlt)
      have hs1' : encCur T (R.drop (j + 1)) (if encBad T R[j] = true then S'.fail 3 else S') = encCur T R S3 := hs1
      have hs2' : (out ++ [(fdec T R[j] 4096).1]) ++ encOut T (R.drop (j + 1)) = encOut T R := by rw [← hs2, List.append_assoc]; rfl
      have HS1 := Lib.hid hs1'; have HS2 := Lib.hid hs2'
      have hbad : encBad T R[j] = (decide ((fdec T R[j] 4096).2 ≠ 0) || !decide (fenc T (fdec T R[j] 4096).1 = R[j])) := rfl
      have HBAD := Lib.hid hbad
      clear hs1 hs2 hs1' hs2' hd hc0 hbad
      generalize R[j] = b at *
      have hdl := fdec_le T b 4096
      obtain ⟨A2, c2, A3, c3, p4, A5, c5, q0, q1, q2, q3, q4, q5, q6, qf, k2, k3, k4, k5⟩ := hXr.cells
      simp only at q3 k3
      have HD := decode_ok wr 0 0 _ _ T b 4096 k3 HB HT.out.1 (by omega) (by decide) HTS.out
      generalize hfd : fdec T b 4096 = D at *
      have HFD := Lib.hid hfd; clear hfd
      obtain ⟨s, e0⟩ := D
      simp only at hdl
      have hlim : (out.length + 1) * 16 ≤ 140737488355328 := by rw [HOL.out]; omega
      by_cases he : e0 = 0
      · subst he
        by_cases heq : fenc T s = b
        · have hbf : encBad T b = false := by rw [HBAD.out]; simp [heq]
          rw [hbf] at HS1
          have HEQ := Lib.hid (show decide (fenc T s = b) = true by simp [heq])
          clear heq HBAD
          go_wp2_with (first | (go_at_call 204; refine HD.mono ?_; rintro e w5 ⟨rfl, hB5⟩; simp only [decEnd]; have q35 := below_cell hB5 q3) | (go_at_call 108; refine (encode_ok w5 0 _ T s (k3.below hB5) (Nat.zero_le _) HT.out.2.2 HT.out.1 (by omega)).mono ?_; rintro e w6 ⟨v6, rfl, HO6, hB6⟩; have hB56 := below_step hB5 hB5.size hB6) | (go_at_call 159; refine (equal_byte_ok w6 0 0 _ _ _ _ HO6.rd (HB.below hB56)).mono ?_; rintro e w7 ⟨rfl, hD7⟩; rw [HEQ.out]; have hO9 := HO.below (below_step hB56 hB56.size hD7.below); have HC9 := HC.below (below_step hB56 hB56.size hD7.below); have hW9 := HW.trans (Wr.of_below (below_step hB56 hB56.size hD7.below)); have hB57 := below_step hB56 hB56.size hD7.below) | (at_builtin; refine app1 (y := s) Tryz.underlying52 Tryz.i9 hO9 ⟨rfl, by omega⟩ (Nat.le_trans (Nat.le_refl _) hW9.size) hlim ?_; intro v10 w10 HO10 hw10))
          go_wp2
          go_roundw
          case rel => exact ⟨j + 1, S', out ++ [s], by go_num, by omega, by simp [HOL.out], HS1.out, HS2.out, hbb, HO10, HC9.wr hw10 (by decide) (by decide), hW9.new hw10 (Nat.le_refl _)⟩
          case measure => simp [intOf]; omega
        · have hbf : encBad T b = true := by rw [HBAD.out]; simp [heq]
          rw [hbf] at HS1
          have HEQ := Lib.hid (show decide (fenc T s = b) = false by simp [heq])
          clear heq HBAD
          go_wp2_with (first | (go_at_call 204; refine HD.mono ?_; rintro e w5 ⟨rfl, hB5⟩; simp only [decEnd]; have q35 := below_cell hB5 q3) | (go_at_call 108; refine (encode_ok w5 0 _ T s (k3.below hB5) (Nat.zero_le _) HT.out.2.2 HT.out.1 (by omega)).mono ?_; rintro e w6 ⟨v6, rfl, HO6, hB6⟩; have hB56 := below_step hB5 hB5.size hB6) | (go_at_call 159; refine (equal_byte_ok w6 0 0 _ _ _ _ HO6.rd (HB.below hB56)).mono ?_; rintro e w7 ⟨rfl, hD7⟩; rw [HEQ.out]; have hB57 := below_step hB56 hB56.size hD7.below) | (go_at_call 160; refine (fail_ok w7 g S' 3 (HC.below hB57)).mono ?_; rintro e w9 ⟨⟨v9, rfl⟩, HC9, HW9⟩; have hO9 := (HO.below hB57).wr HW9 (by decide) (by decide) (Nat.zero_le _); have hW9 := (HW.trans (Wr.of_below hB57)).trans HW9) | (at_builtin; refine app1 (y := s) Tryz.underlying52 Tryz.i9 hO9 ⟨rfl, by omega⟩ (Nat.le_trans (Nat.le_refl _) hW9.size) hlim ?_; intro v10 w10 HO10 hw10))
          go_wp2
          go_roundw
          case rel => exact ⟨j + 1, S'.fail 3, out ++ [s], by go_num, by omega, by simp [HOL.out], HS1.out, HS2.out, by simp [hbb], HO10, HC9.wr hw10 (by decide) (by decide), hW9.new hw10 (Nat.le_refl _)⟩
          case measure => simp [intOf]; omega
      · have hbf : encBad T b = true := by rw [HBAD.out]; simp [he]
        rw [hbf] at HS1
        clear HBAD
        have hne : ((e0 : Int) != 0) = true := by simp [he]
        go_wp2_with (first | (go_at_call 204; refine HD.mono ?_; rintro e w5 ⟨rfl, hB5⟩; simp only [decEnd]; have q35 := below_cell hB5 q3) | (go_at_call 160; refine (fail_ok w5 g S' 3 (HC.below hB5)).mono ?_; rintro e w9 ⟨⟨v9, rfl⟩, HC9, HW9⟩; have hO9 := (HO.below hB5).wr HW9 (by decide) (by decide) (Nat.zero_le _); have hW9 := (HW.trans (Wr.of_below hB5)).trans HW9) | (at_builtin; refine app1 (y := s) Tryz.underlying52 Tryz.i9 hO9 ⟨rfl, by omega⟩ (Nat.le_trans (Nat.le_refl _) hW9.size) hlim ?_; intro v10 w10 HO10 hw10))
        go_wp2
        go_roundw
        case rel => exact ⟨j + 1, S'.fail 3, out ++ [s], by go_num, by omega, by simp [HOL.out], HS1.out, HS2.out, by simp [hbb], HO10, HC9.wr hw10 (by decide) (by decide), hW9.new hw10 (Nat.le_refl _)⟩
        case measure => simp [intOf]; omega
    · obtain rfl : j = R.length := by omega
      rw [List.drop_length] at hs1 hs2
      have h1 : S' = encCur T R S3 := hs1
      have h2 : out = encOut T R := by rw [← hs2]; simp [encOut]
      have H1 := Lib.hid h1; have H2 := Lib.hid h2
      clear hs1 hs2 h1 h2
      go_wp2_with fail
      go_ret
      exact ⟨_, rfl, by rw [← H2.out]; exact HO.weaken hW4.size (Nat.le_refl _), by rw [← H1.out]; exact HC, hXr, hW4.trans HW, hK4.trans (Ks.of1 HW)⟩
end Go.Proofs.YtpjbibcjefkcaaaGreat
