import Derived.Test.YtpjbibcjefkcaaaGreatW3
namespace Go.Proofs.YtpjbibcjefkcaaaGreat
open Go.RowKit

/-- A payload's strings. -/
def strOut (S : Cur) (k n : Int) : List Str :=
  if k = 1 then (S.cut n 4096).1
  else if k = 2 then encOut S.syms.1 (S.syms.2.cut n 8192).1
  else if k = 3 then codedOut S.dict.1 (S.dict.2.pack 4096).1 n
  else []
def strCur (S : Cur) (k n : Int) : Cur :=
  if k = 1 then (S.cut n 4096).2
  else if k = 2 then encCur S.syms.1 (S.syms.2.cut n 8192).1 (S.syms.2.cut n 8192).2
  else if k = 3 then codedCur S.dict.1 (S.dict.2.pack 4096).1 n (S.dict.2.pack 4096).2
  else S.fail 3
def strChk (S : Cur) (X : Chk) (n : Int) : Chk :=
  if X.kind = 1 then { X with raw := (S.cut n 4096).1 }
  else if X.kind = 2 then { X with table := S.syms.1, raw := (S.syms.2.cut n 8192).1 }
  else if X.kind = 3 then { X with dict := some S.dict.1, codes := (S.dict.2.pack 4096).1 }
  else X

set_option maxRecDepth 100000 in
set_option maxHeartbeats 1600000 in
theorem strings1_ok (w0 w : World) (g gx : Nat) (S : Cur) (X : Chk) (v1 v6 : Value) (n : Int) (h : CurAt w g S) (hl : S.b.length ≤ 140737488355328) (hx : ChAt w gx X v1 v6) (hW : Wr g 163 w0 w) (hgx : w0.heap.size ≤ gx) (hk : X.kind = 1) :
    Calls Tryz.prog 105 #[.pointer (some ⟨gx, 0, none⟩), .pointer (some ⟨g, 0, none⟩), .int .i64 n] w
      (ChPost w0 w g gx v1 v6 (S.cut n 4096).1 (S.cut n 4096).2 { X with raw := (S.cut n 4096).1 }) := by
  have hu := Tryz.underlying165
  obtain ⟨A2, c2, A3, c3, p4, A5, c5, q0, q1, q2, q3, q4, q5, q6, qf, _⟩ := hx.cells
  rw [hk] at q0
  go_enter Tryz.func105, Tryz.ntmps105
  go_wp2_with fail
  clear q0 q1 q2 q3 q4 q5 q6 qf
  refine (cut_ok w g S n 4096 h hl (by decide)).mono ?_
  rintro e w3 ⟨x3, rfl, HO3, HC3, HW3⟩
  have hX3 := hx.wr HW3 (by decide)
  have hb3 : (S.cut n 4096).2.b.length ≤ 140737488355328 := by simpa using hl
  have hcl := cut_le S n 4096
  have hcn := cut_len S n 4096
  generalize S.cut n 4096 = p at *
  obtain ⟨R, S3⟩ := p
  simp only at HO3 HC3 hb3 hcl hcn ⊢
  obtain ⟨A3', c3', rfl, _, _⟩ := HO3.form
  obtain ⟨hX4, hw4⟩ := hX3.setRaw HO3.rd
  have HC4 := HC3.wr hw4 (by decide) (by decide)
  have hK4 : Ks w (w3.setCell ⟨gx, 2, none⟩ (.slice A3' R.length c3')) := (Ks.of1 HW3).trans (Ks.of5 hw4)
  have hW4 : Wr g 163 w0 (w3.setCell ⟨gx, 2, none⟩ (.slice A3' R.length c3')) := (hW.trans HW3).new hw4 hgx
  obtain ⟨A2, c2, A3, c3, p4, A5, c5, q0, q1, q2, q3, q4, q5, q6, qf, _⟩ := hX3.cells
  have qf2 := qf 2
  have HRw := (HO3.rd (B := 0)).mono (hw4.keep (Nat.zero_le _) (by decide))
  go_wp2_with fail
  clear q0 q1 q2 q3 q4 q5 q6 qf qf2 hX3 hw4
  generalize w3.setCell ⟨gx, 2, none⟩ (.slice A3' R.length c3') = w4 at *
  have HCL := Lib.hid hcl
  clear hcl
  go_loopw [7, 27] (fun ov i wr => ∃ (j : Nat) (out : List Str), i = .int .i64 (j : Int) ∧ j ≤ R.length ∧ out = R.take j ∧ Own kStr 9 wr w4.heap.size 0 ov out ∧ Wr w4.heap.size 9 w4 wr) (fun _ i _ => R.length - (intOf i).toNat)
  case atStart => exact ⟨0, [], rfl, by omega, rfl, Own.nil _ _ _ _ _, Wr.refl _ _ _⟩
  case round =>
    obtain ⟨j, out, rfl, hj, hol, HO, HW⟩ := hrel
    obtain ⟨A5', c5', rfl, _, _⟩ := HO.form
    by_cases hlt : j < R.length
    · obtain ⟨b0, off0, cs0, rfl, ⟨vb, rfl, HB⟩, hc0⟩ := (HRw.below HW.grown).at hlt
      have hx0 := hc0 0 _ rfl
      simp only [Nat.add_zero, show kBs.sz = 1 from rfl, Nat.mul_one] at hx0
      obtain ⟨Ab, cb, rfl, _, _⟩ := HB.form
      have hbl := HCL.out _ (List.getElem_mem hlt)
      have hs2 : out ++ [R[j]] = R.take (j + 1) := by rw [hol, List.take_add_one, List.getElem?_eq_getElem hlt]; rfl
      have hlim : (out.length + 1) * 16 ≤ 140737488355328 := by rw [hol, List.length_take]; omega
      have HS2 := Lib.hid hs2; clear hs2 hc0 hol
      generalize R[j] = b at *
      go_wp2_with (first | (refine convStr Tryz.underlying36 Tryz.underlying5 Tryz.underlying9 HB ?_) | (at_builtin; refine app1 (y := b) Tryz.underlying52 Tryz.i9 HO ⟨rfl, by omega⟩ HW.size hlim ?_; intro v10 w10 HO10 hw10))
      go_roundw
      case rel => exact ⟨j + 1, _, by go_num, by omega, HS2.out, HO10, HW.trans hw10⟩
      case measure => simp [intOf]; omega
    · obtain rfl : j = R.length := by omega
      rw [List.take_length] at hol
      subst hol
      go_wp2_with fail
      go_ret
      exact ⟨_, rfl, HO.weaken hW4.size (Nat.le_refl _), HC4.below HW.grown, hX4.below HW.grown, hW4.new HW hW4.size, hK4.trans (Ks.of_below HW.grown)⟩

set_option maxRecDepth 100000 in
set_option maxHeartbeats 1600000 in
theorem strings_ok (w0 w : World) (g gx : Nat) (S : Cur) (X : Chk) (v1 v6 : Value) (n : Int) (h : CurAt w g S) (hl : S.b.length ≤ 140737488355328) (hx : ChAt w gx X v1 v6) (hW : Wr g 163 w0 w) (hgx : w0.heap.size ≤ gx) :
    Calls Tryz.prog 105 #[.pointer (some ⟨gx, 0, none⟩), .pointer (some ⟨g, 0, none⟩), .int .i64 n] w
      (ChPost w0 w g gx v1 v6 (strOut S X.kind n) (strCur S X.kind n) (strChk S X n)) := by
  have hu := Tryz.underlying165
  obtain ⟨A2, c2, A3, c3, p4, A5, c5, q0, q1, q2, q3, q4, q5, q6, qf, _⟩ := hx.cells
  by_cases k1 : X.kind = 1
  · have := strings1_ok w0 w g gx S X v1 v6 n h hl hx hW hgx k1
    unfold strOut strCur strChk
    rw [if_pos k1, if_pos k1, if_pos k1]; exact this
  · by_cases k2 : X.kind = 2
    · have ho : strOut S X.kind n = encOut S.syms.1 (S.syms.2.cut n 8192).1 := by unfold strOut; rw [if_neg k1, if_pos k2]
      have hc : strCur S X.kind n = encCur S.syms.1 (S.syms.2.cut n 8192).1 (S.syms.2.cut n 8192).2 := by unfold strCur; rw [if_neg k1, if_pos k2]
      have hh : strChk S X n = { X with table := S.syms.1, raw := (S.syms.2.cut n 8192).1 } := by unfold strChk; rw [if_neg k1, if_pos k2]
      rw [ho, hc, hh]
      have HE := encoded_ok w0 w g gx S X v1 v6 n h hl hx hW hgx
      clear ho hc hh k1
      rw [k2] at q0
      go_enter Tryz.func105, Tryz.ntmps105
      go_wp2_with (go_at_call 162; refine HE.mono ?_; rintro e w1 ⟨x1, rfl, HO1, HC1, HX1, HW1, HK1⟩)
      go_ret
      exact ⟨_, rfl, HO1, HC1, HX1, HW1, HK1⟩
    · by_cases k3 : X.kind = 3
      · have ho : strOut S X.kind n = codedOut S.dict.1 (S.dict.2.pack 4096).1 n := by unfold strOut; rw [if_neg k1, if_neg k2, if_pos k3]
        have hc : strCur S X.kind n = codedCur S.dict.1 (S.dict.2.pack 4096).1 n (S.dict.2.pack 4096).2 := by unfold strCur; rw [if_neg k1, if_neg k2, if_pos k3]
        have hh : strChk S X n = { X with dict := some S.dict.1, codes := (S.dict.2.pack 4096).1 } := by unfold strChk; rw [if_neg k1, if_neg k2, if_pos k3]
        rw [ho, hc, hh]
        have HE := coded_ok w0 w g gx S X v1 v6 n h hl hx hW hgx
        clear ho hc hh k1 k2
        rw [k3] at q0
        go_enter Tryz.func105, Tryz.ntmps105
        go_wp2_with (go_at_call 163; refine HE.mono ?_; rintro e w1 ⟨x1, rfl, HO1, HC1, HX1, HW1, HK1⟩)
        go_ret
        exact ⟨_, rfl, HO1, HC1, HX1, HW1, HK1⟩
      · have ho : strOut S X.kind n = [] := by unfold strOut; rw [if_neg k1, if_neg k2, if_neg k3]
        have hc : strCur S X.kind n = S.fail 3 := by unfold strCur; rw [if_neg k1, if_neg k2, if_neg k3]
        have hh : strChk S X n = X := by unfold strChk; rw [if_neg k1, if_neg k2, if_neg k3]
        rw [ho, hc, hh]
        have b1 : (X.kind == 1) = false := by simpa using k1
        have b2 : (X.kind == 2) = false := by simpa using k2
        have b3 : (X.kind == 3) = false := by simpa using k3
        clear ho hc hh
        go_enter Tryz.func105, Tryz.ntmps105
        go_wp2_with (go_at_call 160; refine (fail_ok w g S 3 h).mono ?_; rintro e w9 ⟨⟨v9, rfl⟩, HC9, HW9⟩)
        go_ret
        exact ⟨_, rfl, Own.nil _ _ _ _ _, HC9, hx.wr HW9 (by decide), hW.trans HW9, Ks.of1 HW9⟩
end Go.Proofs.YtpjbibcjefkcaaaGreat
