import Derived.Test.YtpjbibcjefkcaaaGreatV4
namespace Go.Proofs.YtpjbibcjefkcaaaGreat
open Go.RowKit

/-- What codes say: so much at most. -/
def fdecN (t : List Str) (most : Nat) : Nat → Str → Str → Str × Nat
  | 0, out, _ => (out, 0)
  | n + 1, out, b => if b.length = 0 then (out, 0) else
    if (fnext t b).2.2 ≠ 0 then ([], (fnext t b).2.2)
    else if most - out.length < (fnext t b).1.length then ([], 6) else fdecN t most n (out ++ (fnext t b).1) (b.drop (fnext t b).2.1)
def fdec (t : List Str) (b : Str) (most : Nat) : Str × Nat := fdecN t most b.length [] b
theorem fnext_pos (t : List Str) (b : Str) (hp : 0 < b.length) (h : (fnext t b).2.2 = 0) : 1 ≤ (fnext t b).2.1 ∧ (fnext t b).2.1 ≤ b.length := by
  unfold fnext at *
  split at h
  · split at h
    · cases h
    · next h1 h2 => rw [if_pos h1, if_neg h2]; exact ⟨show 1 ≤ 2 by decide, show 2 ≤ b.length by omega⟩
  · split at h
    · cases h
    · next h1 h2 => rw [if_neg h1, if_neg h2]; exact ⟨Nat.le_refl 1, show 1 ≤ b.length by omega⟩
def decEnd (p : Str × Nat) : Ending := .returned (.tuple #[.string ⟨p.1.toArray⟩, .int .i64 (p.2 : Int)])
theorem Wr.grown {e w w'} (h : Wr w.heap.size e w w') : Below w.heap.size w w' := h.below (Below.refl _ _) (Nat.le_refl _) (Nat.le_refl _)
def sliceLen : Value → Nat
  | .slice _ n _ => n
  | _ => 0

set_option maxRecDepth 100000 in
set_option maxHeartbeats 800000 in
theorem decode_ok (w : World) (B B2 : Nat) (v u : Value) (t : List Str) (b : Str) (most : Nat) (h : Rd kStr 9 w B v t) (hb : Rd kByte 5 w B2 u b) (hl : t.length ≤ 255) (hbl : b.length ≤ 1000000) (hm : most ≤ 1000000) (htl : ∀ x ∈ t, x.length ≤ 1000000) :
    Calls Tryz.prog 204 #[v, u, .int .i64 (most : Int)] w (fun en w' => en = decEnd (fdec t b most) ∧ Below w.heap.size w w') := by
  obtain ⟨A, c, rfl, h1, h2⟩ := h.form
  generalize hR : fdec t b most = R
  have hRR := Lib.hid hR; clear hR
  go_enter Tryz.func204, Tryz.ntmps204
  go_wp2_with fail
  go_loopw [1, 8] (fun bv ov wr => ∃ (n : Nat) (b' out : Str), Rd kByte 5 w B2 bv b' ∧ b'.length ≤ n ∧ b'.length ≤ 1000000 ∧ fdecN t most n out b' = R ∧ out.length ≤ most ∧ Own kByte 5 wr w.heap.size 0 ov out ∧ Wr w.heap.size 5 w wr) (fun bv _ _ => sliceLen bv)
  case atStart => exact ⟨b.length, b, [], hb, Nat.le_refl _, hbl, hRR.out, by simp, Own.nil _ _ _ _ _, Wr.refl _ _ _⟩
  case round =>
    obtain ⟨n, b', out, HB, hn, hb2, hr, hol, HO, HW⟩ := hrel
    obtain ⟨A2, c2, rfl, _, _⟩ := HB.form
    obtain ⟨A3, c3, rfl, _, _⟩ := HO.form
    clear hb
    cases n with
    | zero =>
      have hl0 : b'.length = 0 := by omega
      have hr2 : (out, 0) = R := hr
      have HR := Lib.hid hr2; clear hr hr2
      rw [hl0]
      go_wp2_with (first | (refine convStr Tryz.underlying36 Tryz.underlying5 Tryz.underlying9 HO.rd ?_))
      go_ret2
      exact ⟨by rw [← HR.out]; rfl, HW.grown⟩
    | succ n =>
      by_cases hl0 : b'.length = 0
      · have hr2 : (out, 0) = R := by rw [← hr]; unfold fdecN; rw [if_pos hl0]
        have HR := Lib.hid hr2; clear hr hr2
        rw [hl0]
        go_wp2_with (first | (refine convStr Tryz.underlying36 Tryz.underlying5 Tryz.underlying9 HO.rd ?_))
        go_ret2
        exact ⟨by rw [← HR.out]; rfl, HW.grown⟩
      · have hp : 0 < b'.length := by omega
        have HN := next_ok wr B B2 (.slice A t.length c) (.slice A2 b'.length c2) t b' (h.below HW.grown) (HB.below HW.grown) (by omega) hp
        have hpos := fnext_pos t b' hp
        have hst : R = if (fnext t b').2.2 ≠ 0 then ([], (fnext t b').2.2) else if most - out.length < (fnext t b').1.length then ([], 6) else fdecN t most n (out ++ (fnext t b').1) (b'.drop (fnext t b').2.1) := by
          rw [← hr]; conv => lhs; unfold fdecN
          rw [if_neg hl0]
        have hfl : (fnext t b').1.length ≤ 1000000 := by
          unfold fnext
          split
          · split
            · simp
            · simp; omega
          · split
            · simp
            · generalize (b'.getD 0 0).toNat = q
              rw [List.getD_eq_getElem?_getD]
              cases hg : t[q]? with
              | none => simp
              | some y => exact htl _ (List.mem_of_getElem? hg)
        have HST := Lib.hid hst; clear hr hst
        generalize fnext t b' = p at *
        obtain ⟨s, m, e0⟩ := p
        simp only at hpos hfl
        by_cases he : e0 = 0
        · subst he
          obtain ⟨hm1, hm2⟩ := hpos rfl
          clear hpos
          have hst : R = if most - out.length < s.length then ([], 6) else fdecN t most n (out ++ s) (b'.drop m) := by
            have := HST.out; simpa using this
          clear HST
          by_cases hlim : most - out.length < s.length
          · have hR : R = ([], 6) := by rw [hst, if_pos hlim]
            have HR := Lib.hid hR; clear hst hR
            have hsz : (⟨s.toArray⟩ : ByteArray).size = s.length := by simp [ByteArray.size]
            go_wp2_with (go_at_call 242; refine HN.mono ?_; rintro e w1 ⟨rfl, rfl⟩; simp only [nextEnd])
            go_ret2
            exact ⟨by rw [HR.out]; rfl, HW.grown⟩
          · have hR : R = fdecN t most n (out ++ s) (b'.drop m) := by rw [hst, if_neg hlim]
            have HR := Lib.hid hR; clear hst hR
            have hsz : (⟨s.toArray⟩ : ByteArray).size = s.length := by simp [ByteArray.size]
            obtain ⟨bv, hbv, HBv⟩ := HB.runL (P := Tryz.prog) (t := 36) Tryz.underlying36 Tryz.i5 .i64 (m : Int) (by omega) (by omega)
            have hbl2 : (b'.drop m).length = b'.length - m := by simp
            rw [Int.toNat_natCast] at HBv
            obtain ⟨A4, c4, rfl, _, _⟩ := HBv.form
            generalize b'.drop m = bd at *
            have HBL := Lib.hid hbl2; clear hbl2
            go_wp2_with (go_at_call 242; refine HN.mono ?_; rintro e w1 ⟨rfl, rfl⟩; simp only [nextEnd])
            have hbq : Below wr.heap.size wr wr.drew := below_drew _
            have HOq := HO.below hbq
            go_region_law (refine step_list rfl fun Q' hQ => ?_; refine appStr (b := w.heap.size) (B := 0) (xs := out) (str := ⟨s.toArray⟩) Tryz.underlying36 Tryz.underlying9 Tryz.i5 HOq rfl (Nat.le_trans HW.size hbq.size) (by rw [hsz]; omega) ?_; intro v1 w1 HO1 hw1; refine hQ _ _ ?_; clear hQ; clear Q')
            go_simp
            go_wp2
            go_roundw
            case rel => exact ⟨n, bd, out ++ s, HBv, by rw [HBL.out]; omega, by rw [HBL.out]; omega, HR.out.symm, by simp; omega, HO1, (HW.trans (Wr.of_below hbq)).trans hw1⟩
            case measure => simp only [sliceLen]; rw [HBL.out]; omega
        · have hR : R = ([], e0) := by rw [HST.out]; simp [he]
          have HR := Lib.hid hR; clear HST hR
          go_wp2_with (go_at_call 242; refine HN.mono ?_; rintro e w1 ⟨rfl, rfl⟩; simp only [nextEnd])
          go_ret2
          exact ⟨by rw [HR.out]; rfl, HW.grown⟩
end Go.Proofs.YtpjbibcjefkcaaaGreat
