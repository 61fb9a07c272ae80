import Derived.Test.YtpjbibcjefkcaaaGreatV6
import Derived.StillTailTactics
namespace Go.Proofs.YtpjbibcjefkcaaaGreat
open Go.RowKit

/-- An entry behind one that is known: the cursor, and the string. -/
def fstr (S : Cur) (last : Str) : Str := last.take (S.mostV last.length) ++ (S.mostS last.length).textV
def fcur (S : Cur) (last : Str) : Cur := (S.mostS last.length).textS
def fchk (S : Cur) (last : Str) : Cur := if fshared last (fstr S last) ≠ S.mostV last.length then (fcur S last).fail 3 else fcur S last
/-- Entries: so many more. -/
def ftakeN : Nat → Cur → List Str → Cur × List Str × Bool
  | 0, S, out => (S, out, false)
  | n + 1, S, out => if (fcur S (out.getLast?.getD [])).e ≠ 0 then (fcur S (out.getLast?.getD []), [], true)
    else ftakeN n (fchk S (out.getLast?.getD [])) (out ++ [fstr S (out.getLast?.getD [])])
def ftaken (S : Cur) (n size : Int) : List Str × Cur :=
  let p := ftakeN (n - 1).toNat S.textS [S.textV]
  if p.2.2 = true then ([], p.1) else (p.2.1, if (p.1.at_ : Int) - S.at_ ≠ size then p.1.fail 3 else p.1)
@[simp] theorem fcur_b (S : Cur) (l : Str) : (fcur S l).b = S.b := by simp [fcur]
@[simp] theorem fchk_b (S : Cur) (l : Str) : (fchk S l).b = S.b := by unfold fchk; split <;> simp
theorem textV_le (S : Cur) : S.textV.length ≤ 4096 := by
  have h := S.mostV_le 4096 (by decide)
  unfold Cur.textV Cur.take; split <;> simp; omega
theorem fstr_le (S : Cur) (l : Str) : (fstr S l).length ≤ l.length + 4096 := by
  have := textV_le (S.mostS l.length)
  unfold fstr; rw [List.length_append, List.length_take]; omega
theorem strRunH {P : Program} {t : TypeId} {xs : List UInt8} {kl : IntKind} {hi : Int} (ht : P.underlying t = some .string) (h0 : 0 ≤ hi) (h1 : hi ≤ xs.length) :
    ∀ W, (Instr.slice t (.string ⟨xs.toArray⟩) none (some (.int kl hi)) none).run P W = .ok (.string ⟨(xs.take hi.toNat).toArray⟩) W := by
  intro W
  have hs : (⟨xs.toArray⟩ : ByteArray).size = xs.length := by simp [ByteArray.size]
  rw [run_slice_string_h W t _ ht kl hi h0 (by rw [hs]; exact h1), ext_str, List.drop_zero]

set_option maxRecDepth 100000 in
set_option maxHeartbeats 1600000 in
theorem taken_ok (w : World) (g : Nat) (S : Cur) (n size : Int) (h : CurAt w g S) (hl : S.b.length ≤ 140737488355328) (hn : -1000000 ≤ n ∧ n ≤ 64) :
    Calls Tryz.prog 243 #[.pointer (some ⟨g, 0, none⟩), .int .i64 n, .int .i64 size] w (CurPost w g (ftaken S n size).2 (StrsAre (ftaken S n size).1 w)) := by
  generalize hP : ftaken S n size = P
  unfold ftaken at hP
  have htl := textV_le S
  have hle := h.le
  go_enter Tryz.func243, Tryz.ntmps243
  go_wp2_with (first | (go_at_call 51; refine (left_ok w g S h).mono ?_; rintro e w1 ⟨rfl, n1, rfl⟩))
  have HC1 : CurAt (w.drewN n1) g S := h.below (pw_drewN w n1)
  have hW1 : Wr g 163 w (w.drewN n1) := wr_drewN _ _ _ _
  generalize w.drewN n1 = w1 at *
  go_wp2_with fail
  refine (text_ok w1 g S HC1 hl).mono ?_
  rintro e w2 ⟨v2, rfl, rfl, HC2, HW2⟩
  have hW2 := hW1.trans HW2
  have hO2 := own_lit (d := kStr) (e := 9) (W := w2) (b := w.heap.size) (B := 0) (n := 1) (xs := [S.textV]) (cells := #[Value.string ⟨S.textV.toArray⟩]) rfl ⟨[Value.string ⟨S.textV.toArray⟩], [], rfl, ⟨rfl, by omega⟩, rfl⟩ hW2.size (by decide)
  have hbq : Below w2.heap.size w2 (w2.alloc (Obj.cells #[Value.string ⟨S.textV.toArray⟩] 9)) := below_alloc _
  have HC3 := HC2.below hbq
  have hW3 := hW2.new (b := w2.heap.size) (e' := 9) (Wr.of_below hbq) hW2.size
  have hb2 : S.textS.b.length ≤ 140737488355328 := by simpa using hl
  generalize hS2 : S.textS = S2 at *
  generalize hT2 : S.textV = T2 at *
  have HP := Lib.hid hP; clear hP
  have HS2 := Lib.hid hS2; clear hS2
  have HT2 := Lib.hid hT2; clear hT2
  go_wp2_with fail
  generalize w2.alloc (Obj.cells #[Value.string ⟨T2.toArray⟩] 9) = w3 at *
  go_loopw [8, 19] (fun ov i wr => ∃ (j k : Nat) (S' : Cur) (out : List Str), i = .int .i64 (j : Int) ∧ j + k = (n - 1).toNat ∧ out.length = j + 1 ∧ (out.getLast?.getD []).length ≤ 4096 * (j + 1) ∧ ftakeN k S' out = ftakeN (n - 1).toNat S2 [T2] ∧ S'.b = S2.b ∧ Own kStr 9 wr w.heap.size 0 ov out ∧ CurAt wr g S' ∧ Wr g 163 w wr) (fun _ i _ => (n - 1).toNat - (intOf i).toNat)
  case atStart => exact ⟨0, (n - 1).toNat, S2, [T2], rfl, by omega, rfl, by simpa using htl, rfl, rfl, hO2, HC3, hW3⟩
  case round =>
    obtain ⟨j, k, S', out, rfl, hjk, hol, hll, hst, hbb, HO, HC, HW⟩ := hrel
    have hb3 : S'.b.length ≤ 140737488355328 := by rw [hbb]; exact hb2
    obtain ⟨A3, c3, rfl, _, _⟩ := HO.form
    cases k with
    | zero =>
      have hst2 : ftakeN (n - 1).toNat S2 [T2] = (S', out, false) := hst.symm
      have hle2 := HC.le
      have hbs : S'.b.length = S.b.length := by rw [hbb, ← HS2.out]; simp
      have hj : (j : Int) = n - 1 ∨ n - 1 ≤ 0 := by omega
      have hjd : decide ((j : Int) < n - 1) = false := by simp; omega
      have hP2 : P = (out, if (S'.at_ : Int) - S.at_ ≠ size then S'.fail 3 else S') := by rw [← HP.out, hst2]; rfl
      clear hst hst2
      have HC' := HC.below (pw_drewN wr 1)
      by_cases hsz : (S'.at_ : Int) - S.at_ = size
      · have hP3 : P = (out, S') := by rw [hP2, if_neg (by simpa using hsz)]
        have HP3 := Lib.hid hP3; clear hP2 hP3
        have hne : ((S'.at_ : Int) - S.at_ != size) = false := by simp [hsz]
        go_wp2_with (first | (go_at_call 51; refine (left_ok wr g S' HC).mono ?_; rintro e w7 ⟨rfl, n7, rfl⟩; rw [hbs]))
        rw [hol] at HO
        go_ret
        exact ⟨_, rfl, by rw [HP3.out]; exact HO.below (pw_drewN _ _), by rw [HP3.out]; exact HC.below (pw_drewN _ _), HW.trans (wr_drewN _ _ _ _)⟩
      · have hP3 : P = (out, S'.fail 3) := by rw [hP2, if_pos hsz]
        have HP3 := Lib.hid hP3; clear hP2 hP3
        have hne : ((S'.at_ : Int) - S.at_ != size) = true := by simp [hsz]
        go_wp2_with (first | (go_at_call 51; refine (left_ok wr g S' HC).mono ?_; rintro e w7 ⟨rfl, n7, rfl⟩; rw [hbs]) | (go_at_call 160; refine (fail_ok _ g S' 3 (HC.below (pw_drewN _ _))).mono ?_; rintro e w9 ⟨⟨v9, rfl⟩, HC9, HW9⟩))
        rw [hol] at HO
        go_ret
        exact ⟨_, rfl, by rw [HP3.out]; exact (HO.below (pw_drewN _ _)).wr HW9 (by decide) (by decide) (Nat.zero_le _), by rw [HP3.out]; exact HC9, (HW.trans (wr_drewN _ _ _ _)).trans HW9⟩
    | succ k =>
      have hlast : out.getLast? = some (out[j]'(by omega)) := by
        have hj1 : out.length - 1 = j := by omega
        rw [List.getLast?_eq_getElem?, hj1, List.getElem?_eq_getElem]
      obtain ⟨b0, off0, cs0, hA0, ⟨rfl, hkl⟩, hc0⟩ := HO.rd.at (i := j) (by omega)
      subst hA0
      have hx := hc0 0 _ rfl
      simp only [Nat.add_zero, show kStr.sz = 1 from rfl, Nat.mul_one] at hx
      rw [hlast, Option.getD_some] at hll
      have hst2 : ftakeN (n - 1).toNat S2 [T2] = if (fcur S' (out[j]'(by omega))).e ≠ 0 then (fcur S' (out[j]'(by omega)), [], true) else ftakeN k (fchk S' (out[j]'(by omega))) (out ++ [fstr S' (out[j]'(by omega))]) := by
        rw [← hst]; conv => lhs; unfold ftakeN
        rw [hlast, Option.getD_some]
      have HST := Lib.hid hst2
      have hoi : (out.length : Int) = (j : Int) + 1 := by omega
      rw [hol] at HO
      have HOL := Lib.hid hol
      clear hst hst2 hc0 hlast
      generalize out[j]'(by omega) = last at *
      have hmv := S'.mostV_le last.length (by omega)
      have hbm : (S'.mostS last.length).b.length ≤ 140737488355328 := by simpa using hb3
      have hfs : fstr S' last = last.take (S'.mostV last.length) ++ (S'.mostS last.length).textV := rfl
      have hfc : fcur S' last = (S'.mostS last.length).textS := rfl
      have hfk : fchk S' last = if fshared last (fstr S' last) ≠ S'.mostV last.length then (fcur S' last).fail 3 else fcur S' last := rfl
      have hfsl := fstr_le S' last
      have hfb : (fcur S' last).b = S2.b := by simp [hbb]
      go_wp2_with fail
      refine (most_ok wr g S' last.length HC hb3).mono ?_
      rintro e w4 ⟨v4, rfl, rfl, HC4, HW4⟩
      have hO4 := HO.wr HW4 (by decide) (by decide) (Nat.zero_le _)
      have hW4 := HW.trans HW4
      generalize S'.mostV last.length = q at *
      generalize S'.mostS last.length = S4 at *
      have hs1 := strRunH (P := Tryz.prog) (t := 9) (xs := last) (kl := .i64) (hi := (q : Int)) Tryz.underlying9 (by omega) (by omega)
      have htv := textV_le S4
      have hnb : ¬ 9223372036854775807 < min q last.length + S4.textV.length := by omega
      have hcat : (⟨(last.take q).toArray⟩ ++ ⟨S4.textV.toArray⟩ : ByteArray) = ⟨(fstr S' last).toArray⟩ := by
        rw [hfs]; apply ByteArray.ext; rw [ByteArray.data_append]; simp
      have HFS := Lib.hid hfs; have HFC := Lib.hid hfc; have HFK := Lib.hid hfk
      clear hfs hfc hfk
      have hO5 := hO4.below (below_drew w4)
      have HC5 := HC4.below (below_drew w4)
      have hW5 : Wr g 163 w w4.drew := hW4.trans (Wr.of_below (below_drew w4))
      go_wp2_with fail
      go_region_law (go_simp; go_at_call 273; refine (text_ok w4.drew g S4 HC5 hbm).mono ?_; rintro e w6 ⟨v6, rfl, rfl, HC6, HW6⟩)
      have hO6 := hO5.wr HW6 (by decide) (by decide) (Nat.zero_le _)
      have hW6 := hW5.trans HW6
      go_simp
      rw [← HFC.out] at HC6
      generalize fstr S' last = s at *
      generalize fcur S' last = S6 at *
      generalize fchk S' last = S7 at *
      by_cases he : S6.e = 0
      · have hst3 : ftakeN (n - 1).toNat S2 [T2] = ftakeN k S7 (out ++ [s]) := by rw [HST.out, if_neg (by simp [he])]
        have HST3 := Lib.hid hst3; clear hst3 HST
        by_cases hsh : fshared last s = q
        · have h7 : S7 = S6 := by rw [HFK.out, if_neg (by simp [hsh])]
          subst h7
          have hshi : ((fshared last s : Int) != (q : Int)) = false := by rw [hsh]; simp
          clear HFK
          have hsum : (out.length + 1) * 16 ≤ 140737488355328 := by rw [HOL.out]; omega
          go_wp2_with (first | (go_at_call 47; refine (good_ok _ g _ HC6).mono ?_; rintro e w7 ⟨rfl, rfl⟩; simp only [he]) | (go_at_call 272; refine (shared_ok _ _ _ (by omega) (by omega)).mono ?_; rintro e w8 ⟨rfl, hD8⟩; have hO8 := hO6.below hD8.below; have HC8 := HC6.below hD8.below; have hW8 : Wr g 163 w w8 := hW6.trans hD8.wr) | (at_builtin; refine app1 (y := s) Tryz.underlying52 Tryz.i9 hO8 ⟨rfl, by omega⟩ (Nat.le_trans (Nat.le_refl _) hW8.size) hsum ?_; intro v9 w9 HO9 hw9))
          go_wp2
          go_roundw
          case rel => exact ⟨j + 1, k, S7, out ++ [s], by go_num, by omega, by simp [HOL.out], by simp; omega, HST3.out.symm, hfb, HO9, HC8.wr hw9 (by decide) (by decide), hW8.new hw9 (Nat.le_refl _)⟩
          case measure => simp [intOf]; omega
        · have h7 : S7 = S6.fail 3 := by rw [HFK.out, if_pos (by simpa using hsh)]
          subst h7
          have hshi : ((fshared last s : Int) != (q : Int)) = true := by simp; omega
          clear HFK
          have hsum : (out.length + 1) * 16 ≤ 140737488355328 := by rw [HOL.out]; omega
          have hfb2 : (S6.fail 3).b = S2.b := by simpa using hfb
          generalize hS7 : S6.fail 3 = S7 at *
          have HS7 := Lib.hid hS7; clear hS7
          go_wp2_with (first | (go_at_call 47; refine (good_ok _ g _ HC6).mono ?_; rintro e w7 ⟨rfl, rfl⟩; simp only [he]) | (go_at_call 272; refine (shared_ok _ _ _ (by omega) (by omega)).mono ?_; rintro e w8 ⟨rfl, hD8⟩; have hO8 := hO6.below hD8.below; have HC8 := HC6.below hD8.below; have hW8 : Wr g 163 w w8 := hW6.trans hD8.wr) | (go_at_call 160; refine (fail_ok w8 g S6 3 HC8).mono ?_; rintro e w9 ⟨⟨v9, rfl⟩, HC9, HW9⟩; rw [HS7.out] at HC9; have hO9 := hO8.wr HW9 (by decide) (by decide) (Nat.zero_le _); have hW9 := hW8.trans HW9) | (at_builtin; refine app1 (y := s) Tryz.underlying52 Tryz.i9 hO9 ⟨rfl, by omega⟩ (Nat.le_trans (Nat.le_refl _) hW9.size) hsum ?_; intro v10 w10 HO10 hw10))
          go_wp2
          go_roundw
          case rel => exact ⟨j + 1, k, S7, out ++ [s], by go_num, by omega, by simp [HOL.out], by simp; omega, HST3.out.symm, hfb2, HO10, HC9.wr hw10 (by decide) (by decide), hW9.new hw10 (Nat.le_refl _)⟩
          case measure => simp [intOf]; omega
      · have hst3 : ftakeN (n - 1).toNat S2 [T2] = (S6, [], true) := by rw [HST.out, if_pos (by simp [he])]
        have hdf : decide (S6.e = 0) = false := by simp [he]
        have hP2 : P = ([], S6) := by rw [← HP.out, hst3]; rfl
        have HP2 := Lib.hid hP2
        clear hst3 HST hP2
        go_wp2_with (first | (go_at_call 47; refine (good_ok _ g _ HC6).mono ?_; rintro e w7 ⟨rfl, rfl⟩; rw [hdf]))
        go_ret
        exact ⟨_, rfl, by rw [HP2.out]; exact Own.nil _ _ _ _ _, by rw [HP2.out]; exact HC6, hW6⟩
end Go.Proofs.YtpjbibcjefkcaaaGreat
