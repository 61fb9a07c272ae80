import Derived.Test.YtpjbibcjefkcaaaGreatT2
namespace Go.Proofs.YtpjbibcjefkcaaaGreat
open Go.RowKit

def vget : Nat → Nat → List UInt8 → Except Int (Nat × Nat)
  | _, _, [] => .error 2
  | i, x, b :: l => if i = 9 then .error 3 else if b.toNat < 128 then (if b.toNat = 0 ∧ 0 < i then .error 3 else .ok (x + b.toNat * 128 ^ i, i + 1)) else vget (i + 1) (x + (b.toNat % 128) * 128 ^ i) l

def Cur.rest (S : Cur) : List UInt8 := S.b.drop S.at_
def Cur.num (S : Cur) : Nat := if S.e ≠ 0 then 0 else match vget 0 0 S.rest with | .ok (x, _) => x | .error _ => 0
def Cur.nummed (S : Cur) : Cur := if S.e ≠ 0 then S else match vget 0 0 S.rest with | .ok (_, n) => { S with at_ := S.at_ + n } | .error e => S.fail e

theorem u8_and127 (b : UInt8) : bits .and .u8 (b.toNat : Int) 127 = ((b.toNat % 128 : Nat) : Int) := by
  have := bits_mask .u8 8 (by decide) wraps_u8 7 (by decide) (b.toNat : Int) (by omega) (by have := UInt8.toNat_lt b; omega)
  simpa using this

theorem vlt (k x y : Nat) (hx : x < 128 ^ k) : x + y % 128 * 128 ^ k < 128 ^ (k + 1) := by
  have : y % 128 < 128 := Nat.mod_lt _ (by decide)
  have h2 : y % 128 * 128 ^ k ≤ 127 * 128 ^ k := Nat.mul_le_mul_right _ (by omega)
  rw [Nat.pow_succ]; omega
theorem vor (k x y : Nat) (hk : k ≤ 8) (hx : x < 128 ^ k) : bits .or .i64 (x : Int) (wrap64 ((y : Int) % 128 * 2 ^ (7 * k))) = ((x + y % 128 * 128 ^ k : Nat) : Int) := by
  have hp : (2 : Nat) ^ (7 * k) = 128 ^ k := by rw [Nat.pow_mul]
  have hm : y % 128 < 128 := Nat.mod_lt _ (by decide)
  have h63 : (128 : Nat) ^ (k + 1) ≤ 2 ^ 63 := by
    calc (128 : Nat) ^ (k + 1) ≤ 128 ^ 9 := Nat.pow_le_pow_right (by decide) (by omega)
      _ = 2 ^ 63 := by decide
  have hv := vlt k x y hx
  have hle : y % 128 * 128 ^ k < 2 ^ 63 := by omega
  have e1 : (y : Int) % 128 * 2 ^ (7 * k) = ((y % 128 * 128 ^ k : Nat) : Int) := by
    rw [Int.natCast_mul, Int.natCast_pow, Int.natCast_emod]
    congr 1
    have : ((2 : Int) ^ (7 * k)) = (((2 : Nat) ^ (7 * k) : Nat) : Int) := by simp
    rw [this, hp]; simp
  have h63' : (2 : Nat) ^ 63 = 9223372036854775808 := by decide
  have h7 : (2 : Int) ^ (7 * k) = ((128 ^ k : Nat) : Int) := by rw [← hp]; simp
  have c1 : ((y % 128 * 128 ^ k : Nat) : Int) % 2 ^ (7 * k) = 0 := by rw [h7, ← Int.natCast_emod, Nat.mul_mod_left]; rfl
  have c2 : (x : Int) < 2 ^ (7 * k) := by rw [h7]; exact_mod_cast hx
  have c3 : (x : Int) < 2 ^ 63 := by have : x < 2 ^ 63 := by omega
                                     exact_mod_cast this
  have c4 : ((y % 128 * 128 ^ k : Nat) : Int) < 2 ^ 63 := by exact_mod_cast hle
  have hc : bits .or .i64 (x : Int) ((y % 128 * 128 ^ k : Nat) : Int) = bits .or .i64 ((y % 128 * 128 ^ k : Nat) : Int) (x : Int) := by
    simp only [bits, BitVec.toNat_or, Nat.or_comm]
  rw [e1, IntWalk.wrap64_in _ ⟨by omega, by omega⟩, hc, bits_join .i64 63 (by decide) (fun n h0 h1 => by rw [IntKind.wrap_i64]; omega) (7 * k) _ _ (by omega) c1 c4 (by omega) c2 c3]
  omega

theorem pw_drewN (w : World) (n : Nat) : Below w.heap.size w (w.drewN n) := ⟨rfl, rfl, rfl, Nat.le_refl _, fun _ _ => rfl⟩

set_option maxRecDepth 100000 in
set_option maxHeartbeats 400000 in
theorem number_ok (w : World) (g : Nat) (S : Cur) (h : CurAt w g S) (hl : S.b.length ≤ 140737488355328) :
    Calls Tryz.prog 141 #[.pointer (some ⟨g, 0, none⟩)] w (CurPost w g S.nummed (IntIs S.num)) := by
  obtain ⟨A, c, h0, hr, h1, h2, h3, h4, h5, h6⟩ := h.cells
  by_cases he : S.e = 0
  · have he' : (S.e != 0) = false := by simp [he]
    obtain ⟨v', hsl, hr'⟩ := hr.runL Tryz.underlying36 Tryz.i5 .i64 (S.at_ : Int) (by omega) (by omega)
    obtain ⟨A', c', rfl, k1, k2⟩ := hr'.form
    have hlen : (S.b.drop (S.at_ : Int).toNat).length = S.b.length - S.at_ := by simp
    rw [hlen] at hr' hsl
    have H := Lib.hid h; have HE := Lib.hid he; have HL := Lib.hid hlen
    clear h he hlen
    go_enter Tryz.func141, Tryz.ntmps141
    go_wp2_with fail
    go_quiet (fail)
    go_wp2_with fail
    have HC : CurAt (w.drewN nq) g S := H.out
    have HR : Rd kByte 5 (w.drewN nq) 0 (.slice A' (S.b.length - S.at_) c') S.rest := by
      have := hr'.below (pw_drewN w nq)
      simpa [Cur.rest] using this
    have HW : Wr g 163 w (w.drewN nq) := wr_drewN _ _ _ _
    generalize w.drewN nq = w1 at *
    clear h0 hr h1 h2 h3 h4 hsl hr' k1
    have hlr : S.rest.length = S.b.length - S.at_ := by simp [Cur.rest]
    have HLR := Lib.hid hlr
    rw [← hlr] at HR ⊢; clear k2
    clear hlr
    go_loop [3, 21] (fun m i => ∃ k x : Nat, k ≤ S.rest.length ∧ k ≤ 9 ∧ i = .int .i64 (k : Int) ∧ m = .int .i64 (x : Int) ∧ x < 128 ^ k ∧ vget k x (S.rest.drop k) = vget 0 0 S.rest) (fun _ i => S.rest.length - (intOf i).toNat)
    case atStart => exact ⟨0, 0, by omega, by omega, rfl, rfl, by simp, by simp⟩
    case round =>
      obtain ⟨k, x, hk, hk9, rfl, rfl, hx, hv⟩ := hrel
      have HV := Lib.hid hv; clear hv
      by_cases hlt : k < S.rest.length
      · obtain ⟨b, off, cs, rfl, hkk, hc⟩ := HR.at hlt
        obtain rfl := hkk
        have hc0 := hc 0 _ rfl
        simp only [Nat.add_zero] at hc0
        generalize hb : S.rest[k] = y at hc0
        have HB := Lib.hid hb; clear hb hc
        have hy := UInt8.toNat_lt y
        have hand := u8_and127 y
        simp only [show kByte.sz = 1 from rfl, Nat.mul_one] at hc0
        have hstep : vget k x (S.rest.drop k) = vget k x (y :: S.rest.drop (k + 1)) := by rw [← HB.out, List.getElem_cons_drop]
        have HS := Lib.hid hstep; clear hstep
        obtain ⟨A2, c2, g0, gr, g1, g2, g3, g4, g5, g6⟩ := HC.cells
        by_cases h9 : k = 9
        · subst h9
          have hT : S.nummed = S.fail 3 := by simp [Cur.nummed, HE.out, ← HV.out, HS.out, vget]
          have hV : S.num = 0 := by simp [Cur.num, HE.out, ← HV.out, HS.out, vget]
          have hT' := Lib.hid hT; have hV' := Lib.hid hV; clear hT hV
          go_wp2_with (go_at_call 160; refine (fail_ok _ g S 3 HC).mono ?_; rintro e w2 ⟨⟨v2, rfl⟩, HC2, HW2⟩)
          go_ret
          exact ⟨_, rfl, by rw [hV'.out]; rfl, by rw [hT'.out]; exact HC2, HW.trans HW2⟩
        · have hor := vor k x y.toNat (by omega) hx
          have h9' : ((k : Int) == 9) = false := by simp; omega
          by_cases h128 : y.toNat < 128
          · have hd : decide ((y.toNat : Int) < 128) = true := by simp; omega
            rw [Nat.mod_eq_of_lt h128] at hor
            by_cases hz : y.toNat = 0 ∧ 0 < k
            · obtain ⟨hz1, hz2⟩ := hz
              have hz3 : ((y.toNat : Int) == 0) = true := by simp [hz1]
              have hz4 : decide (0 < (k : Int)) = true := by simp; omega
              have hT : S.nummed = S.fail 3 := by simp [Cur.nummed, HE.out, ← HV.out, HS.out, vget, h9, hz1, hz2]
              have hV : S.num = 0 := by simp [Cur.num, HE.out, ← HV.out, HS.out, vget, h9, hz1, hz2]
              have hT' := Lib.hid hT; have hV' := Lib.hid hV; clear hT hV hz1 hor
              go_wp2_with (go_at_call 160; refine (fail_ok _ g S 3 HC).mono ?_; rintro e w2 ⟨⟨v2, rfl⟩, HC2, HW2⟩)
              go_ret
              exact ⟨_, rfl, by rw [hV'.out]; rfl, by rw [hT'.out]; exact HC2, HW.trans HW2⟩
            · have hT : S.nummed = { S with at_ := S.at_ + (k + 1) } := by simp only [Cur.nummed, HE.out, ← HV.out, HS.out, vget]; simp [h9, h128, hz]
              have hV : S.num = x + y.toNat * 128 ^ k := by simp only [Cur.num, HE.out, ← HV.out, HS.out, vget]; simp [h9, h128, hz]
              have hT' := Lib.hid hT; have hV' := Lib.hid hV; clear hT hV
              have H2 := HC.setAt ((S.at_ : Int) + (k + 1)) (by omega) (by have := HLR.out; omega)
              rw [show ((S.at_ : Int) + (k + 1)).toNat = S.at_ + (k + 1) from by omega] at H2
              have hguard : ((y.toNat : Int) == 0 && decide (0 < (k : Int))) = false := by simp; omega
              go_wp2
              all_goals
                go_ret
                exact ⟨_, rfl, by rw [hV'.out]; first | (simp [IntIs]; done) | (have hy0 : y.toNat = 0 := (by first | assumption | omega); simp [IntIs, hy0]), by rw [hT'.out]; exact H2.1, HW.trans H2.2⟩
          · have hd : decide ((y.toNat : Int) < 128) = false := by simp; omega
            have hw' : vget (k + 1) (x + y.toNat % 128 * 128 ^ k) (S.rest.drop (k + 1)) = vget 0 0 S.rest := by rw [← HV.out, HS.out, vget, if_neg h9, if_neg h128]
            have hx' := vlt k x y.toNat hx
            have HW' := Lib.hid hw'; clear hw'
            go_wp2
            go_round
            case rel => exact ⟨k + 1, x + y.toNat % 128 * 128 ^ k, by omega, by omega, by go_num, rfl, hx', HW'.out⟩
            case measure => simp [intOf]; omega
      · have hT : S.nummed = S.fail 2 := by simp [Cur.nummed, HE.out, ← HV.out, List.drop_of_length_le (show S.rest.length ≤ k by omega), vget]
        have hV : S.num = 0 := by simp [Cur.num, HE.out, ← HV.out, List.drop_of_length_le (show S.rest.length ≤ k by omega), vget]
        have hT' := Lib.hid hT; have hV' := Lib.hid hV; clear hT hV
        go_wp2_with (go_at_call 160; refine (fail_ok _ g S 2 HC).mono ?_; rintro e w2 ⟨⟨v2, rfl⟩, HC2, HW2⟩)
        go_ret
        exact ⟨_, rfl, by rw [hV'.out]; rfl, by rw [hT'.out]; exact HC2, HW.trans HW2⟩
  · have he' : (S.e != 0) = true := by simp [he]
    have hT : S.nummed = S := by simp [Cur.nummed, he]
    have hV : S.num = 0 := by simp [Cur.num, he]
    have H := Lib.hid h; have hT' := Lib.hid hT; have hV' := Lib.hid hV; clear he hT hV h
    go_enter Tryz.func141, Tryz.ntmps141
    go_wp2_with fail
    go_ret
    exact ⟨_, rfl, by rw [hV'.out]; rfl, by rw [hT'.out]; exact H.out, Wr.refl _ _ _⟩

@[simp] theorem Cur.fail_b (S : Cur) (n : Int) : (S.fail n).b = S.b := by unfold Cur.fail; split <;> rfl
@[simp] theorem Cur.fail_at (S : Cur) (n : Int) : (S.fail n).at_ = S.at_ := by unfold Cur.fail; split <;> rfl
@[simp] theorem Cur.nummed_b (S : Cur) : S.nummed.b = S.b := by unfold Cur.nummed; split; rfl; split <;> simp
@[simp] theorem Cur.took_b (S : Cur) (n : Int) : (S.took n).b = S.b := by unfold Cur.took; repeat' split
                                                                          all_goals simp
def Cur.mostV (S : Cur) (n : Int) : Nat := if n < S.num then 0 else S.num
def Cur.mostS (S : Cur) (n : Int) : Cur := if n < S.num then ({ S.nummed with at_ := S.at_ }).fail 3 else S.nummed
@[simp] theorem Cur.mostS_b (S : Cur) (n : Int) : (S.mostS n).b = S.b := by unfold Cur.mostS; split <;> simp
def Cur.textV (S : Cur) : List UInt8 := (S.mostS 4096).take (S.mostV 4096)
def Cur.textS (S : Cur) : Cur := if ((S.mostS 4096).took (S.mostV 4096)).e ≠ 0 then { (S.mostS 4096).took (S.mostV 4096) with at_ := S.at_ } else (S.mostS 4096).took (S.mostV 4096)
@[simp] theorem Cur.textS_b (S : Cur) : S.textS.b = S.b := by unfold Cur.textS; split <;> simp
theorem CurAt.le {w g S} (h : CurAt w g S) : S.at_ ≤ S.b.length := by obtain ⟨v, _, _, h⟩ := h; exact h
theorem vget_lt : ∀ (l : List UInt8) (i x : Nat) {y n : Nat}, i ≤ 9 → x < 128 ^ i → vget i x l = .ok (y, n) → y < 128 ^ 9
  | [], i, x, y, n, _, _, h => by simp [vget] at h
  | b :: l, i, x, y, n, hi, hx, h => by
    rw [vget] at h
    by_cases h9 : i = 9
    · simp [h9] at h
    · rw [if_neg h9] at h
      by_cases h1 : b.toNat < 128
      · rw [if_pos h1] at h
        split at h
        · cases h
        · injection h with h; injection h with h _
          have := vlt i x b.toNat hx
          rw [Nat.mod_eq_of_lt h1] at this
          have h2 : (128 : Nat) ^ (i + 1) ≤ 128 ^ 9 := Nat.pow_le_pow_right (by decide) (by omega)
          omega
      · rw [if_neg h1] at h
        exact vget_lt l (i + 1) _ (by omega) (vlt i x b.toNat hx) h
theorem Cur.num_lt (S : Cur) : S.num < 9223372036854775808 := by
  unfold Cur.num
  split
  · omega
  · split
    · next x n h => exact vget_lt _ _ _ (by omega) (by decide) h
    · omega

set_option maxRecDepth 100000 in
theorem most_ok (w : World) (g : Nat) (S : Cur) (n : Int) (h : CurAt w g S) (hl : S.b.length ≤ 140737488355328) :
    Calls Tryz.prog 117 #[.pointer (some ⟨g, 0, none⟩), .int .i64 n] w (CurPost w g (S.mostS n) (IntIs (S.mostV n))) := by
  obtain ⟨A, c, h0, hr, h1, h2, h3, h4, h5, h6⟩ := h.cells
  have hlt := S.num_lt
  have H := Lib.hid h; clear h
  by_cases hc : n < S.num
  · have hT : S.mostS n = ({ S.nummed with at_ := S.at_ }).fail 3 := by simp [Cur.mostS, hc]
    have hV : S.mostV n = 0 := by simp [Cur.mostV, hc]
    have hT' := Lib.hid hT; have hV' := Lib.hid hV; clear hT hV
    go_enter Tryz.func117, Tryz.ntmps117
    go_wp2_with fail
    refine (number_ok _ g S H.out hl).mono ?_
    rintro e w1 ⟨v1, rfl, rfl, HC, HW⟩
    obtain ⟨A2, c2, g0, gr, g1, g2, g3, g4, g5, g6⟩ := HC.cells
    obtain ⟨H2, HW2⟩ := HC.setAt (S.at_ : Int) (by omega) (by simp; omega)
    rw [Int.toNat_natCast] at H2
    go_wp2_with (go_at_call 160; refine (fail_ok _ g _ 3 H2).mono ?_; rintro e w3 ⟨⟨v3, rfl⟩, HC3, HW3⟩)
    go_ret
    exact ⟨_, rfl, by rw [hV'.out]; rfl, by rw [hT'.out]; exact HC3, HW.trans (HW2.trans HW3)⟩
  · have hT : S.mostS n = S.nummed := by simp [Cur.mostS, hc]
    have hV : S.mostV n = S.num := by simp [Cur.mostV, hc]
    have hT' := Lib.hid hT; have hV' := Lib.hid hV; clear hT hV
    go_enter Tryz.func117, Tryz.ntmps117
    go_wp2_with fail
    refine (number_ok _ g S H.out hl).mono ?_
    rintro e w1 ⟨v1, rfl, rfl, HC, HW⟩
    go_wp2_with fail
    go_ret
    exact ⟨_, rfl, by rw [hV'.out]; rfl, by rw [hT'.out]; exact HC, HW⟩

def StrIs (xs : List UInt8) (v : Value) (_ : World) : Prop := v = .string ⟨xs.toArray⟩
theorem Cur.mostV_le (S : Cur) (n : Int) (hn : 0 ≤ n) : (S.mostV n : Int) ≤ n := by unfold Cur.mostV; split <;> omega

set_option maxRecDepth 100000 in
theorem text_ok (w : World) (g : Nat) (S : Cur) (h : CurAt w g S) (hl : S.b.length ≤ 140737488355328) :
    Calls Tryz.prog 273 #[.pointer (some ⟨g, 0, none⟩)] w (CurPost w g S.textS (StrIs S.textV)) := by
  obtain ⟨A, c, h0, hr, h1, h2, h3, h4, h5, h6⟩ := h.cells
  have hlt := S.mostV_le 4096 (by omega)
  have H := Lib.hid h; clear h
  go_enter Tryz.func273, Tryz.ntmps273
  go_wp2_with fail
  refine (most_ok _ g S 4096 H.out hl).mono ?_
  rintro e w1 ⟨v1, rfl, rfl, HC, HW⟩
  go_wp2_with fail
  refine (bytes_ok _ g _ _ HC (by simpa using hl) (by omega) (by omega)).mono ?_
  rintro e w2 ⟨v2, rfl, HO, HC2, HW2⟩
  obtain ⟨A2, c2, g0, gr, g1, g2, g3, g4, g5, g6⟩ := HC2.cells
  obtain ⟨H3, HW3⟩ := HC2.setAt (S.at_ : Int) (by omega) (by simp; omega)
  rw [Int.toNat_natCast] at H3
  by_cases he : ((S.mostS 4096).took (S.mostV 4096)).e = 0
  · have hT : S.textS = (S.mostS 4096).took (S.mostV 4096) := by simp [Cur.textS, he]
    have hT' := Lib.hid hT; have HE := Lib.hid he
    have he' : (((S.mostS 4096).took (S.mostV 4096)).e != 0) = false := by simp [he]
    clear hT he
    go_wp2_with (refine convStr Tryz.underlying36 Tryz.underlying5 Tryz.underlying9 HO.rd ?_)
    go_ret
    exact ⟨_, rfl, rfl, by rw [hT'.out]; exact HC2, HW.trans HW2⟩
  · have hT : S.textS = { (S.mostS 4096).took (S.mostV 4096) with at_ := S.at_ } := by simp [Cur.textS, he]
    have hT' := Lib.hid hT
    have he' : (((S.mostS 4096).took (S.mostV 4096)).e != 0) = true := by simp [he]
    have HO3 := (HO.wr HW3 (by decide) (by decide) (Nat.zero_le _)).rd
    clear hT he
    go_wp2_with (refine convStr Tryz.underlying36 Tryz.underlying5 Tryz.underlying9 HO3 ?_)
    go_ret
    exact ⟨_, rfl, rfl, by rw [hT'.out]; exact H3, HW.trans (HW2.trans HW3)⟩
end Go.Proofs.YtpjbibcjefkcaaaGreat
