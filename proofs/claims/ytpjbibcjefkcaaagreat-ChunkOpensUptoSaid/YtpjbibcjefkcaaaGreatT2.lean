import Derived.Test.YtpjbibcjefkcaaaGreatCur
import Derived.WalkSpells
import Derived.WalkLawsBesides
namespace Go.Proofs.YtpjbibcjefkcaaaGreat
open Go.RowKit

set_option maxRecDepth 100000 in
theorem clone_ok (w : World) (B : Nat) (v : Value) (xs : List UInt8) (h : Rd kByte 5 w B v xs) (hl : xs.length ≤ 140737488355328) : Calls Tryz.prog 102 #[v] w (Fresh kByte 5 w xs) := by
  obtain ⟨A, c, rfl, h1, h2⟩ := h.form
  cases A with
  | none =>
    obtain rfl : xs = [] := by
      obtain ⟨A, c, cs, hv, k1, k2, k3, k0, k4⟩ := h
      injection hv with e1 e2 e3
      have := k0 e1.symm
      exact List.eq_nil_of_length_eq_zero (by omega)
    have kn := fun w : World => Lib.run_eql_slice_nil (P := Tryz.prog) w 36 5 none 0 c 0 0 Tryz.underlying36
    go_enter Tryz.func102, Tryz.ntmps102
    go_wp2
    go_ret
    exact ⟨_, rfl, Own.nil _ _ _ _ _, Below.refl _ _⟩
  | some ad =>
    have h' := h.below (below_alloc (.cells #[] 5))
    have kn := fun w : World => Lib.run_eql_slice_nil (P := Tryz.prog) w 36 5 (some ad) xs.length c 0 0 Tryz.underlying36
    go_enter Tryz.func102, Tryz.ntmps102
    go_wp2_with (at_builtin; refine appRow (b := w.heap.size) (B := 0) Tryz.underlying36 Tryz.i5 (own_lit (xs := []) (n := 0) (cells := #[]) rfl rfl (Nat.le_refl _) (by omega)) h' (fun _ _ _ h => h) (by simp) (by simp; omega) ?_)
    intro v1 w1 HO1 hw1
    go_wp2
    go_ret
    exact ⟨_, rfl, by simpa using HO1, hw1.below (below_alloc _) (Nat.le_refl _) (by simp)⟩

set_option maxRecDepth 100000 in
theorem same_ok (w : World) (B B' : Nat) (v v' : Value) (xs ys : List UInt8) (h : Rd kByte 5 w B v xs) (h' : Rd kByte 5 w B' v' ys) : Calls Tryz.prog 28 #[v, v'] w fun en w' => en = .returned (.bool (decide (xs = ys))) ∧ w = w' := by
  go_enter Tryz.func28, Tryz.ntmps28
  go_wp2_with (first | (refine convStr Tryz.underlying36 Tryz.underlying5 Tryz.underlying9 h ?_) | refine convStr Tryz.underlying36 Tryz.underlying5 Tryz.underlying9 h' ?_)
  go_ret
  exact ⟨congrArg (fun b => Ending.returned (.bool b)) (by rw [Bool.eq_iff_iff]; simp : (xs == ys) = decide (xs = ys)), rfl⟩

set_option maxRecDepth 100000 in
theorem rput_ok (k : Nat) : ∀ (n : Int) (w : World), 0 ≤ n → n ≤ 9223372036854775807 → n.toNat < 128 ^ (k + 1) → Calls Tryz.prog 87 #[.int .i64 n] w (Fresh kByte 5 w (vput n.toNat)) := by
  induction k with
  | zero =>
    intro n w h0 h1 hk
    have hc : n < 128 := by omega
    go_enter Tryz.func87, Tryz.ntmps87
    go_wp2_with fail
    go_ret
    have e : vput n.toNat = [UInt8.ofNat n.toNat] := by rw [vput, if_pos (by omega)]
    exact ⟨_, rfl, e ▸ own_lit rfl (by refine Reps.one ?_; simp [kByte]; omega) (Nat.le_refl _) (by omega), below_alloc _⟩
  | succ k ih =>
    intro n w h0 h1 hk
    by_cases hc : n < 128
    · go_enter Tryz.func87, Tryz.ntmps87
      go_wp2_with fail
      go_ret
      have e : vput n.toNat = [UInt8.ofNat n.toNat] := by rw [vput, if_pos (by omega)]
      exact ⟨_, rfl, e ▸ own_lit rfl (by refine Reps.one ?_; simp [kByte]; omega) (Nat.le_refl _) (by omega), below_alloc _⟩
    · have hlen := vput_len9 (n := (n / 128).toNat) (by omega)
      have IH := Lib.hid ih; clear ih
      go_enter Tryz.func87, Tryz.ntmps87
      go_wp2_with fail
      refine (IH.out (n / 128) _ (by omega) (by omega) (by rw [Nat.pow_succ] at hk; omega)).mono ?_
      rintro e w1 ⟨v1, rfl, HO, HB⟩
      have HL := (own_lit (d := kByte) (e := 5) (W := w) (b := w.heap.size) (B := 0) (xs := [UInt8.ofNat (n.toNat % 128 + 128)]) (n := 1) (cells := #[.int .u8 (n % 128 + 128)]) rfl (Reps.one (by simp [kByte]; omega)) (Nat.le_refl _) (by omega)).below HB
      have hB := below_step (below_alloc _) (by simp) HB
      go_wp2_with (at_builtin; refine appRow Tryz.underlying36 Tryz.i5 HL HO.rd (fun _ _ _ h => h) hB.size (by simp; omega) ?_)
      intro v2 w2 HO2 hw2
      go_wp2
      go_ret
      have e : vput n.toNat = [UInt8.ofNat (n.toNat % 128 + 128)] ++ vput (n / 128).toNat := by
        rw [vput, if_neg (by omega)]; simp; congr 1; omega
      exact ⟨_, rfl, e ▸ HO2, hw2.below hB (Nat.le_refl _) hB.size⟩

/-! ### the cursor's other calls -/
def Cur.left (S : Cur) : Nat := S.b.length - S.at_
def Cur.take (S : Cur) (n : Int) : List UInt8 := if S.e = 0 ∧ 0 ≤ n ∧ n ≤ S.left then (S.b.drop S.at_).take n.toNat else []
def Cur.took (S : Cur) (n : Int) : Cur := if S.e ≠ 0 then S else if n < 0 then S.fail 3 else if n > S.left then S.fail 2 else { S with at_ := S.at_ + n.toNat }

def BytesIs (xs : List UInt8) (w0 : World) (v : Value) (w : World) : Prop := Own kByte 5 w w0.heap.size 0 v xs

set_option maxRecDepth 100000 in
theorem wr_drewN (b e w n) : Wr b e w (w.drewN n) := ⟨rfl, rfl, rfl, Nat.le_refl _, fun _ _ _ => rfl, fun _ _ _ _ _ h => h, fun _ _ _ h => h⟩

set_option maxRecDepth 100000 in
theorem bytes_ok (w : World) (g : Nat) (S : Cur) (n : Int) (h : CurAt w g S) (hl : S.b.length ≤ 140737488355328) (hn0 : -9223372036854775808 ≤ n) (hn1 : n ≤ 9223372036854775807) :
    Calls Tryz.prog 142 #[.pointer (some ⟨g, 0, none⟩), .int .i64 n] w (CurPost w g (S.took n) (BytesIs (S.take n) w)) := by
  obtain ⟨A, c, h0, hr, h1, h2, h3, h4, h5, h6⟩ := h.cells
  have H := Lib.hid h
  by_cases he : S.e = 0
  · have he' : (S.e != 0) = false := by simp [he]
    by_cases hn : n < 0
    · have hT : S.took n = S.fail 3 := by simp [Cur.took, he, hn]
      have hV : S.take n = [] := by simp [Cur.take]; omega
      have hT' := Lib.hid hT; have hV' := Lib.hid hV; clear he hT hV h
      go_enter Tryz.func142, Tryz.ntmps142
      go_wp2_with (go_at_call 160; refine (fail_ok _ g S 3 H.out).mono ?_; rintro e w1 ⟨⟨v1, rfl⟩, HC, HW⟩)
      go_ret
      exact ⟨_, rfl, by rw [hV'.out]; exact Own.nil _ _ _ _ _, by rw [hT'.out]; exact HC, HW⟩
    · by_cases hg : n > S.left
      · have hT : S.took n = S.fail 2 := by simp [Cur.took, he, hn, hg]
        have hV : S.take n = [] := by simp [Cur.take]; omega
        have hg' : decide ((S.b.length : Int) - S.at_ < n) = true := by simp; unfold Cur.left at hg; omega
        have hT' := Lib.hid hT; have hV' := Lib.hid hV; clear he hT hV h
        go_enter Tryz.func142, Tryz.ntmps142
        go_wp2_with fail
        refine (left_ok _ g S H.out).mono ?_
        rintro e w1 ⟨rfl, m, rfl⟩
        have H1 : CurAt (w.drewN m) g S := H.out
        go_wp2_with (go_at_call 160; refine (fail_ok _ g S 2 H1).mono ?_; rintro e w1 ⟨⟨v1, rfl⟩, HC, HW⟩)
        go_ret
        exact ⟨_, rfl, by rw [hV'.out]; exact Own.nil _ _ _ _ _, by rw [hT'.out]; exact HC, (wr_drewN _ _ _ _).trans HW⟩
      · have hleft : n ≤ (S.b.length : Int) - S.at_ := by unfold Cur.left at hg; omega
        have hT : S.took n = { S with at_ := S.at_ + n.toNat } := by simp [Cur.took, he, hn, hg]
        have hV : S.take n = (S.b.drop S.at_).take n.toNat := by simp [Cur.take, he]; omega
        have hg' : decide ((S.b.length : Int) - S.at_ < n) = false := by simp; omega
        have hT' := Lib.hid hT; have hV' := Lib.hid hV; clear he hT hV h
        go_enter Tryz.func142, Tryz.ntmps142
        go_wp2_with fail
        refine (left_ok _ g S H.out).mono ?_
        rintro e w1 ⟨rfl, m, rfl⟩
        have H1 : CurAt (w.drewN m) g S := H.out
        go_wp2_with fail
        obtain ⟨H2, HW⟩ := H1.setAt ((S.at_ : Int) + n) (by omega) (by omega)
        generalize (w.drewN m).setCell ⟨g, 1, none⟩ (.int .i64 ((S.at_ : Int) + n)) = w2 at *
        obtain ⟨k, rfl⟩ := Int.eq_ofNat_of_zero_le (show 0 ≤ n by omega)
        obtain ⟨A', c', g0, gr, g1, g2, g3, g4, g5, g6⟩ := H2.cells
        simp only [show ((S.at_ : Int) + (k : Int)).toNat = S.at_ + k from by omega, Int.natCast_add] at g0 gr g1 g2 H2
        obtain ⟨v', hsl, hr'⟩ := gr.runLH Tryz.underlying36 Tryz.i5 .i64 .i64 (S.at_ : Int) ((S.at_ : Int) + k) (by omega) (by omega) (by omega)
        have hwr : IntKind.i64.wrap (S.at_ : Int) = (S.at_ : Int) := IntWalk.i64_in _ (by omega)
        clear h0 hr h1 h2 h3 h4
        go_still_tail 15, (by kernel_rfl)
        change wpList _ _ _ _ _ w2.drew
        clear hwr hsl
        go_wp2_with (go_at_call 102; refine (clone_ok _ 0 _ _ (hr'.below (w' := w2.drew) ⟨rfl, rfl, rfl, Nat.le_refl _, fun _ _ => rfl⟩) (by simp only [List.length_drop, List.length_take]; omega)).mono ?_; rintro e w3 ⟨v3, rfl, HO, HB⟩)
        go_ret
        have hb2 : Below w2.heap.size w2 w2.drew := (Below.refl _ _).drew
        refine ⟨_, rfl, ?_, ?_, (wr_drewN _ _ _ _).trans (HW.trans ((Wr.of_below hb2).trans (Wr.of_below HB)))⟩
        · rw [hV'.out]
          have e : (S.b.take ((S.at_ : Int) + k).toNat).drop (S.at_ : Int).toNat = (S.b.drop S.at_).take (k : Int).toNat := by
            rw [List.drop_take]; congr 1; omega
          rw [e] at HO
          exact HO.weaken (by have := HW.size; exact this) (Nat.le_refl _)
        · rw [hT'.out]
          exact (H2.below hb2).below HB
  · have he' : (S.e != 0) = true := by simp [he]
    have hT : S.took n = S := by simp [Cur.took, he]
    have hV : S.take n = [] := by simp [Cur.take, he]
    have hT' := Lib.hid hT; have hV' := Lib.hid hV; clear he hT hV h
    go_enter Tryz.func142, Tryz.ntmps142
    go_wp2_with fail
    go_ret
    exact ⟨_, rfl, by rw [hV'.out]; exact Own.nil _ _ _ _ _, by rw [hT'.out]; exact H.out, Wr.refl _ _ _⟩
def Cur.byte (S : Cur) : Nat := ((S.take 1)[0]?.getD 0).toNat
def IntIs (n : Int) (v : Value) (_ : World) : Prop := v = .int .i64 n

theorem take1_len (S : Cur) : (S.take 1).length ≤ 1 := by unfold Cur.take; split <;> simp; omega

set_option maxRecDepth 100000 in
theorem byte_ok (w : World) (g : Nat) (S : Cur) (h : CurAt w g S) (hl : S.b.length ≤ 140737488355328) :
    Calls Tryz.prog 103 #[.pointer (some ⟨g, 0, none⟩)] w (CurPost w g (S.took 1) (IntIs S.byte)) := by
  have hb : S.byte < 256 := by unfold Cur.byte; exact UInt8.toNat_lt _
  have ht := take1_len S
  have H := Lib.hid h; clear h
  go_enter Tryz.func103, Tryz.ntmps103
  go_wp2_with fail
  refine (bytes_ok _ g S 1 H.out hl (by omega) (by omega)).mono ?_
  rintro e w1 ⟨v1, rfl, HO, HC, HW⟩
  obtain ⟨A, c, rfl, h1, h2⟩ := HO.form
  by_cases hx : (S.take 1).length = 1
  · have hx' : (((S.take 1).length : Int) == 1) = true := by simp [hx]
    obtain ⟨b, off, cs, rfl, hk, hc⟩ := HO.rd.at (i := 0) (by omega)
    obtain rfl := hk
    have hc0 := hc 0 _ rfl
    simp only [Nat.zero_mul, Nat.add_zero] at hc0
    have hv : ((S.take 1)[0]).toNat = S.byte := by unfold Cur.byte; simp [hx]
    rw [hv] at hc0
    have hlt : 0 < (S.take 1).length := by omega
    have HX := Lib.hid hx; clear hv hc; clear hx
    go_wp2
    go_ret
    exact ⟨_, rfl, rfl, HC, HW⟩
  · have hx' : (((S.take 1).length : Int) == 1) = false := by simp; omega
    have hz : S.byte = 0 := by unfold Cur.byte; rw [List.getElem?_eq_none (by omega)]; rfl
    have HZ := Lib.hid hz
    have HX := Lib.hid hx; clear hx hz
    go_wp2
    go_ret
    exact ⟨_, rfl, by rw [HZ.out]; rfl, HC, HW⟩

set_option maxRecDepth 100000 in
theorem new_ok (w : World) (B : Nat) (v : Value) (xs : List UInt8) (h : Rd kByte 5 w B v xs) (hl : xs.length ≤ 140737488355328) :
    Calls Tryz.prog 45 #[v] w fun en w' => ∃ g, en = .returned (.pointer (some ⟨g, 0, none⟩)) ∧ w.heap.size ≤ g ∧ CurAt w' g ⟨xs, 0, 0⟩ ∧ Below w.heap.size w w' := by
  have hu := Tryz.underlying163
  go_enter Tryz.func45, Tryz.ntmps45
  go_wp2_with (go_at_call 102; refine (clone_ok _ B _ _ h hl).mono ?_; rintro e w1 ⟨v1, rfl, HO, HB⟩; obtain ⟨A1, c1, rfl, _, _⟩ := HO.form)
  go_ret
  have hb := HB.size
  have hr := (HO.rd (B := 0)).below (below_alloc (.cells #[.slice A1 xs.length c1, .int .i64 0, .int .i64 0] 163))
  exact ⟨_, rfl, hb, ⟨_, heap_alloc_new w1 _, hr, by simp⟩, below_step HB HB.size (below_alloc _)⟩

def Cur.end_ (S : Cur) : Int := if S.e = 0 ∧ S.left > 0 then 2 else S.e
set_option maxRecDepth 100000 in
theorem end_ok (w : World) (g : Nat) (S : Cur) (h : CurAt w g S) : Calls Tryz.prog 52 #[.pointer (some ⟨g, 0, none⟩)] w fun en w' => en = .returned (.int .i64 S.end_) ∧ ∃ n, w' = w.drewN n := by
  obtain ⟨A, c, h0, hr, h1, h2, h3, h4, h5, h6⟩ := h.cells
  have H := Lib.hid h; clear h
  by_cases he : S.e = 0
  · have he' : (S.e == 0) = true := by simp [he]
    by_cases hg : S.at_ < S.b.length
    · have hE : S.end_ = 2 := by unfold Cur.end_ Cur.left; rw [if_pos ⟨he, by omega⟩]
      have HE := Lib.hid hE; have HZ := Lib.hid he; clear hE he
      have hd : decide (0 < (S.b.length : Int) - S.at_) = true := by simp; omega
      go_enter Tryz.func52, Tryz.ntmps52
      go_wp2_with (go_at_call 51; refine (left_ok _ g S H.out).mono ?_; rintro e w1 ⟨rfl, m, rfl⟩)
      go_ret
      exact ⟨by rw [HE.out]; rfl, _, rfl⟩
    · have hE : S.end_ = 0 := by unfold Cur.end_ Cur.left; rw [if_neg (by omega), he]
      have HE := Lib.hid hE; have HZ := Lib.hid he; clear hE
      have hd : decide (0 < (S.b.length : Int) - S.at_) = false := by simp; omega
      clear he
      go_enter Tryz.func52, Tryz.ntmps52
      go_wp2_with (go_at_call 51; refine (left_ok _ g S H.out).mono ?_; rintro e w1 ⟨rfl, m, rfl⟩)
      go_ret
      exact ⟨by rw [HE.out, HZ.out]; rfl, _, rfl⟩
  · have he' : (S.e == 0) = false := by simp [he]
    have hE : S.end_ = S.e := by unfold Cur.end_; rw [if_neg (by omega)]
    have HE := Lib.hid hE; have HZ := Lib.hid he; clear hE he
    go_enter Tryz.func52, Tryz.ntmps52
    go_wp2_with (go_at_call 51; refine (left_ok _ g S H.out).mono ?_; rintro e w1 ⟨rfl, m, rfl⟩)
    go_ret
    exact ⟨by rw [HE.out]; rfl, 0, rfl⟩

end Go.Proofs.YtpjbibcjefkcaaaGreat
