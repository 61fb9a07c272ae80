import Derived.Test.YtpjbibcjefkcaaaGreatW2
namespace Go.Proofs.YtpjbibcjefkcaaaGreat
open Go.RowKit

theorem quiet_mine {P : Program} {f : FuncId} {args : Array Value} {w : World} {n : Nat} {v : Value}
    (h : Calls P f args (w.drewN n) fun e w' => e = .returned v ∧ w.drewN n = w') : Calls P f args (w.drewN n) fun e w'' => e = .returned v ∧ ∃ m, w'' = w.drewN m :=
  h.mono fun _ _ ⟨he, hm⟩ => ⟨he, n, hm.symm⟩

theorem foldl_max_ge (l : List Int) : ∀ a : Int, a ≤ l.foldl max a ∧ ∀ x ∈ l, x ≤ l.foldl max a := by
  induction l with
  | nil => intro a; simp
  | cons y l ih =>
    intro a
    have := ih (max a y)
    simp only [List.foldl_cons]
    refine ⟨by omega, fun x hx => ?_⟩
    rcases List.mem_cons.1 hx with rfl | hx
    · omega
    · exact this.2 x hx
theorem foldl_max_lt (l : List Int) (M : Int) : ∀ a : Int, a < M → (∀ x ∈ l, x < M) → l.foldl max a < M := by
  induction l with
  | nil => intro a h _; exact h
  | cons y l ih =>
    intro a h hx
    simp only [List.foldl_cons]
    exact ih _ (by have := hx y (List.mem_cons_self ..); omega) fun x h => hx x (List.mem_cons_of_mem _ h)
@[simp] theorem fopenN_b (n block : Nat) (ss : List Nat) : ∀ (i : Nat) (S : Cur) (l : List Str), (fopenN n block ss i S l).1.b = S.b := by
  induction ss with
  | nil => intro i S l; rfl
  | cons s ss ih => intro i S l; unfold fopenN; split <;> simp [ih]
@[simp] theorem dict_b (S : Cur) : S.dict.2.b = S.b := by
  unfold Cur.dict; simp only; split
  · simp [pack_b]
  · split
    · simp [pack_b]
    · split <;> split <;> simp [pack_b]

/-- Codes that aren't a dictionary's. -/
def codBad (l : List Str) (codes : List Nat) (n : Int) : Bool := decide ((codes.length : Int) ≠ n) || (decide (0 < n) && decide ((l.length : Int) ≤ (ints codes).foldl max 0))
def codOut (l : List Str) (codes : List Nat) : List Str := codes.map fun i => l.getD i []

def codedOut (l : List Str) (codes : List Nat) (n : Int) : List Str := if codBad l codes n = true then [] else codOut l codes
def codedCur (l : List Str) (codes : List Nat) (n : Int) (S : Cur) : Cur := if codBad l codes n = true then S.fail 3 else S

set_option maxRecDepth 100000 in
set_option maxHeartbeats 1600000 in
theorem coded_ok (w0 w : World) (g gx : Nat) (S : Cur) (X : Chk) (v1 v6 : Value) (n : Int) (h : CurAt w g S) (hl : S.b.length ≤ 140737488355328) (hx : ChAt w gx X v1 v6) (hW : Wr g 163 w0 w) (hgx : w0.heap.size ≤ gx) :
    Calls Tryz.prog 163 #[.pointer (some ⟨gx, 0, none⟩), .pointer (some ⟨g, 0, none⟩), .int .i64 n] w
      (ChPost w0 w g gx v1 v6 (codedOut S.dict.1 (S.dict.2.pack 4096).1 n) (codedCur S.dict.1 (S.dict.2.pack 4096).1 n (S.dict.2.pack 4096).2)
        { X with dict := some S.dict.1, codes := (S.dict.2.pack 4096).1 }) := by
  have hu := Tryz.underlying165
  go_enter Tryz.func163, Tryz.ntmps163
  go_wp2_with fail
  refine (dict_ok w g S h hl).mono ?_
  rintro e w1 ⟨x1, rfl, ⟨gd, rfl, hgd, HD1⟩, HC1, HW1⟩
  have hX1 := hx.wr HW1 (by decide)
  have hb1 : S.dict.2.b.length ≤ 140737488355328 := by simpa using hl
  generalize S.dict = p at *
  obtain ⟨T, S1⟩ := p
  simp only at HD1 HC1 hb1 ⊢
  obtain ⟨hX2, hw2⟩ := hX1.setDict (v := .pointer (some ⟨gd, 0, none⟩)) (o := some T) ⟨gd, rfl, HD1⟩
  have HC2 := HC1.wr hw2 (by decide) (by decide)
  have hK2 : Ks w (w1.setCell ⟨gx, 4, none⟩ (.pointer (some ⟨gd, 0, none⟩))) := (Ks.of1 HW1).trans (Ks.of5 hw2)
  have hW2 : Wr g 163 w0 (w1.setCell ⟨gx, 4, none⟩ (.pointer (some ⟨gd, 0, none⟩))) := (hW.trans HW1).new hw2 hgx
  obtain ⟨A2, c2, A3, c3, p4, A5, c5, q0, q1, q2, q3, q4, q5, q6, qf, _⟩ := hX1.cells
  have qf4 := qf 4
  go_wp2_with fail
  clear q0 q1 q2 q3 q4 q5 q6 qf qf4 hX1 hw2
  generalize w1.setCell ⟨gx, 4, none⟩ (.pointer (some ⟨gd, 0, none⟩)) = w2 at *
  refine (pread_ok w2 g S1 4096 HC2 hb1 (by decide) (by decide)).mono ?_
  rintro e w3 ⟨x3, rfl, HO3, HC3, HW3⟩
  have hX3 := hX2.wr HW3 (by decide)
  have hpl := pack_len S1 4096 (by decide)
  have hb3 : (S1.pack 4096).2.b.length ≤ 140737488355328 := by rw [pack_b]; exact hb1
  generalize S1.pack 4096 = p at *
  obtain ⟨R, S3⟩ := p
  simp only at HO3 HC3 hb3 hpl ⊢
  obtain ⟨A3', c3', rfl, _, _⟩ := HO3.form
  rw [ints_len] at HO3
  obtain ⟨hX4, hw4⟩ := hX3.setCodes (l := R) HO3.rd
  have HC4 := HC3.wr hw4 (by decide) (by decide)
  have hK4 : Ks w (w3.setCell ⟨gx, 5, none⟩ (.slice A3' R.length c3')) := (hK2.trans (Ks.of1 HW3)).trans (Ks.of5 hw4)
  have hW4 : Wr g 163 w0 (w3.setCell ⟨gx, 5, none⟩ (.slice A3' R.length c3')) := (hW2.trans HW3).new hw4 hgx
  obtain ⟨A2, c2, A3, c3, p4, A5, c5, q0, q1, q2, q3, q4, q5, q6, qf, _⟩ := hX3.cells
  have qf5 := qf 5
  have hil : (ints R).length = R.length := ints_len R
  go_wp2_with fail
  clear q0 q1 q2 q3 q4 q5 q6 qf qf5 hX3 hw4
  generalize w3.setCell ⟨gx, 5, none⟩ (.slice A3' R.length c3') = w4 at *
  obtain ⟨A2, c2, A3, c3, p4, A5, c5, q0, q1, q2, q3, q4, q5, q6, qf, k2, k3, k4, k5⟩ := hX4.cells
  simp only at q4 q5 k4 k5
  obtain ⟨gd', hp4, HD4⟩ := k4
  injection hp4 with hp4
  subst hp4
  have hbd : codBad T R n = (decide ((R.length : Int) ≠ n) || (decide (0 < n) && decide ((T.length : Int) ≤ (ints R).foldl max 0))) := rfl
  by_cases hn : (R.length : Int) = n
  · have hne : ((R.length : Int) != n) = false := by simp [hn]
    by_cases h0 : 0 < n
    · have hRne : ints R ≠ [] := by intro h; rw [← hil, h] at hn; simp at hn; omega
      have hR0 : ∀ x ∈ ints R, 0 ≤ x := by intro x hx; simp only [ints, List.mem_map] at hx; obtain ⟨i, _, rfl⟩ := hx; exact Int.natCast_nonneg _
      have HMX : ∀ m, Calls Tryz.prog 206 #[.slice A5 R.length c5] (w4.drewN m) fun en w' => en = .returned (.int .i64 ((ints R).foldl max 0)) ∧ w4.drewN m = w' := fun m => max_ok (w4.drewN m) 0 _ (ints R) (k5.below (pw_drewN _ _)) hRne hR0
      have HDL : ∀ m, Calls Tryz.prog 58 #[.pointer (some ⟨gd', 0, none⟩)] (w4.drewN m) fun en w' => en = .returned (.int .i64 (T.length : Int)) ∧ w4.drewN m = w' := fun m => dlen_ok _ gd' T (HD4.below (pw_drewN _ _))
      have hmx := foldl_max_ge (ints R) 0
      generalize (ints R).foldl max 0 = M at *
      by_cases hM : (T.length : Int) ≤ M
      · have hbt : codBad T R n = true := by rw [hbd]; simp [hn, h0, hM]
        have ho : codedOut T R n = [] := by simp [codedOut, hbt]
        have hcr : codedCur T R n S3 = S3.fail 3 := by simp [codedCur, hbt]
        have HHo := Lib.hid ho; have HHc := Lib.hid hcr
        clear hmx hRne hR0 ho hcr hbt hbd
        go_wp2_with fail
        go_quiet (first | (go_at_call 206; refine quiet_mine (HMX _)) | (go_at_call 58; refine quiet_mine (HDL _)))
        go_wp2_with (first | (go_at_call 160; refine (fail_ok _ g S3 3 (HC4.below (pw_drewN _ _))).mono ?_; rintro e w9 ⟨⟨v9, rfl⟩, HC9, HW9⟩))
        go_ret
        exact ⟨_, rfl, by rw [HHo.out]; exact Own.nil _ _ _ _ _, by rw [HHc.out]; exact HC9, (hX4.below (pw_drewN _ _)).wr HW9 (by decide), (hW4.trans (wr_drewN _ _ _ _)).trans HW9, (hK4.trans (Ks.of_below (pw_drewN _ _))).trans (Ks.of1 HW9)⟩
      · have hbt : codBad T R n = false := by rw [hbd]; simp [hn, h0]; omega
        have ho : codedOut T R n = codOut T R := by simp [codedOut, hbt]
        have hcr : codedCur T R n S3 = S3 := by simp [codedCur, hbt]
        have hRT : ∀ i ∈ R, i < T.length := fun i hi => by have := hmx.2 (i : Int) (List.mem_map.2 ⟨i, hi, rfl⟩); omega
        have HHo := Lib.hid ho; have HHc := Lib.hid hcr
        clear hmx hRne hR0 ho hcr hbt hbd
        go_wp2_with fail
        go_quiet (first | (go_at_call 206; refine quiet_mine (HMX _)) | (go_at_call 58; refine quiet_mine (HDL _)))
        have HCq := HC4.below (pw_drewN w4 nq)
        have hXq := hX4.below (pw_drewN w4 nq)
        have HDq := HD4.below (pw_drewN w4 nq)
        have hWq : Wr g 163 w0 (w4.drewN nq) := hW4.trans (wr_drewN _ _ _ _)
        have hKq : Ks w (w4.drewN nq) := hK4.trans (Ks.of_below (pw_drewN _ _))
        have k5q := k5.below (pw_drewN w4 nq)
        have q5q := below_cell (pw_drewN w4 nq) q5
        have q4q := below_cell (pw_drewN w4 nq) q4
        go_wp2_with fail
        generalize w4.drewN nq = wq at *
        have HRT := Lib.hid hRT; clear hRT
        go_loopw [7, 51] (fun ov i wr => ∃ (j : Nat) (out : List Str), i = .int .i64 (j : Int) ∧ j ≤ R.length ∧ out.length = j ∧ out ++ codOut T (R.drop j) = codOut T R ∧ Own kStr 9 wr wq.heap.size 0 ov out ∧ Wr wq.heap.size 9 wq wr) (fun _ i _ => R.length - (intOf i).toNat)
        case atStart => exact ⟨0, [], rfl, by omega, rfl, rfl, Own.nil _ _ _ _ _, Wr.refl _ _ _⟩
        case round =>
          obtain ⟨j, out, rfl, hj, hol, hs2, HO, HW⟩ := hrel
          have HOL := Lib.hid hol; clear hol
          obtain ⟨A5', c5', rfl, _, _⟩ := HO.form
          by_cases hlt : j < R.length
          · have hd : R.drop j = R[j] :: R.drop (j + 1) := (List.getElem_cons_drop hlt).symm
            rw [hd] at hs2
            obtain ⟨b0, off0, cs0, rfl, ⟨rfl, _⟩, hc0⟩ := (k5q.below HW.grown).at (i := j) (by rw [ints_len]; exact hlt)
            have hx0 := hc0 0 _ rfl
            have hgi : (ints R)[j]'(by rw [ints_len]; exact hlt) = (R[j] : Int) := by simp [ints]
            rw [hgi] at hx0
            simp only [Nat.add_zero, show (kInt .i64).sz = 1 from rfl, Nat.mul_one] at hx0
            have hlt2 := HRT.out _ (List.getElem_mem hlt)
            have hs2' : (out ++ [T.getD R[j] []]) ++ codOut T (R.drop (j + 1)) = codOut T R := by rw [← hs2, List.append_assoc]; rfl
            have HS2 := Lib.hid hs2'
            clear hs2 hs2' hd hc0 hgi
            generalize R[j] = i at *
            have hgt : T.getD i [] = T[i] := by simp [List.getD, hlt2]
            rw [hgt] at HS2
            have hXr := hXq.below HW.grown
            have HDr := HDq.below HW.grown
            have q4r := below_cell HW.grown q4q
            have HA := dat_ok wr gd' T i HDr hlt2
            have hsl : T[i].length ≤ 140737488355328 := by
              obtain ⟨vD, _, hvD⟩ := HDr
              obtain ⟨AD, cD, rfl, _, _⟩ := hvD.form
              obtain ⟨_, _, _, _, ⟨_, hk⟩, _⟩ := hvD.at hlt2
              exact hk
            have hlim : (out.length + 1) * 16 ≤ 140737488355328 := by rw [HOL.out]; omega
            clear hgt
            generalize T[i] = s at *
            go_wp2_with (first | (go_at_call 60; refine HA.mono ?_; rintro e w5 ⟨rfl, rfl⟩) | (at_builtin; refine app1 (y := s) Tryz.underlying52 Tryz.i9 HO ⟨rfl, hsl⟩ HW.size hlim ?_; intro v10 w10 HO10 hw10))
            go_roundw
            case rel => exact ⟨j + 1, out ++ [s], by go_num, by omega, by simp [HOL.out], HS2.out, HO10, HW.trans hw10⟩
            case measure => simp [intOf]; omega
          · obtain rfl : j = R.length := by omega
            rw [List.drop_length] at hs2
            have h2 : out = codOut T R := by rw [← hs2]; simp [codOut]
            have H2 := Lib.hid h2
            clear hs2 h2
            go_wp2_with fail
            go_ret
            exact ⟨_, rfl, by rw [HHo.out, ← H2.out]; exact HO.weaken hWq.size (Nat.le_refl _), by rw [HHc.out]; exact HCq.below HW.grown, hXq.below HW.grown, hWq.new HW hWq.size, hKq.trans (Ks.of_below HW.grown)⟩
    · have hbt : codBad T R n = false := by rw [hbd]; simp [hn, h0]
      have ho : codedOut T R n = codOut T R := by simp [codedOut, hbt]
      have hcr : codedCur T R n S3 = S3 := by simp [codedCur, hbt]
      have hRT : ∀ i ∈ R, i < T.length := fun i hi => by have := List.length_pos_of_mem hi; omega
      have h0d : decide (0 < n) = false := by simpa using h0
      have HHo := Lib.hid ho; have HHc := Lib.hid hcr
      clear ho hcr hbt hbd
      go_wp2_with fail
      go_quiet (fail)
      have HCq := HC4.below (pw_drewN w4 nq)
      have hXq := hX4.below (pw_drewN w4 nq)
      have HDq := HD4.below (pw_drewN w4 nq)
      have hWq : Wr g 163 w0 (w4.drewN nq) := hW4.trans (wr_drewN _ _ _ _)
      have hKq : Ks w (w4.drewN nq) := hK4.trans (Ks.of_below (pw_drewN _ _))
      have k5q := k5.below (pw_drewN w4 nq)
      have q5q := below_cell (pw_drewN w4 nq) q5
      have q4q := below_cell (pw_drewN w4 nq) q4
      go_wp2_with fail
      generalize w4.drewN nq = wq at *
      have HRT := Lib.hid hRT; clear hRT
      go_loopw [7, 51] (fun ov i wr => ∃ (j : Nat) (out : List Str), i = .int .i64 (j : Int) ∧ j ≤ R.length ∧ out.length = j ∧ out ++ codOut T (R.drop j) = codOut T R ∧ Own kStr 9 wr wq.heap.size 0 ov out ∧ Wr wq.heap.size 9 wq wr) (fun _ i _ => R.length - (intOf i).toNat)
      case atStart => exact ⟨0, [], rfl, by omega, rfl, rfl, Own.nil _ _ _ _ _, Wr.refl _ _ _⟩
      case round =>
        obtain ⟨j, out, rfl, hj, hol, hs2, HO, HW⟩ := hrel
        have HOL := Lib.hid hol; clear hol
        obtain ⟨A5', c5', rfl, _, _⟩ := HO.form
        by_cases hlt : j < R.length
        · omega
        · obtain rfl : j = R.length := by omega
          rw [List.drop_length] at hs2
          have h2 : out = codOut T R := by rw [← hs2]; simp [codOut]
          have H2 := Lib.hid h2
          clear hs2 h2
          go_wp2_with fail
          go_ret
          exact ⟨_, rfl, by rw [HHo.out, ← H2.out]; exact HO.weaken hWq.size (Nat.le_refl _), by rw [HHc.out]; exact HCq.below HW.grown, hXq.below HW.grown, hWq.new HW hWq.size, hKq.trans (Ks.of_below HW.grown)⟩
  · have hne : ((R.length : Int) != n) = true := by simp [hn]
    have hbt : codBad T R n = true := by rw [hbd]; simp [hn]
    have ho : codedOut T R n = [] := by simp [codedOut, hbt]
    have hcr : codedCur T R n S3 = S3.fail 3 := by simp [codedCur, hbt]
    have HHo := Lib.hid ho; have HHc := Lib.hid hcr
    clear ho hcr hbt hbd
    go_wp2_with fail
    go_quiet (fail)
    go_wp2_with (first | (go_at_call 160; refine (fail_ok _ g S3 3 (HC4.below (pw_drewN _ _))).mono ?_; rintro e w9 ⟨⟨v9, rfl⟩, HC9, HW9⟩))
    go_ret
    exact ⟨_, rfl, by rw [HHo.out]; exact Own.nil _ _ _ _ _, by rw [HHc.out]; exact HC9, (hX4.below (pw_drewN _ _)).wr HW9 (by decide), (hW4.trans (wr_drewN _ _ _ _)).trans HW9, (hK4.trans (Ks.of_below (pw_drewN _ _))).trans (Ks.of1 HW9)⟩
end Go.Proofs.YtpjbibcjefkcaaaGreat
