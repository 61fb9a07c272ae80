import Derived.Test.YtpjbibcjefkcaaaGreatV8
namespace Go.Proofs.YtpjbibcjefkcaaaGreat
open Go.RowKit

theorem Tryz.i36 : (Tryz.prog.info? 36).map (fun i => (i.zero, i.size, i.bytes)) = some (some (.slice none 0 0), 1, 24) := by kernel_rfl

set_option maxRecDepth 100000 in
theorem dlen_ok (w : World) (g : Nat) (l : List Str) (h : DictAt w g l) : Calls Tryz.prog 58 #[.pointer (some ⟨g, 0, none⟩)] w fun en w' => en = .returned (.int .i64 (l.length : Int)) ∧ w = w' := by
  obtain ⟨v, h1, h2⟩ := h
  obtain ⟨A, c, rfl, _, _⟩ := h2.form
  have h0 : w.cell? ⟨g, 0, none⟩ = some (.slice A l.length c) := by simp [World.cell?, h1]
  have hu := Tryz.underlying171
  go_enter Tryz.func58, Tryz.ntmps58
  go_wp2
  go_ret
  exact ⟨rfl, rfl⟩
set_option maxRecDepth 100000 in
theorem dat_ok (w : World) (g : Nat) (l : List Str) (i : Nat) (h : DictAt w g l) (hi : i < l.length) : Calls Tryz.prog 60 #[.pointer (some ⟨g, 0, none⟩), .int .i64 (i : Int)] w fun en w' => en = .returned (.string ⟨(l[i]'hi).toArray⟩) ∧ w = w' := by
  obtain ⟨v, h1, h2⟩ := h
  obtain ⟨A, c, rfl, _, _⟩ := h2.form
  have h0 : w.cell? ⟨g, 0, none⟩ = some (.slice A l.length c) := by simp [World.cell?, h1]
  obtain ⟨b, off, cs, rfl, ⟨rfl, _⟩, hc⟩ := h2.at hi
  have hc0 := hc 0 _ rfl
  simp only [Nat.add_zero, show kStr.sz = 1 from rfl, Nat.mul_one] at hc0
  have hu := Tryz.underlying171
  generalize l[i] = x at *
  clear hc h1 h2
  have hd : decide ((i : Int) < 0) = false := by simp
  go_enter Tryz.func60, Tryz.ntmps60
  go_wp2
  go_ret
  exact ⟨rfl, rfl⟩

/-- Byte strings that are cut: of these sizes, each at most so long. -/
def cutFix (S : Cur) (most k : Nat) : Cur := if most < k then S.fail 3 else S
def cutIt (most : Nat) : List Nat → Cur → Cur × List Str
  | [], S => (S, [])
  | k :: ks, S => ((cutIt most ks ((cutFix S most k).took k)).1, (cutFix S most k).take k :: (cutIt most ks ((cutFix S most k).took k)).2)
def Cur.cut (S : Cur) (n : Int) (most : Nat) : List Str × Cur :=
  if ((S.pack 4096).1.length : Int) ≠ n then ([], (S.pack 4096).2.fail 3) else ((cutIt most (S.pack 4096).1 (S.pack 4096).2).2, (cutIt most (S.pack 4096).1 (S.pack 4096).2).1)
@[simp] theorem cutFix_b (S : Cur) (most k : Nat) : (cutFix S most k).b = S.b := by unfold cutFix; split <;> simp
def BssAre (xs : List Str) (w0 : World) (v : Value) (w : World) : Prop := Own kBs 36 w w0.heap.size 0 v xs
theorem pack_lt (S : Cur) (many : Int) : ∀ x ∈ (S.pack many).1, x < 4294967296 := by
  unfold Cur.pack; simp only; split
  · simp
  · next hk =>
    split
    · simp
    · split
      · simp
      · intro x hx
        simp only [unpack, List.mem_map] at hx
        obtain ⟨i, _, rfl⟩ := hx
        have h1 := pget_lt ((((S.mostS many).took 1).take (psize (S.mostV many) (S.mostS many).byte))) (S.mostS many).byte i
        have h2 : 2 ^ (S.mostS many).byte ≤ 2 ^ 32 := Nat.pow_le_pow_right (by decide) (by omega)
        have h3 : (2 : Nat) ^ 32 = 4294967296 := by decide
        omega

set_option maxRecDepth 100000 in
set_option maxHeartbeats 1600000 in
theorem cut_ok (w : World) (g : Nat) (S : Cur) (n : Int) (most : Nat) (h : CurAt w g S) (hl : S.b.length ≤ 140737488355328) (hm : most ≤ 1000000) :
    Calls Tryz.prog 161 #[.pointer (some ⟨g, 0, none⟩), .int .i64 n, .int .i64 (most : Int)] w (CurPost w g (S.cut n most).2 (BssAre (S.cut n most).1 w)) := by
  generalize hP : S.cut n most = P
  unfold Cur.cut at hP
  go_enter Tryz.func161, Tryz.ntmps161
  go_wp2_with fail
  refine (pread_ok w g S 4096 h hl (by decide) (by decide)).mono ?_
  rintro e w1 ⟨v1, rfl, HO1, HC1, HW1⟩
  have hpl := pack_len S 4096 (by decide)
  have hplt := pack_lt S 4096
  have hb1 : (S.pack 4096).2.b.length ≤ 140737488355328 := by rw [pack_b]; exact hl
  generalize S.pack 4096 = p at *
  obtain ⟨sizes, S1⟩ := p
  simp only at hP HO1 HC1 hpl hb1 hplt
  have HP := Lib.hid hP; clear hP
  obtain ⟨A1, c1, rfl, _, _⟩ := HO1.form
  have hil : (ints sizes).length = sizes.length := ints_len sizes
  rw [hil] at *
  have HOS := HO1.rd (B := 0)
  clear HO1
  by_cases hn : (sizes.length : Int) = n
  · have hne : ((sizes.length : Int) != n) = false := by simp [hn]
    have hP : P = ((cutIt most sizes S1).2, (cutIt most sizes S1).1) := by rw [← HP.out, if_neg (by simpa using hn)]
    have HP2 := Lib.hid hP; clear HP hP
    have HPL := Lib.hid hplt; clear hplt
    go_wp2_with fail
    go_loopw [8, 21] (fun ov i wr => ∃ (j : Nat) (S' : Cur) (out : List Str), i = .int .i64 (j : Int) ∧ j ≤ sizes.length ∧ out.length = j ∧ (cutIt most (sizes.drop j) S').1 = P.2 ∧ out ++ (cutIt most (sizes.drop j) S').2 = P.1 ∧ S'.b = S1.b ∧ Own kBs 36 wr w1.heap.size 0 ov out ∧ CurAt wr g S' ∧ Wr g 163 w1 wr) (fun _ i _ => sizes.length - (intOf i).toNat)
    case atStart => exact ⟨0, S1, [], rfl, by omega, rfl, by rw [HP2.out]; rfl, by rw [HP2.out]; rfl, rfl, Own.nil _ _ _ _ _, HC1, Wr.refl _ _ _⟩
    case round =>
      obtain ⟨j, S', out, rfl, hj, hol, hs1, hs2, hbb, HO, HC, HW⟩ := hrel
      have hb4 : S'.b.length ≤ 140737488355328 := by rw [hbb]; exact hb1
      have HOL := Lib.hid hol; clear hol
      obtain ⟨A5, c5, rfl, _, _⟩ := HO.form
      by_cases hlt : j < sizes.length
      · have hd : sizes.drop j = sizes[j] :: sizes.drop (j + 1) := (List.getElem_cons_drop hlt).symm
        rw [hd] at hs1 hs2
        have HOSr := HOS.mono (HW.keep (Nat.zero_le _) (by decide))
        obtain ⟨b0, off0, cs0, rfl, ⟨rfl, _⟩, hc0⟩ := HOSr.at (i := j) (by rw [ints_len]; exact hlt)
        have hx := hc0 0 _ rfl
        have hgi : (ints sizes)[j]'(by rw [ints_len]; exact hlt) = (sizes[j] : Int) := by simp [ints]
        rw [hgi] at hx
        simp only [Nat.add_zero, show (kInt .i64).sz = 1 from rfl, Nat.mul_one] at hx
        have hslt := HPL.out sizes[j] (List.getElem_mem hlt)
        have hs1' : (cutIt most (sizes.drop (j + 1)) ((cutFix S' most sizes[j]).took sizes[j])).1 = P.2 := hs1
        have hs2' : (out ++ [(cutFix S' most sizes[j]).take sizes[j]]) ++ (cutIt most (sizes.drop (j + 1)) ((cutFix S' most sizes[j]).took sizes[j])).2 = P.1 := by rw [← hs2]; simp [cutIt]
        have HS1 := Lib.hid hs1'; have HS2 := Lib.hid hs2'
        have hfb : (cutFix S' most sizes[j]).b = S1.b := by simp [hbb]
        have hfx : cutFix S' most sizes[j] = if most < sizes[j] then S'.fail 3 else S' := rfl
        have HFX := Lib.hid hfx
        clear hs1 hs2 hs1' hs2' hd hc0 hgi hfx
        generalize sizes[j] = k at *
        generalize hrst : sizes.drop (j + 1) = rst at *
        have HRST := Lib.hid hrst; clear hrst
        generalize cutFix S' most k = S6 at *
        have hb6 : S6.b.length ≤ 140737488355328 := by rw [hfb]; exact hb1
        have htb : (S6.took k).b = S1.b := by simp [hfb]
        by_cases hk : most < k
        · have h6 : S'.fail 3 = S6 := by rw [HFX.out, if_pos hk]
          have H6 := Lib.hid h6; clear h6 HFX
          have hlim : (out.length + 1) * 24 ≤ 140737488355328 := by rw [HOL.out]; omega
          go_wp2_with (first | (go_at_call 160; refine (fail_ok _ g S' 3 HC).mono ?_; rintro e w6 ⟨⟨v6, rfl⟩, HC6, HW6⟩; rw [H6.out] at HC6; have hO6 := HO.wr HW6 (by decide) (by decide) (Nat.zero_le _); have hW6 := HW.trans HW6) | (go_at_call 142; refine (bytes_ok w6 g S6 k HC6 hb6 (by omega) (by omega)).mono ?_; rintro e w7 ⟨v7, rfl, HO7, HC7, HW7⟩; obtain ⟨A7, c7, rfl, _, _⟩ := HO7.form; have hO7 := hO6.wr HW7 (by decide) (by decide) (Nat.zero_le _); have hW7 := hW6.trans HW7) | (at_builtin; refine app1 (y := S6.take k) Tryz.underlying39 Tryz.i36 hO7 ⟨_, rfl, HO7.rd⟩ hW7.size hlim ?_; intro v8 w8 HO8 hw8))
          go_roundw
          case rel => exact ⟨j + 1, S6.took k, out ++ [S6.take k], by go_num, by omega, by simp [HOL.out], by rw [HRST.out]; exact HS1.out, by rw [HRST.out]; exact HS2.out, htb, HO8, HC7.wr hw8 (by decide) (by decide), hW7.new hw8 (Nat.le_refl _)⟩
          case measure => simp [intOf]; omega
        · have h6 : S' = S6 := by rw [HFX.out, if_neg hk]
          subst h6
          clear HFX
          have hlim : (out.length + 1) * 24 ≤ 140737488355328 := by rw [HOL.out]; omega
          go_wp2_with (first | (go_at_call 142; refine (bytes_ok wr g S' k HC hb6 (by omega) (by omega)).mono ?_; rintro e w7 ⟨v7, rfl, HO7, HC7, HW7⟩; obtain ⟨A7, c7, rfl, _, _⟩ := HO7.form; have hO7 := HO.wr HW7 (by decide) (by decide) (Nat.zero_le _); have hW7 := HW.trans HW7) | (at_builtin; refine app1 (y := S'.take k) Tryz.underlying39 Tryz.i36 hO7 ⟨_, rfl, HO7.rd⟩ hW7.size hlim ?_; intro v8 w8 HO8 hw8))
          go_roundw
          case rel => exact ⟨j + 1, S'.took k, out ++ [S'.take k], by go_num, by omega, by simp [HOL.out], by rw [HRST.out]; exact HS1.out, by rw [HRST.out]; exact HS2.out, htb, HO8, HC7.wr hw8 (by decide) (by decide), hW7.new hw8 (Nat.le_refl _)⟩
          case measure => simp [intOf]; omega
      · obtain rfl : j = sizes.length := by omega
        rw [List.drop_length] at hs1 hs2
        have h1 : S' = P.2 := hs1
        have h2 : out = P.1 := by rw [← hs2]; simp [cutIt]
        have H1 := Lib.hid h1; have H2 := Lib.hid h2
        clear hs1 hs2 h1 h2
        go_wp2_with fail
        go_ret
        exact ⟨_, rfl, by rw [← H2.out]; exact HO.weaken HW1.size (Nat.le_refl _), by rw [← H1.out]; exact HC, HW1.trans HW⟩
  · have hne : ((sizes.length : Int) != n) = true := by simp [hn]
    have hP : P = ([], S1.fail 3) := by rw [← HP.out, if_pos hn]
    have HP2 := Lib.hid hP; clear HP hP hplt
    go_wp2_with (first | (go_at_call 160; refine (fail_ok w1 g S1 3 HC1).mono ?_; rintro e w4 ⟨⟨v4, rfl⟩, HC4, HW4⟩))
    go_ret
    exact ⟨_, rfl, by rw [HP2.out]; exact Own.nil _ _ _ _ _, by rw [HP2.out]; exact HC4, HW1.trans HW4⟩
end Go.Proofs.YtpjbibcjefkcaaaGreat
