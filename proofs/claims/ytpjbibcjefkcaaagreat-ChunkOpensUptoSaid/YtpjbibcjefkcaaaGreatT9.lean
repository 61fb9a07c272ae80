import Derived.Test.YtpjbibcjefkcaaaGreatT8
namespace Go.Proofs.YtpjbibcjefkcaaaGreat
open Go.RowKit

theorem Wr.new {g e b e' : Nat} {w W W' : World} (h : Wr g e w W) (k : Wr b e' W W') (hb : w.heap.size ≤ b) : Wr g e w W' :=
  ⟨k.os.trans h.os, k.tape.trans h.tape, k.output.trans h.output, Nat.le_trans h.size k.size,
    fun i hg hs => (k.low i (Nat.lt_of_lt_of_le hs hb) (Nat.lt_of_lt_of_le hs h.size)).trans (h.low i hg hs),
    fun i c t fr ht hc => (k.low i (Nat.lt_of_lt_of_le (lt_of_some hc) hb) (Nat.lt_of_lt_of_le (lt_of_some hc) h.size)).trans (h.typed i c t fr ht hc),
    fun i o ho hc => (k.low i (Nat.lt_of_lt_of_le (lt_of_some hc) hb) (Nat.lt_of_lt_of_le (lt_of_some hc) h.size)).trans (h.other i o ho hc)⟩

def ints (l : List Nat) : List Int := l.map Int.ofNat
theorem nats_ints (l : List Nat) : nats (ints l) = l := by simp [nats, ints, Function.comp_def]
theorem ints_len (l : List Nat) : (ints l).length = l.length := by simp [ints]

/-- Numbers that are read: as they were written, alone. -/
def unpack (b : List UInt8) (n k : Nat) : List Nat := (List.range n).map (pget b k)
def Cur.pack (S : Cur) (many : Int) : List Nat × Cur :=
  let n := S.mostV many
  let S1 := S.mostS many
  let k := S1.byte
  let S2 := S1.took 1
  if 32 < k then ([], S2.fail 3) else
  let b := S2.take (psize n k)
  let S3 := S2.took (psize n k)
  if b.length < psize n k then ([], S3) else
  let out := unpack b n k
  if pwidth (ints out) ≠ k ∨ pput out k ≠ b then ([], S3.fail 3) else (out, S3)
def IntsAre (xs : List Nat) (w0 : World) (v : Value) (w : World) : Prop := Own (kInt .i64) 3 w w0.heap.size 0 v (ints xs)

theorem pget_lt (b : List UInt8) (k i : Nat) : pget b k i < 2 ^ k := pgetTo_lt _ _ _
theorem may_unpack (b : List UInt8) (n k : Nat) (hk : k ≤ 32) : may (ints (unpack b n k)) := by
  intro x hx
  simp only [ints, unpack, List.map_map, List.mem_map, Function.comp_apply] at hx
  obtain ⟨i, _, rfl⟩ := hx
  have h1 := pget_lt b k i
  have h2 : 2 ^ k ≤ 2 ^ 32 := Nat.pow_le_pow_right (by decide) hk
  have h3 : (2 : Nat) ^ 32 = 4294967296 := by decide
  exact ⟨Int.natCast_nonneg _, by show ((pget b k i : Nat) : Int) ≤ _; omega⟩
theorem fits_unpack (b : List UInt8) (n k : Nat) : fits (ints (unpack b n k)) k := by
  intro x hx
  simp only [ints, unpack, List.map_map, List.mem_map, Function.comp_apply] at hx
  obtain ⟨i, _, rfl⟩ := hx
  exact ⟨Int.natCast_nonneg _, pget_lt b k i⟩
theorem unpack_snoc (b : List UInt8) (n k : Nat) : unpack b (n + 1) k = unpack b n k ++ [pget b k n] := by simp [unpack, List.range_succ]

set_option maxRecDepth 100000 in
set_option maxHeartbeats 800000 in
theorem pread_ok (w : World) (g : Nat) (S : Cur) (many : Int) (h : CurAt w g S) (hl : S.b.length ≤ 140737488355328) (hm0 : 0 ≤ many) (hm : many ≤ 65536) :
    Calls Tryz.prog 202 #[.pointer (some ⟨g, 0, none⟩), .int .i64 many] w (CurPost w g (S.pack many).2 (IntsAre (S.pack many).1 w)) := by
  have hn := S.mostV_le many hm0
  have hk : (S.mostS many).byte < 256 := by unfold Cur.byte; exact UInt8.toNat_lt _
  have hb1 : (S.mostS many).b.length ≤ 140737488355328 := by simpa using hl
  have hb2 : ((S.mostS many).took 1).b.length ≤ 140737488355328 := by simpa using hl
  generalize hP : S.pack many = P
  unfold Cur.pack at hP
  go_enter Tryz.func202, Tryz.ntmps202
  go_wp2_with fail
  refine (most_ok w g S many h hl).mono ?_
  rintro e w1 ⟨v1, rfl, rfl, HC1, HW1⟩
  generalize S.mostV many = n at *
  generalize S.mostS many = S1 at *
  go_wp2_with fail
  refine (byte_ok w1 g S1 HC1 hb1).mono ?_
  rintro e w2 ⟨v2, rfl, rfl, HC2, HW2⟩
  generalize S1.byte = k at *
  generalize S1.took 1 = S2 at *
  by_cases hk32 : 32 < k
  · rw [if_pos hk32] at hP
    have HP := Lib.hid hP; clear hP
    go_wp2_with fail
    refine (fail_ok w2 g S2 3 HC2).mono ?_
    rintro e w3 ⟨⟨v3, rfl⟩, HC3, HW3⟩
    go_wp2_with fail
    go_ret
    exact ⟨_, rfl, by rw [← HP.out]; exact Own.nil _ _ _ _ _, by rw [← HP.out]; exact HC3, HW1.trans (HW2.trans HW3)⟩
  · rw [if_neg hk32] at hP
    have HP := Lib.hid hP; clear hP
    have hs : psize n k ≤ 262145 := by
      have := Nat.mul_le_mul (show n ≤ 65536 by omega) (show k ≤ 32 by omega)
      unfold psize; omega
    go_wp2_with fail
    refine (psize_ok_ n k w2 (by omega) (by omega) (by omega) (by omega)).mono ?_
    rintro e w3 ⟨rfl, rfl⟩
    simp only [Int.toNat_natCast]
    generalize hsz : psize n k = s at *
    have HSZ := Lib.hid hsz; clear hsz
    go_wp2_with fail
    refine (bytes_ok w2 g S2 s HC2 hb2 (by omega) (by omega)).mono ?_
    rintro e w3 ⟨v3, rfl, HO3, HC3, HW3⟩
    generalize S2.take s = b at *
    generalize S2.took s = S3 at *
    obtain ⟨A3, c3, rfl, k31, k32⟩ := HO3.form
    go_wp2_with fail
    refine (psize_ok_ n k w3 (by omega) (by omega) (by omega) (by omega)).mono ?_
    rintro e w4 ⟨rfl, rfl⟩
    simp only [Int.toNat_natCast]
    rw [HSZ.out]
    by_cases hbs : b.length < s
    · have hd : decide ((b.length : Int) < (s : Int)) = true := by simp [hbs]
      have hP := HP.out
      rw [if_pos hbs] at hP
      have HP2 := Lib.hid hP; clear hP
      go_wp2_with fail
      go_ret
      exact ⟨_, rfl, by rw [← HP2.out]; exact Own.nil _ _ _ _ _, by rw [← HP2.out]; exact HC3, HW1.trans (HW2.trans HW3)⟩
    · have hd : decide ((b.length : Int) < (s : Int)) = false := by simp; omega
      have hP := HP.out
      rw [if_neg hbs] at hP
      have HP2 := Lib.hid hP; clear hP HP
      have HB3 := HO3.rd (B := 0)
      have hW3 := HW1.trans (HW2.trans HW3)
      go_wp2_with fail
      go_loopw [8, 33] (fun v i wr => ∃ j : Nat, j ≤ n ∧ i = .int .i64 (j : Int) ∧ Own (kInt .i64) 3 wr w.heap.size 0 v (ints (unpack b j k)) ∧ CurAt wr g S3 ∧ Rd kByte 5 wr 0 (.slice A3 b.length c3) b ∧ Wr g 163 w wr) (fun _ i _ => n - (intOf i).toNat)
      case atStart => exact ⟨0, by omega, rfl, Own.nil _ _ _ _ _, HC3, HB3, hW3⟩
      case round =>
        obtain ⟨j, hj, rfl, HO, HC, HR, HW⟩ := hrel
        by_cases hlt : j < n
        · have hgl : ((pget b k j : Nat) : Int) ≤ 4294967295 := by
            have h1 := pget_lt b k j
            have h2 : 2 ^ k ≤ 2 ^ 32 := Nat.pow_le_pow_right (by decide) (by omega)
            have h3 : (2 : Nat) ^ 32 = 4294967296 := by decide
            omega
          have hsn : ints (unpack b (j + 1) k) = ints (unpack b j k) ++ [((pget b k j : Nat) : Int)] := by simp [unpack_snoc, ints]
          have HSN := Lib.hid hsn; clear hsn
          go_wp2_with fail
          refine (pget_ok wr 0 _ b k j HR (by omega) (by omega) (by omega) (by omega)).mono ?_
          rintro e w5 ⟨rfl, rfl⟩
          simp only [Int.toNat_natCast]
          have hlen : (ints (unpack b j k)).length = j := by simp [unpack, ints_len]
          generalize pget b k j = y at *
          go_wp2_with (at_builtin; refine app1 (y := (y : Int)) Tryz.underlying56 Tryz.i3 HO ⟨rfl, by go_wf⟩ HW.size (by omega) ?_)
          intro v6 w6 HO6 hw6
          go_wp2
          go_roundw
          case rel => exact ⟨j + 1, by omega, by go_num, by rw [HSN.out]; exact HO6, HC.wr hw6 (by decide) (by decide), HR.mono (hw6.keep (Nat.zero_le _) (by decide)), HW.new hw6 (Nat.le_refl _)⟩
          case measure => simp [intOf]; omega
        · obtain rfl : j = n := by omega
          have hmay := may_unpack b j k (by omega)
          have hfit := fits_unpack b j k
          have hni := nats_ints (unpack b j k)
          have hlen : (ints (unpack b j k)).length = j := by simp [unpack, ints_len]
          generalize unpack b j k = out at *
          have HM := Lib.hid hmay; have HF := Lib.hid hfit; have HN := Lib.hid hni; have HL := Lib.hid hlen; clear hmay hfit hni hlen
          obtain ⟨A8, c8, rfl, k81, k82⟩ := HO.form
          go_wp2_with fail
          refine (pput_ok wr 0 _ _ k HO.rd (by rw [HL.out]; omega) (by omega) (by omega)).mono ?_
          rintro e w5 ⟨HB5, ⟨_, v5, rfl, HO5⟩ | ⟨hnf, _⟩⟩
          case inr => exact absurd HF.out hnf
          rw [Int.toNat_natCast, HN.out] at HO5
          obtain ⟨A5, c5, rfl, k51, k52⟩ := HO5.form
          have hO5 := HO.below HB5
          have hC5 := HC.below HB5
          have hR5 := HR.below HB5
          have hW5 := HW.trans (Wr.of_below HB5)
          go_wp2_with fail
          refine (width_ok w5 0 _ _ hO5.rd HM.out).mono ?_
          rintro e w6 ⟨rfl, rfl⟩
          by_cases hw : pwidth (ints out) = k
          · have hd2 : ((pwidth (ints out) : Int) != (k : Int)) = false := by simp [hw]
            by_cases he : pput out k = b
            · have hP : P = (out, S3) := by rw [← HP2.out, if_neg (by simp [hw, he])]
              have HP3 := Lib.hid hP; have HE := Lib.hid he; clear hP HP2 he hw
              go_wp2_with (go_at_call 159; refine (equal_byte_ok w5 0 0 _ _ _ _ HO5.rd hR5).mono ?_; rintro e w7 ⟨rfl, HD⟩; rw [decide_eq_true HE.out])
              go_ret
              exact ⟨_, rfl, by rw [HP3.out]; exact hO5.below HD.below, by rw [HP3.out]; exact hC5.below HD.below, hW5.trans HD.wr⟩
            · have hP : P = ([], S3.fail 3) := by rw [← HP2.out, if_pos (by simp [he])]
              have HP3 := Lib.hid hP; have HE := Lib.hid he; clear hP HP2 he hw
              go_wp2_with (first | (go_at_call 159; refine (equal_byte_ok w5 0 0 _ _ _ _ HO5.rd hR5).mono ?_; rintro e w7 ⟨rfl, HD⟩; rw [decide_eq_false HE.out]) | (go_at_call 160; refine (fail_ok _ g S3 3 (hC5.below (Drawn.below (by assumption)))).mono ?_; rintro e w8 ⟨⟨v8, rfl⟩, HC8, HW8⟩))
              go_ret
              exact ⟨_, rfl, by rw [HP3.out]; exact Own.nil _ _ _ _ _, by rw [HP3.out]; exact HC8, hW5.trans (HD.wr.trans HW8)⟩
          · have hd2 : ((pwidth (ints out) : Int) != (k : Int)) = true := by simp; omega
            have hP : P = ([], S3.fail 3) := by rw [← HP2.out, if_pos (by simp [hw])]
            have HP3 := Lib.hid hP; clear hP HP2 hw
            go_wp2_with (go_at_call 160; refine (fail_ok _ g S3 3 hC5).mono ?_; rintro e w8 ⟨⟨v8, rfl⟩, HC8, HW8⟩)
            go_ret
            exact ⟨_, rfl, by rw [HP3.out]; exact Own.nil _ _ _ _ _, by rw [HP3.out]; exact HC8, hW5.trans HW8⟩
end Go.Proofs.YtpjbibcjefkcaaaGreat
