import Derived.Test.YtpjbibcjefkcaaaGreatT9
namespace Go.Proofs.YtpjbibcjefkcaaaGreat
open Go.RowKit

theorem Tryz.i4 : (Tryz.prog.info? 4).map (fun i => (i.zero, i.size, i.bytes)) = some (some (.bool false), 1, 1) := by kernel_rfl
def bsize (n : Nat) : Nat := (n + 7) / 8
def bput (l : List Bool) : List UInt8 := pk l (bsize l.length)

set_option maxRecDepth 100000 in
theorem bsize_ok (n : Int) (w : World) (hn : 0 ≤ n) (hn1 : n ≤ 140737488355328) : Calls Tryz.prog 158 #[.int .i64 n] w fun en w' => en = .returned (.int .i64 (bsize n.toNat : Nat)) ∧ w = w' := by
  obtain ⟨a, rfl⟩ := Int.eq_ofNat_of_zero_le hn
  go_enter Tryz.func158, Tryz.ntmps158
  go_wp2
  go_ret
  refine ⟨?_, rfl⟩
  simp [bsize]
  omega

theorem orbit (r old : Nat) (hr : r < 8) (ho : old < 2 ^ r) : bits .or .u8 (old : Int) (2 ^ r % 256) = ((old + 1 * 2 ^ r : Nat) : Int) ∧ old + 1 * 2 ^ r < 256 := by
  have := packbit 1 0 r old hr ho (by decide)
  have e : bits .and .i64 (((1 : Nat) : Int) / 2 ^ 0) 1 = 1 := by decide
  rw [e] at this
  simpa using this

set_option maxRecDepth 100000 in
set_option maxHeartbeats 400000 in
theorem bput_ok (w : World) (B : Nat) (v : Value) (xs : List Bool) (h : Rd kBool 4 w B v xs) (hl : xs.length ≤ 140737488355328) :
    Calls Tryz.prog 151 #[v] w (Fresh kByte 5 w (bput xs)) := by
  obtain ⟨A, c, rfl, h1, h2⟩ := h.form
  have hsz : bsize xs.length ≤ 70368744177664 := by unfold bsize; omega
  go_enter Tryz.func151, Tryz.ntmps151
  go_wp2_with fail
  refine (bsize_ok xs.length w (by omega) (by omega)).mono ?_
  rintro e w1 ⟨rfl, rfl⟩
  simp only [Int.toNat_natCast]
  go_wp2_with (refine makeOwn (d := kByte) (y := 0) Tryz.underlying36 Tryz.i5 rfl rfl (by omega) (by omega) (by decide) rfl rfl (fun _ _ => rfl) ?_)
  intro W1 HO1 HB1 hs1
  rw [Int.toNat_natCast] at *
  have hst : List.replicate (bsize xs.length) (0 : UInt8) = pk (xs.take 0) (bsize xs.length) := by simp [pk_nil]
  rw [hst] at HO1
  clear hst
  generalize hN : bsize xs.length = N at *
  have HN := Lib.hid hN; clear hN
  go_wp2_with fail
  go_loopw [12] (fun i wr => ∃ k : Nat, k ≤ xs.length ∧ i = .int .i64 (k : Int) ∧ Own kByte 5 wr w.heap.size 0 (.slice (some ⟨w.heap.size, 0, none⟩) N N) (pk (xs.take k) N) ∧ Below w.heap.size w wr) (fun i _ => xs.length - (intOf i).toNat)
  case atStart => exact ⟨0, by omega, rfl, HO1, HB1⟩
  case round =>
    obtain ⟨k, hk, rfl, HO, HB⟩ := hrel
    by_cases hlt : k < xs.length
    · have hr := h.below HB
      obtain ⟨b, off, cs, rfl, rfl, hc⟩ := hr.at hlt
      have hc0 := hc 0 _ rfl
      simp only [Nat.add_zero, show kBool.sz = 1 from rfl, Nat.mul_one] at hc0
      have htk : xs.take (k + 1) = xs.take k ++ [xs[k]] := by rw [List.take_add_one, List.getElem?_eq_getElem hlt]; rfl
      have hlen : (xs.take k).length = k := by simp; omega
      have hk8 : k < 8 * N := by have := HN.out; unfold bsize at this; omega
      generalize xs[k] = x at *
      clear hc
      cases x
      · have hf := pk_false (xs.take k) N (by rw [hlen]; omega)
        rw [← htk] at hf
        have HT := Lib.hid htk; have HF := Lib.hid hf; have HL := Lib.hid hlen; clear htk hf hlen
        go_wp2_with fail
        go_roundw
        case rel => exact ⟨k + 1, by omega, by go_num, by rw [HF.out]; exact HO, HB⟩
        case measure => simp [intOf]; omega
      · have hro := pk_room (xs.take k) N (by rw [hlen, pk_len]; omega)
        have hsn := pk_snoc (xs.take k) true N (by rw [hlen, pk_len]; omega)
        rw [← htk] at hsn
        simp only [hlen] at hro hsn
        obtain ⟨b2, off2, cs2, hA2, hk2, hc2⟩ := HO.rd.at (i := k / 8) (by rw [pk_len]; omega)
        obtain rfl := hk2
        injection hA2 with hA2; injection hA2 with hA3 hA4 hA5; subst hA3 hA4; clear hA5
        have hcell := hc2 0 _ rfl
        simp only [Nat.add_zero, Nat.zero_add, show kByte.sz = 1 from rfl, Nat.mul_one] at hcell
        obtain ⟨g, hg, -, -, hfz⟩ := HO.block (by rw [pk_len]; omega)
        injection hg with hg; injection hg with hg hg2; subst hg; clear hg2
        have hfz1 := hfz (k / 8)
        generalize (pk (xs.take k) N)[k / 8]'(by rw [pk_len]; omega) = old at *
        have HT := Lib.hid htk; have HRO := Lib.hid hro; have HSN := Lib.hid hsn; have HL := Lib.hid hlen
        clear htk hro hsn hc2 hfz hr h hlen
        have e0 : (k : Int).tdiv 8 = (k : Int) / 8 := Int.tdiv_eq_ediv_of_nonneg (by omega)
        have e1 : IntKind.i64.wrap ((k : Int) / 8) = (k : Int) / 8 := IntWalk.i64_in _ (by omega)
        have e2 : (k : Int).tmod 8 = (k : Int) % 8 := Int.tmod_eq_emod_of_nonneg (by omega)
        have e3 : ((k : Int) / 8).toNat = k / 8 := by omega
        have e4 : ((k : Int) % 8).toNat = k % 8 := by omega
        have e5 : IntKind.i64.wrap ((k : Int) % 8) = (k : Int) % 8 := IntWalk.i64_in _ (by omega)
        have g1 : 0 ≤ (k : Int) / 8 := by omega
        have g2 : (k : Int) / 8 < N := by omega
        have g3 : 0 ≤ (k : Int) % 8 := by omega
        have g4 : (k : Int) % 8 < 8 := by omega
        go_wp2_with fail
        go_still_tail 10, (by kernel_rfl)
        change wpList _ _ _ _ _ wr.drew
        clear e0 e1 e2 e3 e4 e5 g1 g2 g3 g4
        go_wp2_with fail
        go_roundw
        case rel =>
          obtain ⟨hv, hv2⟩ := orbit (k % 8) old.toNat (Nat.mod_lt _ (by decide)) HRO.out
          have hS := HO.set (k / 8) (y := UInt8.ofNat (old.toNat + 1 * 2 ^ (k % 8))) (u := .int .u8 (bits .or .u8 (old.toNat : Int) (2 ^ (k % 8) % 256))) rfl (by rw [hv]; show [Value.int .u8 _] = [Value.int .u8 _]; rw [UInt8.toNat_ofNat', Nat.mod_eq_of_lt hv2]) (by simp [kByte]) (Nat.zero_le _)
          exact ⟨k + 1, by omega, by go_num, by rw [HSN.out]; exact hS.1, (hS.2.below HB (Nat.le_refl _) HB.size).drew⟩
        case measure => simp [intOf]; omega
    · obtain rfl : k = xs.length := by omega
      rw [List.take_length] at HO
      go_wp2_with fail
      go_ret
      exact ⟨_, rfl, by unfold bput; rw [HN.out]; exact HO, HB⟩

def bwrite (l : List Bool) : List UInt8 := vput l.length ++ bput l
theorem bput_len (l : List Bool) : (bput l).length = bsize l.length := by simp [bput]

set_option maxRecDepth 100000 in
theorem bwrite_ok (w : World) (B : Nat) (v : Value) (xs : List Bool) (h : Rd kBool 4 w B v xs) (hl : xs.length ≤ 140737488355328) :
    Calls Tryz.prog 94 #[v] w (Fresh kByte 5 w (bwrite xs)) := by
  obtain ⟨A, c, rfl, h1, h2⟩ := h.form
  have hsz : (bput xs).length ≤ 70368744177664 := by rw [bput_len]; unfold bsize; omega
  have hvl := vput_len9 (n := xs.length) (by omega)
  go_enter Tryz.func94, Tryz.ntmps94
  go_wp2_with fail
  refine (put_ok xs.length w (by omega) (by omega)).mono ?_
  rintro e w1 ⟨v1, rfl, HO1, HB1⟩
  rw [Int.toNat_natCast] at HO1
  obtain ⟨A1, c1, rfl, _, _⟩ := HO1.form
  go_wp2_with fail
  refine (bput_ok w1 B _ xs (h.below HB1) hl).mono ?_
  rintro e w2 ⟨v2, rfl, HO2, HB2⟩
  have hB2 := below_step HB1 HB1.size HB2
  go_wp2_with (at_builtin; refine appRow Tryz.underlying36 Tryz.i5 (HO1.below HB2) (HO2.rd (B := 0)) (fun _ _ _ h => h) hB2.size (by omega) ?_)
  intro v3 w3 HO3 hw3
  go_wp2
  go_ret
  exact ⟨_, rfl, HO3, hw3.below hB2 (Nat.le_refl _) hB2.size⟩

/-- How many of them are true. -/
def trues (l : List Bool) : Nat := l.countP id

set_option maxRecDepth 100000 in
theorem rank_ok (w : World) (B : Nat) (v : Value) (xs : List Bool) (n : Int) (h : Rd kBool 4 w B v xs) (hn : n = xs.length) :
    Calls Tryz.prog 164 #[v, .int .i64 n] w fun en w' => en = .returned (.int .i64 (trues xs : Nat)) ∧ w = w' := by
  obtain ⟨A, c, rfl, h1, h2⟩ := h.form
  subst hn
  obtain ⟨v', hsl, hr⟩ := h.runH Tryz.underlying65 Tryz.i4 .i64 (xs.length : Int) (by omega) (by omega)
  rw [Int.toNat_natCast, List.take_length] at hr
  obtain ⟨A', c', rfl, _, _⟩ := hr.form
  go_enter Tryz.func164, Tryz.ntmps164
  go_wp2_with fail
  go_loop [5, 16] (fun s i => ∃ k : Nat, k ≤ xs.length ∧ i = .int .i64 (k : Int) ∧ s = .int .i64 (trues (xs.take k) : Nat)) (fun _ i => xs.length - (intOf i).toNat)
  case atStart => exact ⟨0, by omega, rfl, rfl⟩
  case round =>
    obtain ⟨k, hk, rfl, rfl⟩ := hrel
    by_cases hlt : k < xs.length
    · obtain ⟨b, off, cs, rfl, rfl, hc⟩ := hr.at hlt
      have hc0 := hc 0 _ rfl
      simp only [Nat.add_zero, show kBool.sz = 1 from rfl, Nat.mul_one] at hc0
      have hs : trues (xs.take (k + 1)) = trues (xs.take k) + (if xs[k] = true then 1 else 0) := by
        have e : xs.take (k + 1) = xs.take k ++ [xs[k]] := by rw [List.take_add_one, List.getElem?_eq_getElem hlt]; rfl
        rw [e, trues, List.countP_append]; simp [trues, List.countP_cons]
      have hle : trues (xs.take k) ≤ k := by unfold trues; have := List.countP_le_length (p := id) (l := xs.take k); rw [List.length_take] at this; omega
      have HS := Lib.hid hs; clear hs hc hsl
      generalize xs[k] = x at *
      generalize trues (xs.take k) = m at *
      cases x
      · go_wp2_with fail
        go_round
        case rel => exact ⟨k + 1, by omega, by go_num, by rw [HS.out]; simp⟩
        case measure => simp [intOf]; omega
      · go_wp2_with fail
        go_round
        case rel => exact ⟨k + 1, by omega, by go_num, by rw [HS.out]; simp⟩
        case measure => simp [intOf]; omega
    · obtain rfl : k = xs.length := by omega
      rw [List.take_length]
      go_wp2_with fail
      go_ret
      exact ⟨rfl, rfl⟩

set_option maxRecDepth 100000 in
theorem count_ok (w : World) (B : Nat) (v : Value) (xs : List Bool) (h : Rd kBool 4 w B v xs) :
    Calls Tryz.prog 106 #[v] w fun en w' => en = .returned (.int .i64 (trues xs : Nat)) ∧ w = w' := by
  obtain ⟨A, c, rfl, h1, h2⟩ := h.form
  go_enter Tryz.func106, Tryz.ntmps106
  go_wp2_with fail
  refine (rank_ok w B _ xs _ h rfl).mono ?_
  rintro e w1 ⟨rfl, rfl⟩
  go_wp2_with fail
  go_ret
  exact ⟨rfl, rfl⟩

/-- A bitmap that is read. -/
def unbits (b : List UInt8) (n : Nat) : List Bool := (List.range n).map fun i => bitn b i == 1
def Cur.bits_ (S : Cur) (many : Int) : List Bool × Cur :=
  let n := S.mostV many
  let S1 := S.mostS many
  let b := S1.take (bsize n)
  let S2 := S1.took (bsize n)
  if b.length < bsize n then ([], S2) else
  if bput (unbits b n) ≠ b then ([], S2.fail 3) else (unbits b n, S2)
def BoolsAre (xs : List Bool) (w0 : World) (v : Value) (w : World) : Prop := Own kBool 4 w w0.heap.size 0 v xs


theorem bit1 (y r : Nat) (hy : y < 256) : bits .and .u8 ((y : Int) / 2 ^ r) 1 = ((y / 2 ^ r % 2 : Nat) : Int) := by
  have hd : y / 2 ^ r < 256 := Nat.lt_of_le_of_lt (Nat.div_le_self _ _) hy
  have e1 : (y : Int) / 2 ^ r = ((y / 2 ^ r : Nat) : Int) := by simp
  have h1 := bits_mask .u8 8 (by decide) wraps_u8 1 (by decide) ((y / 2 ^ r : Nat) : Int) (Int.natCast_nonneg _) (by exact_mod_cast hd)
  rw [e1]; simpa using h1
/-- The first k of l, the others false. -/
def fill (l : List Bool) (k : Nat) : List Bool := l.take k ++ List.replicate (l.length - k) false
theorem fill_step (l : List Bool) (k : Nat) (h : k < l.length) : fill l (k + 1) = (fill l k).set k l[k] := by
  unfold fill
  have e : l.take (k + 1) = l.take k ++ [l[k]] := by rw [List.take_add_one, List.getElem?_eq_getElem h]; rfl
  have e2 : List.replicate (l.length - k) false = false :: List.replicate (l.length - (k + 1)) false := by rw [← List.replicate_succ]; congr 1; omega
  have el : (l.take k).length = k := by simp; omega
  rw [e, e2, List.set_append_right _ _ (by omega), el, Nat.sub_self, List.set_cons_zero, List.append_assoc]; rfl

set_option maxRecDepth 100000 in
set_option maxHeartbeats 800000 in
theorem bread_ok (w : World) (g : Nat) (S : Cur) (many : Int) (h : CurAt w g S) (hl : S.b.length ≤ 140737488355328) (hm0 : 0 ≤ many) (hm : many ≤ 65536) :
    Calls Tryz.prog 104 #[.pointer (some ⟨g, 0, none⟩), .int .i64 many] w (CurPost w g (S.bits_ many).2 (BoolsAre (S.bits_ many).1 w)) := by
  have hn := S.mostV_le many hm0
  have hb1 : (S.mostS many).b.length ≤ 140737488355328 := by simpa using hl
  generalize hP : S.bits_ many = P
  unfold Cur.bits_ at hP
  go_enter Tryz.func104, Tryz.ntmps104
  go_wp2_with fail
  refine (most_ok w g S many h hl).mono ?_
  rintro e w1 ⟨v1, rfl, rfl, HC1, HW1⟩
  generalize S.mostV many = n at *
  generalize S.mostS many = S1 at *
  have HP := Lib.hid hP; clear hP
  have hs : bsize n ≤ 65536 := by unfold bsize; omega
  go_wp2_with fail
  refine (bsize_ok n w1 (by omega) (by omega)).mono ?_
  rintro e w2 ⟨rfl, rfl⟩
  simp only [Int.toNat_natCast]
  generalize hsz : bsize n = s at *
  have HSZ := Lib.hid hsz; clear hsz
  go_wp2_with fail
  refine (bytes_ok w1 g S1 s HC1 hb1 (by omega) (by omega)).mono ?_
  rintro e w3 ⟨v3, rfl, HO3, HC3, HW3⟩
  generalize S1.take s = b at *
  generalize S1.took s = S3 at *
  obtain ⟨A3, c3, rfl, k31, k32⟩ := HO3.form
  go_wp2_with fail
  refine (bsize_ok n w3 (by omega) (by omega)).mono ?_
  rintro e w4 ⟨rfl, rfl⟩
  simp only [Int.toNat_natCast]
  rw [HSZ.out]
  have hW3 := HW1.trans HW3
  by_cases hbs : b.length < s
  · have hd : decide ((b.length : Int) < (s : Int)) = true := by simp [hbs]
    have hP := HP.out
    simp only [hbs, if_true] at hP
    have HP2 := Lib.hid hP; clear hP
    go_wp2_with fail
    go_ret
    exact ⟨_, rfl, by rw [← HP2.out]; exact Own.nil _ _ _ _ _, by rw [← HP2.out]; exact HC3, hW3⟩
  · have hd : decide ((b.length : Int) < (s : Int)) = false := by simp; omega
    have hP := HP.out
    simp only [hbs, if_false] at hP
    have HP2 := Lib.hid hP; clear hP HP
    have HB3 := HO3.rd (B := 0)
    go_wp2_with (refine makeOwn (d := kBool) (y := false) Tryz.underlying65 Tryz.i4 rfl rfl (by omega) (by omega) (by decide) rfl rfl (fun _ _ => rfl) ?_)
    intro W4 HO4 HB4 hs4
    rw [Int.toNat_natCast] at *
    have hul : (unbits b n).length = n := by simp [unbits]
    have h0 : List.replicate n false = fill (unbits b n) 0 := by simp [fill, hul]
    rw [h0] at HO4
    have HUL := Lib.hid hul; clear h0 hul
    have hC4 := HC3.below HB4
    have hR4 := HB3.below HB4
    have hW4 := hW3.trans (Wr.of_below HB4)
    have hg : w.heap.size ≤ w3.heap.size := hW3.size
    generalize hout : unbits b n = out at *
    have HOUT := Lib.hid hout; clear hout
    go_wp2_with fail
    go_loopw [25] (fun i wr => ∃ j : Nat, j ≤ n ∧ i = .int .i64 (j : Int) ∧ Own kBool 4 wr w3.heap.size 0 (.slice (some ⟨w3.heap.size, 0, none⟩) n n) (fill out j) ∧ CurAt wr g S3 ∧ Rd kByte 5 wr 0 (.slice A3 b.length c3) b ∧ Wr g 163 w wr) (fun i _ => n - (intOf i).toNat)
    case atStart => exact ⟨0, by omega, rfl, HO4, hC4, hR4, hW4⟩
    case round =>
      obtain ⟨j, hj, rfl, HO, HC, HR, HW⟩ := hrel
      by_cases hlt : j < n
      · have hj8 : j / 8 < b.length := by have := HSZ.out; unfold bsize at this; omega
        have hfl : (fill out j).length = n := by unfold fill; rw [List.length_append, List.length_take, List.length_replicate, HUL.out]; omega
        obtain ⟨b1, off1, cs, rfl, rfl, hc⟩ := HR.at hj8
        have hc0 := hc 0 _ rfl
        simp only [Nat.add_zero, show kByte.sz = 1 from rfl, Nat.mul_one] at hc0
        have hxo : out[j]'(by rw [HUL.out]; exact hlt) = ((b[j / 8]).toNat / 2 ^ (j % 8) % 2 == 1) := by
          simp only [← HOUT.out, unbits, List.getElem_map, List.getElem_range, bitn, List.getElem?_eq_getElem hj8, Option.getD_some]
        have hst := fill_step out j (by rw [HUL.out]; exact hlt)
        rw [hxo] at hst
        have hbt := bit1 (b[j / 8]).toNat (j % 8) (UInt8.toNat_lt _)
        obtain ⟨b2, off2, cs2, hA2, hk2, hc2⟩ := HO.rd.at (i := j) (by rw [hfl]; exact hlt)
        obtain rfl := hk2
        injection hA2 with hA2; injection hA2 with hA3 hA4 hA5; subst hA3 hA4; clear hA5
        have hcell := hc2 0 _ rfl
        simp only [Nat.add_zero, Nat.zero_add, show kBool.sz = 1 from rfl, Nat.mul_one] at hcell
        obtain ⟨g2, hg2, -, -, hfz⟩ := HO.block (by rw [hfl]; omega)
        injection hg2 with hg2; injection hg2 with hg2 hg3; subst hg2; clear hg3
        have hfz1 := hfz j
        generalize b[j / 8] = y at *
        generalize (fill out j)[j]'(by rw [hfl]; exact hlt) = oldb at *
        have HST := Lib.hid hst; have HFL := Lib.hid hfl; have HBT := Lib.hid hbt
        clear hst hfl hbt hc hc2 hfz hxo
        go_wp2_with fail
        go_roundw
        case rel =>
          have hu : (Value.bool (bits .and .u8 ((y.toNat : Int) / 2 ^ (j % 8)) 1 == 1)) = Value.bool (y.toNat / 2 ^ (j % 8) % 2 == 1) := by
            rw [HBT.out]; congr 1; rw [Bool.eq_iff_iff]; simp only [beq_iff_eq]; omega
          have hS := HO.set j (y := (y.toNat / 2 ^ (j % 8) % 2 == 1)) (u := .bool (bits .and .u8 ((y.toNat : Int) / 2 ^ (j % 8)) 1 == 1)) rfl (by rw [hu]; rfl) (by simp [kBool]) (Nat.zero_le _)
          exact ⟨j + 1, by omega, by go_num, by rw [HST.out]; exact hS.1, HC.wr hS.2 (by decide) (by decide), HR.mono (hS.2.keep (Nat.zero_le _) (by decide)), HW.new hS.2 hg⟩
        case measure => simp [intOf]; omega
      · obtain rfl : j = n := by omega
        have hfo : fill out j = out := by unfold fill; rw [HUL.out, Nat.sub_self, ← HUL.out, List.take_length]; simp
        rw [hfo] at HO
        have hlo : (Value.slice (some ⟨w3.heap.size, 0, none⟩) j j) = (Value.slice (some ⟨w3.heap.size, 0, none⟩) out.length j) := by rw [HUL.out]
        have HLO := Lib.hid hlo; clear hfo hlo
        go_wp2_with fail
        refine (bput_ok wr 0 _ _ HO.rd (by rw [HUL.out]; omega)).mono ?_
        rintro e w5 ⟨v5, rfl, HO5, HB5⟩
        have hO5 := HO.below HB5
        have hC5 := HC.below HB5
        have hR5 := HR.below HB5
        have hW5 := HW.trans (Wr.of_below HB5)
        obtain ⟨A5, c5, rfl, _, _⟩ := HO5.form
        go_wp2_with fail
        refine (equal_byte_ok w5 0 0 _ _ _ _ HO5.rd hR5).mono ?_
        rintro e w6 ⟨rfl, HD⟩
        by_cases he : bput out = b
        · rw [decide_eq_true he]
          have hP : P = (out, S3) := by rw [← HP2.out, if_neg (by simp [he])]
          have HP3 := Lib.hid hP; have HE := Lib.hid he; clear hP HP2 he
          go_wp2_with fail
          go_ret
          exact ⟨_, rfl, by rw [HP3.out]; exact (hO5.below HD.below).weaken hg (Nat.le_refl _), by rw [HP3.out]; exact hC5.below HD.below, hW5.trans HD.wr⟩
        · rw [decide_eq_false he]
          have hP : P = ([], S3.fail 3) := by rw [← HP2.out, if_pos he]
          have HP3 := Lib.hid hP; have HE := Lib.hid he; clear hP HP2 he
          go_wp2_with fail
          refine (fail_ok _ g S3 3 (hC5.below HD.below)).mono ?_
          rintro e w8 ⟨⟨v8, rfl⟩, HC8, HW8⟩
          go_wp2_with fail
          go_ret
          exact ⟨_, rfl, by rw [HP3.out]; exact Own.nil _ _ _ _ _, by rw [HP3.out]; exact HC8, hW5.trans (HD.wr.trans HW8)⟩
end Go.Proofs.YtpjbibcjefkcaaaGreat
