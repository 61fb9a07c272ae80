import Derived.Test.YtpjbibcjefkcaaaGreatT4
import Derived.Test.YtpjbibcjefkcaaaGreatShelf
namespace Go.Proofs.YtpjbibcjefkcaaaGreat
open Go.RowKit

/-- How many bits the greatest number takes. -/
def pwidth (l : List Int) : Nat := Lib.bitLen (l.foldl max 0).toNat
theorem foldl_max_le (l : List Int) (m : Int) : ∀ a : Int, a ≤ m → (∀ x ∈ l, x ≤ m) → l.foldl max a ≤ m := by
  induction l with
  | nil => intro a h _; exact h
  | cons x l ih => intro a h hl; exact ih _ (by have := hl x (List.mem_cons_self ..); omega) fun y hy => hl y (List.mem_cons_of_mem _ hy)
theorem le_foldl_max (l : List Int) : ∀ a : Int, a ≤ l.foldl max a := by
  induction l with
  | nil => intro a; exact Int.le_refl _
  | cons x l ih => intro a; have := ih (max a x); simp only [List.foldl_cons]; omega

set_option maxRecDepth 100000 in
theorem width_ok (w : World) (B : Nat) (v : Value) (xs : List Int) (h : Rd (kInt .i64) 3 w B v xs) (h0 : ∀ x ∈ xs, 0 ≤ x ∧ x ≤ 4294967295) :
    Calls Tryz.prog 238 #[v] w fun en w' => en = .returned (.int .i64 (pwidth xs)) ∧ w = w' := by
  obtain ⟨A, c, rfl, h1, h2⟩ := h.form
  have hm0 := le_foldl_max xs 0
  have hm1 := foldl_max_le xs 4294967295 0 (by omega) fun x hx => (h0 x hx).2
  have H0 := Lib.hid h0; clear h0
  by_cases hx : xs = []
  · subst hx
    go_enter Tryz.func238, Tryz.ntmps238
    go_wp2
    go_ret
    exact ⟨rfl, rfl⟩
  · have hl : ((xs.length : Int) == 0) = false := by simp [hx]
    have HX := Lib.hid hx; clear hx
    go_enter Tryz.func238, Tryz.ntmps238
    go_wp2_with fail
    refine (max_ok w B _ xs h HX.out fun x hx => (H0.out x hx).1).mono ?_
    rintro e w1 ⟨rfl, rfl⟩
    go_wp2_with fail
    refine (Tryz.bits_Len32 _ w hm0 hm1).mono ?_
    rintro e w1 ⟨rfl, rfl⟩
    go_wp2_with fail
    go_ret
    exact ⟨rfl, rfl⟩

theorem wraps_i63 (n : Int) (h0 : 0 ≤ n) (h1 : n < 2 ^ 63) : IntKind.i64.wrap n = n := by
  have h : (2 : Int) ^ 63 = 9223372036854775808 := by decide
  rw [IntKind.wrap_i64]; omega
theorem packbit (y j r old : Nat) (hr : r < 8) (ho : old < 2 ^ r) (hy : y < 2 ^ 63) : bits .or .u8 (old : Int) (bits .and .i64 ((y : Int) / 2 ^ j) 1 % 256 * 2 ^ r % 256) = ((old + y / 2 ^ j % 2 * 2 ^ r : Nat) : Int) ∧ old + y / 2 ^ j % 2 * 2 ^ r < 256 := by
  have hd : y / 2 ^ j < 2 ^ 63 := Nat.lt_of_le_of_lt (Nat.div_le_self _ _) hy
  have e1 : (y : Int) / 2 ^ j = ((y / 2 ^ j : Nat) : Int) := by simp
  have h1 := bits_mask .i64 63 (by decide) wraps_i63 1 (by decide) ((y / 2 ^ j : Nat) : Int) (Int.natCast_nonneg _) (by exact_mod_cast hd)
  have h1' : bits .and .i64 ((y : Int) / 2 ^ j) 1 = ((y / 2 ^ j % 2 : Nat) : Int) := by rw [e1]; simpa using h1
  rw [h1']
  have hb0 : y / 2 ^ j % 2 < 2 := Nat.mod_lt _ (by decide)
  generalize y / 2 ^ j % 2 = b at *
  have hb : b < 2 := hb0
  have hp : (2 : Nat) ^ (r + 1) ≤ 2 ^ 8 := Nat.pow_le_pow_right (by decide) (by omega)
  rw [Nat.pow_succ] at hp
  have hm : b * 2 ^ r ≤ 1 * 2 ^ r := Nat.mul_le_mul_right _ (by omega)
  have e2 : (b : Int) % 256 * 2 ^ r % 256 = ((b * 2 ^ r : Nat) : Int) := by
    rw [show (b : Int) % 256 = b from by omega]
    have : (b : Int) * 2 ^ r = ((b * 2 ^ r : Nat) : Int) := by simp
    rw [this]; omega
  have hc : bits .or .u8 (old : Int) ((b * 2 ^ r : Nat) : Int) = bits .or .u8 ((b * 2 ^ r : Nat) : Int) (old : Int) := by
    simp only [bits, BitVec.toNat_or, Nat.or_comm]
  have c7 : (2 : Int) ^ r = ((2 ^ r : Nat) : Int) := by simp
  have k1 : ((b * 2 ^ r : Nat) : Int) % 2 ^ r = 0 := by rw [c7, ← Int.natCast_emod, Nat.mul_mod_left]; rfl
  have k2 : b * 2 ^ r < 2 ^ 8 := by omega
  have k3 : old < 2 ^ 8 := by omega
  have k4 : (old : Int) < 2 ^ r := by rw [c7]; exact_mod_cast ho
  refine ⟨?_, by omega⟩
  rw [e2, hc, bits_join .u8 8 (by decide) wraps_u8 r _ _ (by omega) k1 (by exact_mod_cast k2) (by omega) k4 (by exact_mod_cast k3)]
  omega

/-- May numbers be packed in that width? -/
def fits (l : List Int) (k : Nat) : Prop := ∀ x ∈ l, 0 ≤ x ∧ x.toNat < 2 ^ k
def nats (l : List Int) : List Nat := l.map Int.toNat
def PutPost (w : World) (xs : List Int) (k : Nat) (en : Ending) (w' : World) : Prop :=
  Below w.heap.size w w' ∧ ((fits xs k ∧ ∃ v1, en = .returned (.tuple #[v1, .int .i64 0]) ∧ Own kByte 5 w' w.heap.size 0 v1 (pput (nats xs) k)) ∨ (¬ fits xs k ∧ en = .returned (.tuple #[.slice none 0 0, .int .i64 1])))

set_option maxRecDepth 100000 in
set_option maxHeartbeats 400000 in
theorem pput_ok (w : World) (B : Nat) (v : Value) (xs : List Int) (n : Int) (h : Rd (kInt .i64) 3 w B v xs) (hl : xs.length ≤ 17592186044415) (hn0 : 0 ≤ n) (hn : n ≤ 32) :
    Calls Tryz.prog 239 #[v, .int .i64 n] w (PutPost w xs n.toNat) := by
  obtain ⟨A, c, rfl, h1, h2⟩ := h.form
  obtain ⟨m, rfl⟩ := Int.eq_ofNat_of_zero_le hn0
  have hsz : psize xs.length m ≤ 70368744177664 := by
    have : xs.length * m ≤ 17592186044415 * 32 := Nat.mul_le_mul hl (by omega)
    unfold psize; omega
  go_enter Tryz.func239, Tryz.ntmps239
  go_wp2_with fail
  refine (psize_ok_ xs.length m w (by omega) hn0 (by omega) (by omega)).mono ?_
  rintro e w1 ⟨rfl, rfl⟩
  simp only [Int.toNat_natCast]
  go_wp2_with (refine makeOwn (d := kByte) (y := 0) Tryz.underlying36 Tryz.i5 rfl rfl (by omega) (by omega) (by decide) rfl rfl (fun _ _ => rfl) ?_)
  intro W1 HO1 HB1 hs1
  rw [Int.toNat_natCast] at *
  go_wp2_with fail
  have hst : List.replicate (psize xs.length m) (0 : UInt8) = pk (allBits (nats (xs.take 0)) m) (psize xs.length m) := by simp [nats, allBits, pk_nil]
  rw [hst] at HO1
  clear hst
  generalize hN : psize xs.length m = N at *
  have HN := Lib.hid hN; clear hN
  go_loopw [24] (fun i wr => ∃ k : Nat, k ≤ xs.length ∧ i = .int .i64 (k : Int) ∧ Own kByte 5 wr w.heap.size 0 (.slice (some ⟨w.heap.size, 0, none⟩) N N) (pk (allBits (nats (xs.take k)) m) N) ∧ Below w.heap.size w wr ∧ fits (xs.take k) m) (fun i _ => xs.length - (intOf i).toNat)
  case atStart => exact ⟨0, by omega, rfl, HO1, HB1, by simp [fits]⟩
  case round =>
    obtain ⟨k, hk, rfl, HO, HB, hf⟩ := hrel
    obtain ⟨wo, rfl⟩ : ∃ wo : World, wo = wr := ⟨_, rfl⟩
    have HF := Lib.hid hf; clear hf
    by_cases hlt : k < xs.length
    · have hr := h.below HB
      obtain ⟨b, off, cs, rfl, ⟨rfl, hwf⟩, hc⟩ := hr.at hlt
      have hc0 := hc 0 _ rfl
      simp only [Nat.add_zero, show (kInt .i64).sz = 1 from rfl, Nat.mul_one] at hc0
      have hmem := List.getElem_mem hlt
      have htk : xs.take (k + 1) = xs.take k ++ [xs[k]] := by rw [List.take_add_one, List.getElem?_eq_getElem hlt]; rfl
      generalize xs[k] = x at *
      have HT := Lib.hid htk; have HM := Lib.hid hmem; clear htk hmem hc
      by_cases hx0 : x < 0
      · have hd : decide (x < 0) = true := by simp [hx0]
        have hnf : ¬ fits xs m := fun hf => by have := (hf x HM.out).1; omega
        have HNF := Lib.hid hnf; clear hnf
        go_wp2_with fail
        go_ret2
        exact ⟨HB, .inr ⟨HNF.out, rfl⟩⟩
      · have hd : decide (x < 0) = false := by simp; omega
        obtain ⟨y, rfl⟩ := Int.eq_ofNat_of_zero_le (show 0 ≤ x by omega)
        by_cases hxm : y < 2 ^ m
        · have hsh : (y : Int) / 2 ^ m = 0 := by exact_mod_cast Nat.div_eq_of_lt hxm
          have hf' : fits (xs.take (k + 1)) m := by
            rw [HT.out]; intro z hz; rw [List.mem_append] at hz
            rcases hz with hz | hz
            · exact HF.out z hz
            · simp at hz; subst hz; exact ⟨by omega, by simpa using hxm⟩
          have HF' := Lib.hid hf'; clear hf'
          have hbits : allBits (nats (xs.take (k + 1))) m = allBits (nats (xs.take k)) m ++ bitsOf m y := by rw [HT.out]; simp [nats, allBits]
          have HBI := Lib.hid hbits; clear hbits
          have hlen : (allBits (nats (xs.take k)) m).length = k * m := by rw [allBits_len]; simp [nats]; congr 1; omega
          have HLE := Lib.hid hlen; clear hlen
          generalize allBits (nats (xs.take k)) m = bs at *
          have HXM := Lib.hid hxm; clear hxm
          go_wp2_with fail
          clear hsh
          go_loopw [38] (fun i wr => ∃ j : Nat, j ≤ m ∧ i = .int .i64 (j : Int) ∧ Own kByte 5 wr w.heap.size 0 (.slice (some ⟨w.heap.size, 0, none⟩) N N) (pk (bs ++ bitsOf j y) N) ∧ Below w.heap.size w wr) (fun i _ => m - (intOf i).toNat)
          case atStart => exact ⟨0, by omega, rfl, by simpa [bitsOf] using HO, HB⟩
          case round =>
            obtain ⟨j, hj, rfl, HOi, HBi⟩ := hrel
            by_cases hjm : j < m
            · have hmul : k * m + m ≤ xs.length * m := by rw [← Nat.succ_mul]; exact Nat.mul_le_mul_right _ hlt
              obtain ⟨q, hq⟩ : ∃ q : Nat, k * m = q := ⟨_, rfl⟩
              have hq8 : q + m ≤ 8 * N := by have := HN.out; unfold psize at this; omega
              have hat : (k : Int) * m = (q : Int) := by rw [← hq]; simp
              have HQ := Lib.hid hq; clear hq hmul
              obtain ⟨b2, off2, cs2, hA2, hk2, hc2⟩ := HOi.rd.at (i := (q + j) / 8) (by simp; omega)
              obtain rfl := hk2
              injection hA2 with hA2; injection hA2 with hA3 hA4 hA5; subst hA3 hA4; clear hA5
              have hcell := hc2 0 _ rfl
              simp only [Nat.add_zero, Nat.zero_add, show kByte.sz = 1 from rfl, Nat.mul_one] at hcell
              obtain ⟨g, hg, -, -, hfz⟩ := HOi.block (by simp; omega)
              injection hg with hg; injection hg with hg hg2; subst hg; clear hg2
              have hfz1 := hfz ((q + j) / 8)
              have hpl : (q + j) / 8 < N := by omega
              clear hc2
              generalize hold : (pk (bs ++ bitsOf j y) N)[(q + j) / 8]'(by simp; omega) = old at hcell
              have HOLD := Lib.hid hold; clear hold
              clear hc0 HO hr h HO1 hfz
              go_wp2_with fail
              have e0 : ((q : Int) + j).tdiv 8 = ((q : Int) + j) / 8 := Int.tdiv_eq_ediv_of_nonneg (by omega)
              have e1 : IntKind.i64.wrap (((q : Int) + j) / 8) = ((q : Int) + j) / 8 := IntWalk.i64_in _ (by omega)
              have e2 : ((q : Int) + j).tmod 8 = ((q : Int) + j) % 8 := Int.tmod_eq_emod_of_nonneg (by omega)
              have e3 : (((q : Int) + j) / 8).toNat = (q + j) / 8 := by omega
              have e4 : (((q : Int) + j) % 8).toNat = (q + j) % 8 := by omega
              have e5 : IntKind.i64.wrap (((q : Int) + j) % 8) = ((q : Int) + j) % 8 := IntWalk.i64_in _ (by omega)
              have g1 : 0 ≤ ((q : Int) + j) / 8 := by omega
              have g2 : ((q : Int) + j) / 8 < N := by omega
              have g3 : 0 ≤ ((q : Int) + j) % 8 := by omega
              have g4 : ((q : Int) + j) % 8 < 8 := by omega
              go_still_tail 15, (by kernel_rfl)
              change wpList _ _ _ _ _ wr.drew
              clear e0 e1 e2 e3 e4 e5 g1 g2 g3 g4
              go_wp2_with fail
              go_roundw
              case rel =>
                have hlen : (bs ++ bitsOf j y).length = q + j := by rw [List.length_append, bitsOf_len, HLE.out, HQ.out]
                have hro := pk_room (bs ++ bitsOf j y) N (by simp [HLE.out, HQ.out]; omega)
                have hsn := pk_snoc (bs ++ bitsOf j y) (y / 2 ^ j % 2 == 1) N (by simp [HLE.out, HQ.out]; omega)
                simp only [hlen] at hro hsn
                rw [HOLD.out] at hro hsn
                have hb1 : (y / 2 ^ j % 2 == 1).toNat = y / 2 ^ j % 2 := by rcases Nat.mod_two_eq_zero_or_one (y / 2 ^ j) with h | h <;> simp [h]
                rw [hb1] at hsn
                obtain ⟨hv, hv2⟩ := packbit y j ((q + j) % 8) old.toNat (Nat.mod_lt _ (by decide)) hro (Nat.lt_of_lt_of_le HXM.out (Nat.pow_le_pow_right (by decide) (by omega)))
                have hS := HOi.set ((q + j) / 8) (y := UInt8.ofNat (old.toNat + y / 2 ^ j % 2 * 2 ^ ((q + j) % 8))) (u := .int .u8 (bits .or .u8 (old.toNat : Int) (bits .and .i64 ((y : Int) / 2 ^ j) 1 % 256 * 2 ^ ((q + j) % 8) % 256))) rfl (by rw [hv]; show [Value.int .u8 _] = [Value.int .u8 _]; rw [UInt8.toNat_ofNat', Nat.mod_eq_of_lt hv2]) (by simp [kByte]) (Nat.zero_le _)
                refine ⟨j + 1, by omega, by go_num, ?_, (hS.2.below HBi (Nat.le_refl _) HBi.size).drew⟩
                rw [bitsOf_snoc, ← List.append_assoc, hsn]
                exact hS.1
              case measure => simp [intOf]; omega
            · obtain rfl : j = m := by omega
              go_wp2_with fail
              go_roundw
              case rel => exact ⟨k + 1, by omega, by go_num, by rw [HBI.out]; exact HOi, HBi, HF'.out⟩
              case measure => simp [intOf]; omega
        · have hnf : ¬ fits xs m := fun hf => by have := (hf _ HM.out).2; simp at this; omega
          have HNF := Lib.hid hnf; clear hnf
          have hsh : decide (0 < (y : Int) / 2 ^ m) = true := by
            have : 0 < y / 2 ^ m := Nat.div_pos (by omega) (Nat.two_pow_pos m)
            have h2 : (0 : Int) < (y : Int) / 2 ^ m := by exact_mod_cast this
            simpa using h2
          go_wp2_with fail
          go_ret2
          exact ⟨HB, .inr ⟨HNF.out, rfl⟩⟩
    · obtain rfl : k = xs.length := by omega
      rw [List.take_length] at HO
      have hf := HF.out
      rw [List.take_length] at hf
      have HF2 := Lib.hid hf; clear hf
      go_wp2_with fail
      go_ret2
      refine ⟨HB, .inl ⟨HF2.out, _, rfl, ?_⟩⟩
      have e : (nats xs).length = xs.length := by simp [nats]
      unfold pput; rw [e, HN.out]; exact HO
end Go.Proofs.YtpjbibcjefkcaaaGreat
