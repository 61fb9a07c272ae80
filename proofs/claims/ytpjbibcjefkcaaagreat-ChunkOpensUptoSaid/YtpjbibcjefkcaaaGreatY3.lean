import Derived.Test.YtpjbibcjefkcaaaGreatY2
namespace Go.Proofs.YtpjbibcjefkcaaaGreat
open Go.RowKit

/-! ### hopperref03.Put: bit by bit -/
def bitsTo (l : List Nat) (k i j : Nat) : List Bool := allBits (l.take i) k ++ bitsOf j (l.getD i 0)
def bp (bs : List Bool) : Str := pk bs (bsize bs.length)
theorem bp_step (bs : List Bool) (b : Bool) : ∃ (Q : Str) (old : UInt8), Q.length = bsize (bs.length + 1) ∧ Q[bs.length / 8]? = some old ∧ old.toNat < 2 ^ (bs.length % 8) ∧ (bs.length % 8 = 0 → bp bs ++ [0] = Q) ∧ (bs.length % 8 ≠ 0 → bp bs = Q) ∧
    bp (bs ++ [b]) = if b = true then Q.set (bs.length / 8) (UInt8.ofNat (old.toNat + 1 * 2 ^ (bs.length % 8))) else Q := by
  obtain ⟨Q, old, h1, h2, h3, h4, h5, h6⟩ := rb_step (bs ++ [b]) bs.length (by simp)
  rw [List.take_left] at h4 h5
  have e1 : (bs ++ [b])[bs.length]'(by simp) = b := by simp
  rw [e1, show bs.length + 1 = (bs ++ [b]).length by simp, List.take_length] at h6
  exact ⟨Q, old, h1, h2, h3, h4, h5, h6⟩
theorem bitsTo_zero (l : List Nat) (k i : Nat) : bitsTo l k i 0 = allBits (l.take i) k := by simp [bitsTo, bitsOf]
theorem bitsTo_full (l : List Nat) (k i : Nat) (h : i < l.length) : bitsTo l k i k = allBits (l.take (i + 1)) k := by
  have ht : l.take (i + 1) = l.take i ++ [l[i]] := by rw [List.take_add_one, List.getElem?_eq_getElem h]; rfl
  unfold bitsTo
  rw [ht, allBits_snoc]
  simp [h]
theorem bitsTo_len (l : List Nat) (k i j : Nat) (h : i ≤ l.length) : (bitsTo l k i j).length = i * k + j := by
  simp [bitsTo, List.length_take, Nat.min_eq_left h]
theorem bitsTo_snoc (l : List Nat) (k i j : Nat) (h : i < l.length) : bitsTo l k i (j + 1) = bitsTo l k i j ++ [l[i] / 2 ^ j % 2 == 1] := by
  unfold bitsTo
  rw [bitsOf_snoc, ← List.append_assoc]
  simp [h]

set_option maxRecDepth 100000 in
set_option maxHeartbeats 3200000 in
theorem rpput_ok (w : World) (B : Nat) (v : Value) (xs : List Int) (k : Nat) (h : Rd (kInt .i64) 3 w B v xs) (hl : xs.length ≤ 1000000) (hk : k ≤ 32) (hf : fits xs k) (hmy : may xs) :
    Calls Tryz.prog 154 #[v, .int .i64 (k : Int)] w fun en w' => ∃ v1, en = .returned (.tuple #[v1, .int .i64 0]) ∧ Own kByte 5 w' w.heap.size 0 v1 (pput (nats xs) k) ∧ Below w.heap.size w w' := by
  obtain ⟨A, c, rfl, h1, h2⟩ := h.form
  have HF := Lib.hid hf; have HM := Lib.hid hmy; clear hf hmy
  have hnl : (nats xs).length = xs.length := by simp [nats]
  have HNL := Lib.hid hnl; clear hnl
  go_enter Tryz.func154, Tryz.ntmps154
  go_wp2_with fail
  go_loopw [6, 7, 8] (fun ov nv iv wr => ∃ (i n : Nat) (out : Str), iv = .int .i64 (i : Int) ∧ i ≤ xs.length ∧ nv = .int .i64 (n : Int) ∧ n = i * k ∧ out = bp (bitsTo (nats xs) k i 0) ∧ Own kByte 5 wr w.heap.size 0 ov out ∧ Below w.heap.size w wr) (fun _ _ iv _ => xs.length - (intOf iv).toNat)
  case atStart => exact ⟨0, 0, [], rfl, by omega, rfl, by omega, by simp [bitsTo, bitsOf, allBits, bp, pk, bsize], Own.nil _ _ _ _ _, Below.refl _ _⟩
  case round =>
    obtain ⟨i, n, out, rfl, hi, rfl, hn, ho, HO, HB⟩ := hrel
    by_cases hlt : i < xs.length
    · have hnb : i * k ≤ 1000000 * 32 := Nat.mul_le_mul (by omega) hk
      obtain ⟨b0, off0, cs0, rfl, ⟨rfl, hwf⟩, hc0⟩ := h.at hlt
      have hx := hc0 0 _ rfl
      simp only [Nat.add_zero, show (kInt .i64).sz = 1 from rfl, Nat.mul_one] at hx
      have hfx := HF.out _ (List.getElem_mem hlt)
      have hmx := HM.out _ (List.getElem_mem hlt)
      have hnx : (nats xs)[i]'(by rw [HNL.out]; exact hlt) = xs[i].toNat := by simp [nats]
      have hx0 := belc HB hx
      have hstep : ∀ j, bitsTo (nats xs) k i (j + 1) = bitsTo (nats xs) k i j ++ [xs[i].toNat / 2 ^ j % 2 == 1] := fun j => by
        rw [bitsTo_snoc _ _ _ _ (by rw [HNL.out]; exact hlt), hnx]
      have hfull := bitsTo_full (nats xs) k i (by rw [HNL.out]; exact hlt)
      rw [← bitsTo_zero] at hfull
      have hlen := fun j => bitsTo_len (nats xs) k i j (by rw [HNL.out]; omega)
      rw [← hn] at hlen hnb
      have hn1 : n + k = (i + 1) * k := by rw [hn, Nat.add_mul]; omega
      clear hc0 hn
      have hpos : (0 : Int) ≤ xs[i] := hmx.1
      have hxm : xs[i] ≤ 4294967295 := hmx.2
      have hd1 : decide (xs[i] < 0) = false := by simp; omega
      have hd2 : decide ((2 : Int) ^ k ≤ xs[i]) = false := by
        have e : ((2 : Int) ^ k) = ((2 ^ k : Nat) : Int) := by simp
        have := hfx.2
        simp only [decide_eq_false_iff_not]
        rw [e]; omega
      clear hfx hmx hnx
      generalize xs[i] = x at *
      have HO1 := Lib.hid ho; have HS := Lib.hid hstep; have HFU := Lib.hid hfull; have HLE := Lib.hid hlen; have HN1 := Lib.hid hn1
      clear ho hstep hfull hlen hn1
      go_wp2_with fail
      go_quiet ((go_at_call 199; refine quiet_mine (power_nat _ _ (by omega))))
      go_wp2_with fail
      clear hd1 hd2
      go_loopw [6, 7, 9] (fun ov nv jv w2 => ∃ (j m : Nat) (o2 : Str), jv = .int .i64 (j : Int) ∧ j ≤ k ∧ nv = .int .i64 (m : Int) ∧ m = n + j ∧ o2 = bp (bitsTo (nats xs) k i j) ∧ Own kByte 5 w2 w.heap.size 0 ov o2 ∧ Below w.heap.size w w2) (fun _ _ jv _ => k - (intOf jv).toNat)
      case atStart => exact ⟨0, n, out, rfl, by omega, rfl, by omega, HO1.out, HO.below (pw_drewN _ _), below_step HB HB.size (pw_drewN _ _)⟩
      clear HO HB hx0
      case round =>
        obtain ⟨j, m, o2, rfl, hj, rfl, hm, ho2, HO, HB⟩ := hrel
        obtain ⟨A5, c5, rfl, _, _⟩ := HO.form
        have hx0 := belc HB hx
        by_cases hjk : j < k
        · have hbl := HLE.out j
          rw [← hm] at hbl
          obtain ⟨Q, old, hql, hqo, hro, hq1, hq2, hstep⟩ := bp_step (bitsTo (nats xs) k i j) (x.toNat / 2 ^ j % 2 == 1)
          rw [← HS.out] at hstep
          rw [← ho2] at hq1 hq2
          rw [hbl] at hql hqo hro hq1 hq2 hstep
          have hjq : m / 8 < Q.length := (List.getElem?_eq_some_iff.1 hqo).1
          have hol : o2.length ≤ 100000000 := by
            rw [ho2]; unfold bp; rw [pk_len, hbl]; unfold bsize; omega
          have hmb : m ≤ 100000000 := by omega
          have hq0 : ((x / 2 ^ j) % 2 == 1) = (x.toNat / 2 ^ j % 2 == 1) := by
            obtain ⟨y, rfl⟩ := Int.eq_ofNat_of_zero_le hpos
            rw [Bool.eq_iff_iff]
            simp only [beq_iff_eq, Int.toNat_natCast]
            have e : ((2 : Int) ^ j) = ((2 ^ j : Nat) : Int) := by simp
            rw [e, ← Int.natCast_ediv]
            omega
          have hpp : (0 : Int) < 2 ^ j := Int.pow_pos (by decide)
          have hq3 : 0 ≤ x / 2 ^ j := Int.ediv_nonneg hpos (by omega)
          have hq4 : x / 2 ^ j ≤ x := Int.ediv_le_self _ hpos
          have hq5 : x.tdiv (2 ^ j) = x / 2 ^ j := Int.tdiv_eq_ediv_of_nonneg hpos
          generalize (x.toNat / 2 ^ j % 2 == 1) = bit at *
          have hPW : ∀ W, Calls Tryz.prog 199 #[.int .i64 (j : Int)] W fun en w' => en = .returned (.int .i64 (2 ^ j)) ∧ W = w' := fun W => by
            have := power_ok (j : Int) W (by omega) (by omega)
            simpa using this
          generalize (2 : Int) ^ j = p at *
          generalize hqq : x / p = q at *
          have f1 : IntKind.i64.wrap q = q := IntWalk.i64_in _ (by omega)
          have f2 : q.tmod 2 = q % 2 := Int.tmod_eq_emod_of_nonneg (by omega)
          have f3 : IntKind.i64.wrap (q % 2) = q % 2 := IntWalk.i64_in _ (by omega)
          have f4 : (p == 0) = false := by simp; omega
          have HRO := Lib.hid hro; have HST := Lib.hid hstep; have HQO := Lib.hid hqo; have HPW := Lib.hid hPW; have HMN := Lib.hid hm; have HQQ := Lib.hid hqq
          clear hro hstep hqo hql ho2 hbl hPW hm hqq
          have e0 : (m : Int).tdiv 8 = (m : Int) / 8 := Int.tdiv_eq_ediv_of_nonneg (by omega)
          have e1 : IntKind.i64.wrap ((m : Int) / 8) = (m : Int) / 8 := IntWalk.i64_in _ (by omega)
          have e2 : (m : Int).tmod 8 = (m : Int) % 8 := Int.tmod_eq_emod_of_nonneg (by omega)
          have e3 : ((m : Int) / 8).toNat = m / 8 := by omega
          have e4 : ((m : Int) % 8).toNat = m % 8 := by omega
          have e5 : IntKind.i64.wrap ((m : Int) % 8) = (m : Int) % 8 := IntWalk.i64_in _ (by omega)
          have g1 : 0 ≤ (m : Int) / 8 := by omega
          have g2 : (m : Int) / 8 < (Q.length : Int) := by omega
          have g3 : 0 ≤ (m : Int) % 8 := by omega
          have g4 : (m : Int) % 8 < 8 := by omega
          by_cases hm8 : m % 8 = 0
          · have hd : ((m : Int) % 8 == 0) = true := by simp; omega
            have hq := hq1 hm8
            have HQ := Lib.hid hq
            clear hq hm8 hq1 hq2
            go_wp2_with (at_builtin; refine app1 (y := 0) Tryz.underlying36 Tryz.i5 HO rfl HB.size (by omega) ?_; intro v10 w10 HO10 hw10; have HB10 := hw10.below HB (Nat.le_refl _) HB.size; have hx1 := belc HB10 hx; rw [HQ.out] at HO10; obtain ⟨A10, c10, rfl, _, _⟩ := HO10.form; obtain ⟨g, rfl, _, _, _⟩ := HO10.block (by omega); obtain ⟨u, hu, hcu, hfu⟩ := own_at HO10 rfl HQO.out; injection hu with hu; subst hu)
            go_quiet ((go_at_call 199; refine quiet_mine (HPW.out _)))
            rename_i nq
            have HO11 := HO10.below (pw_drewN w10 nq)
            have HB11 := below_step HB10 HB10.size (pw_drewN w10 nq)
            have hcu11 : (w10.drewN nq).cell? _ = _ := hcu
            have hfu11 : (w10.drewN nq).frozen? _ = _ := hfu
            have hx11 : (w10.drewN nq).cell? _ = _ := hx1
            generalize w10.drewN nq = wz at *
            clear hcu hfu hx1
            cases bit with
            | false =>
              go_wp2_with fail
              go_roundw
              case rel => exact ⟨j + 1, m + 1, _, by go_num, by omega, by go_num, by have := HMN.out; omega, by rw [HST.out]; rfl, HO11, HB11⟩
              case measure => simp [intOf]; omega
            | true =>
              go_wp2_with fail
              refine wp_region_still_tail 14 (by kernel_rfl) (by kernel_rfl) ?_
              simp only [List.take_succ_cons, List.take_zero, List.drop_succ_cons, List.drop_zero]
              repeat still_step
              still_call ((power_ok _ _ (by omega) (by omega)).mono fun _ _ h => ⟨h.1, h.2.symm⟩)
              repeat still_step
              try refine wpStill_nil ?_
              change wpList _ _ _ _ _ wz.drew
              clear e0 e1 e2 e3 e4 e5 g1 g2 g3 g4
              go_wp2_with fail
              go_roundw
              case rel =>
                obtain ⟨hv, hv2⟩ := addbit (m % 8) old.toNat (Nat.mod_lt _ (by decide)) HRO.out
                have hS := HO11.set (m / 8) (y := UInt8.ofNat (old.toNat + 1 * 2 ^ (m % 8))) (u := .int .u8 (((old.toNat : Int) + 2 ^ (m % 8)) % 256)) rfl (by rw [hv]; show [Value.int .u8 _] = [Value.int .u8 _]; rw [UInt8.toNat_ofNat', Nat.mod_eq_of_lt hv2]) (by simp [kByte]) (Nat.zero_le _)
                exact ⟨j + 1, m + 1, _, by go_num, by omega, by go_num, by have := HMN.out; omega, by rw [HST.out]; rfl, hS.1, (hS.2.below HB11 (Nat.le_refl _) HB11.size).drew⟩
              case measure => simp [intOf]; omega
          · have hd : ((m : Int) % 8 == 0) = false := by simp; omega
            have hq := hq2 hm8
            subst hq
            clear hm8 hq1 hq2
            obtain ⟨g, rfl, _, _, _⟩ := HO.block (by omega)
            obtain ⟨u, hu, hcu, hfu⟩ := own_at HO rfl HQO.out
            injection hu with hu
            subst hu
            go_wp2_with fail
            go_quiet ((go_at_call 199; refine quiet_mine (HPW.out _)))
            rename_i nq
            have HO11 := HO.below (pw_drewN wr nq)
            have HB11 := below_step HB HB.size (pw_drewN wr nq)
            have hcu11 : (wr.drewN nq).cell? _ = _ := hcu
            have hfu11 : (wr.drewN nq).frozen? _ = _ := hfu
            have hx11 : (wr.drewN nq).cell? _ = _ := hx0
            generalize wr.drewN nq = wz at *
            clear hcu hfu hx0
            cases bit with
            | false =>
              go_wp2_with fail
              go_roundw
              case rel => exact ⟨j + 1, m + 1, _, by go_num, by omega, by go_num, by have := HMN.out; omega, by rw [HST.out]; rfl, HO11, HB11⟩
              case measure => simp [intOf]; omega
            | true =>
              go_wp2_with fail
              refine wp_region_still_tail 14 (by kernel_rfl) (by kernel_rfl) ?_
              simp only [List.take_succ_cons, List.take_zero, List.drop_succ_cons, List.drop_zero]
              repeat still_step
              still_call ((power_ok _ _ (by omega) (by omega)).mono fun _ _ h => ⟨h.1, h.2.symm⟩)
              repeat still_step
              try refine wpStill_nil ?_
              change wpList _ _ _ _ _ wz.drew
              clear e0 e1 e2 e3 e4 e5 g1 g2 g3 g4
              go_wp2_with fail
              go_roundw
              case rel =>
                obtain ⟨hv, hv2⟩ := addbit (m % 8) old.toNat (Nat.mod_lt _ (by decide)) HRO.out
                have hS := HO11.set (m / 8) (y := UInt8.ofNat (old.toNat + 1 * 2 ^ (m % 8))) (u := .int .u8 (((old.toNat : Int) + 2 ^ (m % 8)) % 256)) rfl (by rw [hv]; show [Value.int .u8 _] = [Value.int .u8 _]; rw [UInt8.toNat_ofNat', Nat.mod_eq_of_lt hv2]) (by simp [kByte]) (Nat.zero_le _)
                exact ⟨j + 1, m + 1, _, by go_num, by omega, by go_num, by have := HMN.out; omega, by rw [HST.out]; rfl, hS.1, (hS.2.below HB11 (Nat.le_refl _) HB11.size).drew⟩
              case measure => simp [intOf]; omega
        · obtain rfl : j = k := by omega
          have hm2 : m = (i + 1) * j := by rw [hm]; exact HN1.out
          rw [HFU.out] at ho2
          have HO2 := Lib.hid ho2; have HM2 := Lib.hid hm2
          clear ho2 hm2 hm
          go_wp2_with fail
          go_roundw
          case rel => exact ⟨i + 1, m, o2, by go_num, by omega, rfl, HM2.out, HO2.out, HO, HB⟩
          case measure => simp [intOf]; omega
    · obtain rfl : i = xs.length := by omega
      have hfin : bp (bitsTo (nats xs) k xs.length 0) = pput (nats xs) k := by
        rw [bitsTo_zero, ← HNL.out, List.take_length]
        unfold bp pput
        rw [allBits_len]; rfl
      rw [hfin] at ho
      have HO1 := Lib.hid ho
      clear ho hfin hn
      go_wp2_with fail
      go_ret2
      exact ⟨_, rfl, by rw [← HO1.out]; exact HO, HB⟩
end Go.Proofs.YtpjbibcjefkcaaaGreat
