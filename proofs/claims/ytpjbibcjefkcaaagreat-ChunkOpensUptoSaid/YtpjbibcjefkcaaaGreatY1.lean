import Derived.Test.YtpjbibcjefkcaaaGreatX5
namespace Go.Proofs.YtpjbibcjefkcaaaGreat
open Go.RowKit

theorem belc {w w' : World} (h : Below w.heap.size w w') {b o : Nat} {u : Value} (hc : w.cell? ⟨b, o, none⟩ = some u) : w'.cell? ⟨b, o, none⟩ = some u := by
  rw [World.cell?_of_block (w := w) (w' := w') (a := ⟨b, o, none⟩) (h.block b (World.block_lt_of_cell? w ⟨b, o, none⟩ hc))]; exact hc

set_option maxRecDepth 100000 in
theorem power_ok (n : Int) (w : World) (h0 : 0 ≤ n) (h1 : n ≤ 61) : Calls Tryz.prog 199 #[.int .i64 n] w fun en w' => en = .returned (.int .i64 (2 ^ n.toNat)) ∧ w = w' := by
  obtain ⟨m, rfl⟩ := Int.eq_ofNat_of_zero_le h0
  rw [Int.toNat_natCast]
  go_enter Tryz.func199, Tryz.ntmps199
  go_wp2_with fail
  go_loop [3, 4] (fun x i => ∃ k p : Nat, k ≤ m ∧ i = .int .i64 (k : Int) ∧ x = .int .i64 (p : Int) ∧ p = 2 ^ k) (fun _ i => m - (intOf i).toNat)
  case atStart => exact ⟨0, 1, by omega, rfl, rfl, rfl⟩
  case round =>
    obtain ⟨k, p, hk, rfl, rfl, hp⟩ := hrel
    have hp2 : p ≤ 2 ^ 61 := by rw [hp]; exact Nat.pow_le_pow_right (by decide) (by omega)
    have hp3 : p ≤ 2305843009213693952 := hp2
    clear hp2
    have HP := Lib.hid hp; clear hp
    by_cases hlt : k < m
    · go_wp2_with fail
      go_round
      case rel => exact ⟨k + 1, 2 * p, by omega, by go_num, by go_num, by rw [HP.out, Nat.pow_succ, Nat.mul_comm]⟩
      case measure => simp [intOf]; omega
    · obtain rfl : k = m := by omega
      go_wp2_with fail
      go_ret
      exact ⟨by rw [HP.out]; simp, rfl⟩

theorem power_nat (k : Nat) (w : World) (h1 : k ≤ 61) : Calls Tryz.prog 199 #[.int .i64 (k : Int)] w fun en w' => en = .returned (.int .i64 (2 ^ k)) ∧ w = w' := by
  have := power_ok (k : Int) w (by omega) (by omega)
  simpa using this

/-! ### hopperref04 -/
theorem pk_false_len (l : List Bool) (n : Nat) (h : l.length = 8 * n) : pk l (n + 1) = pk l n ++ [0] := by
  unfold pk
  rw [List.range_succ, List.map_append]
  congr 1
  simp only [List.map_cons, List.map_nil, List.cons.injEq, and_true]
  rw [List.drop_of_length_le (by omega)]
  rfl
theorem addbit (r old : Nat) (hr : r < 8) (ho : old < 2 ^ r) : ((old : Int) + 2 ^ r) % 256 = ((old + 1 * 2 ^ r : Nat) : Int) ∧ old + 1 * 2 ^ r < 256 := by
  have h8 : (2 : Nat) ^ r ≤ 2 ^ 7 := Nat.pow_le_pow_right (by decide) (by omega)
  have h8' : (2 : Nat) ^ r ≤ 128 := h8
  have e : ((2 : Int) ^ r) = ((2 ^ r : Nat) : Int) := by simp
  rw [e]
  generalize (2 : Nat) ^ r = p at *
  exact ⟨by omega, by omega⟩
theorem rb_step (xs : List Bool) (j : Nat) (hlt : j < xs.length) : ∃ (Q : Str) (old : UInt8), Q.length = bsize (j + 1) ∧ Q[j / 8]? = some old ∧ old.toNat < 2 ^ (j % 8) ∧ (j % 8 = 0 → bput (xs.take j) ++ [0] = Q) ∧ (j % 8 ≠ 0 → bput (xs.take j) = Q) ∧
    bput (xs.take (j + 1)) = if xs[j] = true then Q.set (j / 8) (UInt8.ofNat (old.toNat + 1 * 2 ^ (j % 8))) else Q := by
  have htl : (xs.take j).length = j := by rw [List.length_take]; omega
  have htk : xs.take (j + 1) = xs.take j ++ [xs[j]] := by rw [List.take_add_one, List.getElem?_eq_getElem hlt]; rfl
  have hbs : bput (xs.take (j + 1)) = pk (xs.take j ++ [xs[j]]) (bsize (j + 1)) := by rw [htk]; unfold bput; rw [List.length_append, htl]; rfl
  have hbj : bput (xs.take j) = pk (xs.take j) (bsize j) := by unfold bput; rw [htl]
  have hr := pk_room (xs.take j) (bsize (j + 1)) (by rw [htl, pk_len]; unfold bsize; omega)
  have hsn := pk_snoc (xs.take j) true (bsize (j + 1)) (by rw [htl, pk_len]; unfold bsize; omega)
  have hfa := pk_false (xs.take j) (bsize (j + 1)) (by rw [htl]; unfold bsize; omega)
  simp only [htl] at hr hsn
  have hj : j / 8 < (pk (xs.take j) (bsize (j + 1))).length := by rw [pk_len]; unfold bsize; omega
  refine ⟨pk (xs.take j) (bsize (j + 1)), (pk (xs.take j) (bsize (j + 1)))[j / 8]'hj, pk_len _ _, List.getElem?_eq_getElem hj, hr, ?_, ?_, ?_⟩
  · intro hm
    rw [hbj, show bsize (j + 1) = bsize j + 1 by unfold bsize; omega, pk_false_len _ _ (by rw [htl]; unfold bsize; omega)]
  · intro hm
    rw [hbj, show bsize (j + 1) = bsize j by unfold bsize; omega]
  · rw [hbs]
    cases xs[j]
    · rw [hfa]; rfl
    · rw [hsn]; rfl
theorem own_at {α : Type} {d : Kd α} {w : World} {b B g n c : Nat} {e : TypeId} {Q : List α} (h : Own d e w b B (.slice (some ⟨g, 0, none⟩) n c) Q) (hd : d.sz = 1) {k : Nat} {y : α} (hk : Q[k]? = some y) : ∃ u, d.K w B y [u] ∧ w.cell? ⟨g, k, none⟩ = some u ∧ w.frozen? ⟨g, k, none⟩ = false := by
  obtain ⟨hlt, hy⟩ := List.getElem?_eq_some_iff.1 hk
  obtain ⟨g', hg, _, _, hf⟩ := h.block (by omega)
  injection hg with hg
  injection hg with hg1 hg2 hg3
  subst hg1
  obtain ⟨b1, off1, cs, hA, hkk, hc⟩ := h.rd.at hlt
  injection hA with hA
  injection hA with hA1 hA2 hA3
  subst hA1 hA2
  rw [hy] at hkk
  have hl := d.len hkk
  rw [hd] at hl
  obtain ⟨u, rfl⟩ := List.length_eq_one_iff.1 hl
  refine ⟨u, hkk, ?_, hf k⟩
  have := hc 0 u rfl
  rw [hd] at this
  simpa using this
set_option maxRecDepth 100000 in
set_option maxHeartbeats 1600000 in
theorem rbput_ok (w : World) (B : Nat) (v : Value) (xs : List Bool) (h : Rd kBool 4 w B v xs) (hl : xs.length ≤ 1000000) :
    Calls Tryz.prog 152 #[v] w (Fresh kByte 5 w (bput xs)) := by
  obtain ⟨A, c, rfl, h1, h2⟩ := h.form
  go_enter Tryz.func152, Tryz.ntmps152
  go_wp2_with fail
  go_loopw [3, 4] (fun ov i wr => ∃ (j : Nat) (out : Str), i = .int .i64 (j : Int) ∧ j ≤ xs.length ∧ out = bput (xs.take j) ∧ Own kByte 5 wr w.heap.size 0 ov out ∧ Below w.heap.size w wr) (fun _ i _ => xs.length - (intOf i).toNat)
  case atStart => exact ⟨0, [], rfl, by omega, by simp [bput, pk, bsize], Own.nil _ _ _ _ _, Below.refl _ _⟩
  case round =>
    obtain ⟨j, out, rfl, hj, ho, HO, HB⟩ := hrel
    obtain ⟨A5, c5, rfl, _, _⟩ := HO.form
    by_cases hlt : j < xs.length
    · obtain ⟨b0, off0, cs0, rfl, rfl, hc0⟩ := h.at hlt
      have hx := hc0 0 _ rfl
      simp only [Nat.add_zero, show kBool.sz = 1 from rfl, Nat.mul_one] at hx
      have hx0 := belc HB hx
      obtain ⟨Q, old, hql, hqo, hro, hq1, hq2, hstep⟩ := rb_step xs j hlt
      rw [← ho] at hq1 hq2
      have hjq : j / 8 < Q.length := (List.getElem?_eq_some_iff.1 hqo).1
      have hol : out.length ≤ 1000000 := by rw [ho, bput_len, bsize, List.length_take]; omega
      have HRO := Lib.hid hro; have HST := Lib.hid hstep; have HQO := Lib.hid hqo
      clear hro hstep hqo hql ho hc0
      generalize xs[j] = x at *
      have e0 : (j : Int).tdiv 8 = (j : Int) / 8 := Int.tdiv_eq_ediv_of_nonneg (by omega)
      have e1 : IntKind.i64.wrap ((j : Int) / 8) = (j : Int) / 8 := IntWalk.i64_in _ (by omega)
      have e2 : (j : Int).tmod 8 = (j : Int) % 8 := Int.tmod_eq_emod_of_nonneg (by omega)
      have e3 : ((j : Int) / 8).toNat = j / 8 := by omega
      have e4 : ((j : Int) % 8).toNat = j % 8 := by omega
      have e5 : IntKind.i64.wrap ((j : Int) % 8) = (j : Int) % 8 := IntWalk.i64_in _ (by omega)
      have g1 : 0 ≤ (j : Int) / 8 := by omega
      have g2 : (j : Int) / 8 < (Q.length : Int) := by omega
      have g3 : 0 ≤ (j : Int) % 8 := by omega
      have g4 : (j : Int) % 8 < 8 := by omega
      by_cases hm : j % 8 = 0
      · have hd : ((j : Int) % 8 == 0) = true := by simp; omega
        have hq := hq1 hm
        have HQ := Lib.hid hq
        clear hq hm hq1 hq2
        cases x with
        | false =>
          go_wp2_with (at_builtin; refine app1 (y := 0) Tryz.underlying36 Tryz.i5 HO rfl HB.size (by omega) ?_; intro v10 w10 HO10 hw10; have HB10 := hw10.below HB (Nat.le_refl _) HB.size; have hx1 := belc HB10 hx)
          go_roundw
          case rel => exact ⟨j + 1, _, by go_num, by omega, by rw [HST.out]; exact HQ.out, HO10, HB10⟩
          case measure => simp [intOf]; omega
        | true =>
          go_wp2_with (at_builtin; refine app1 (y := 0) Tryz.underlying36 Tryz.i5 HO rfl HB.size (by omega) ?_; intro v10 w10 HO10 hw10; have HB10 := hw10.below HB (Nat.le_refl _) HB.size; have hx1 := belc HB10 hx; rw [HQ.out] at HO10; obtain ⟨A10, c10, rfl, _, _⟩ := HO10.form; obtain ⟨g, rfl, _, _, _⟩ := HO10.block (by omega); obtain ⟨u, hu, hcu, hfu⟩ := own_at HO10 rfl HQO.out; injection hu with hu; subst hu)
          refine wp_region_still_tail 14 (by kernel_rfl) (by kernel_rfl) ?_
          simp only [List.take_succ_cons, List.take_zero, List.drop_succ_cons, List.drop_zero]
          repeat still_step
          still_call ((power_ok _ _ (by omega) (by omega)).mono fun _ _ h => ⟨h.1, h.2.symm⟩)
          repeat still_step
          try refine wpStill_nil ?_
          change wpList _ _ _ _ _ w10.drew
          clear e0 e1 e2 e3 e4 e5 g1 g2 g3 g4
          go_wp2_with fail
          go_roundw
          case rel =>
            obtain ⟨hv, hv2⟩ := addbit (j % 8) old.toNat (Nat.mod_lt _ (by decide)) HRO.out
            have hS := HO10.set (j / 8) (y := UInt8.ofNat (old.toNat + 1 * 2 ^ (j % 8))) (u := .int .u8 (((old.toNat : Int) + 2 ^ (j % 8)) % 256)) rfl (by rw [hv]; show [Value.int .u8 _] = [Value.int .u8 _]; rw [UInt8.toNat_ofNat', Nat.mod_eq_of_lt hv2]) (by simp [kByte]) (Nat.zero_le _)
            exact ⟨j + 1, _, by go_num, by omega, by rw [HST.out]; rfl, hS.1, (hS.2.below HB10 (Nat.le_refl _) HB10.size).drew⟩
          case measure => simp [intOf]; omega
      · have hd : ((j : Int) % 8 == 0) = false := by simp; omega
        have hq := hq2 hm
        subst hq
        clear hm hq1 hq2
        cases x with
        | false =>
          go_wp2_with fail
          go_roundw
          case rel => exact ⟨j + 1, _, by go_num, by omega, by rw [HST.out]; rfl, HO, HB⟩
          case measure => simp [intOf]; omega
        | true =>
          obtain ⟨g, rfl, _, _, _⟩ := HO.block (by omega)
          obtain ⟨u, hu, hcu, hfu⟩ := own_at HO rfl HQO.out
          injection hu with hu
          subst hu
          go_wp2_with fail
          refine wp_region_still_tail 14 (by kernel_rfl) (by kernel_rfl) ?_
          simp only [List.take_succ_cons, List.take_zero, List.drop_succ_cons, List.drop_zero]
          repeat still_step
          still_call ((power_ok _ _ (by omega) (by omega)).mono fun _ _ h => ⟨h.1, h.2.symm⟩)
          repeat still_step
          try refine wpStill_nil ?_
          change wpList _ _ _ _ _ wr.drew
          clear e0 e1 e2 e3 e4 e5 g1 g2 g3 g4
          go_wp2_with fail
          go_roundw
          case rel =>
            obtain ⟨hv, hv2⟩ := addbit (j % 8) old.toNat (Nat.mod_lt _ (by decide)) HRO.out
            have hS := HO.set (j / 8) (y := UInt8.ofNat (old.toNat + 1 * 2 ^ (j % 8))) (u := .int .u8 (((old.toNat : Int) + 2 ^ (j % 8)) % 256)) rfl (by rw [hv]; show [Value.int .u8 _] = [Value.int .u8 _]; rw [UInt8.toNat_ofNat', Nat.mod_eq_of_lt hv2]) (by simp [kByte]) (Nat.zero_le _)
            exact ⟨j + 1, _, by go_num, by omega, by rw [HST.out]; rfl, hS.1, (hS.2.below HB (Nat.le_refl _) HB.size).drew⟩
          case measure => simp [intOf]; omega
    · obtain rfl : j = xs.length := by omega
      rw [List.take_length] at ho
      have HOE := Lib.hid ho
      clear ho
      go_wp2_with fail
      go_ret
      exact ⟨_, rfl, by rw [← HOE.out]; exact HO, HB⟩
end Go.Proofs.YtpjbibcjefkcaaaGreat
