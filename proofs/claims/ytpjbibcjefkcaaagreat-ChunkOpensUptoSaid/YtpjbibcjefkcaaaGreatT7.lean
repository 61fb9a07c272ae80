import Derived.Test.YtpjbibcjefkcaaaGreatT6
namespace Go.Proofs.YtpjbibcjefkcaaaGreat
open Go.RowKit

theorem zeroCells_one (z : Value) (m : Nat) : Builtin.zeroCells #[z] m = Array.replicate m z := by
  apply Array.ext
  · simp [Builtin.zeroCells]
  · intro i h1 h2; simp [Builtin.zeroCells, Nat.mod_one]
theorem reps_rep {α : Type} {K : α → List Value → Prop} {y : α} {z : Value} (h : K y [z]) (m : Nat) : Reps K (List.replicate m y) (List.replicate m z) := by
  induction m with
  | zero => rfl
  | succ m ih => rw [List.replicate_succ, List.replicate_succ]; exact ⟨[z], _, rfl, h, ih⟩
section
variable {P : Program} {ops : Array Oper} {rest : List Oper} {a : Act} {Q : Exit → Act → World → Prop}
/-- append([]T(nil), make([]T, n)...), elements of one cell. -/
theorem appZeros {α : Type} {d : Kd α} {W : World} {dst : Option Tmp} {s x : Operand} {t ti e ty : TypeId} {pos : String} {aft : Array Edge} {z : Value} {bytes m : Nat} {y : α}
    (ht : P.underlying t = some (.slice e)) (hti : P.underlying ti = some (.int .i64)) (hinfo : (P.info? e).map (fun i => (i.zero, i.size, i.bytes)) = some (some z, 1, bytes)) (hs : a.eval s = .slice none 0 0) (hx : a.eval x = .int .i64 (m : Int)) (h0 : 0 < m) (hn : m * bytes ≤ 140737488355328) (hb : 0 < bytes)
    (hz : z.cells = #[z]) (hd : d.sz = 1) (hy : ∀ w B, d.K w B y [z])
    (h : ∀ v1 w1, Own d e w1 W.heap.size 0 v1 (List.replicate m y) → Below W.heap.size W w1 → wpList P ops Q rest (a.put dst v1) w1) :
    wpList P ops Q ({ dst := dst, op := .call { callee := .builtin .append, args := #[s, x], argTypes := #[t, ti] }, type := ty, pos := pos, after := aft, guard := none } :: rest) a W := by
  obtain ⟨i, hi, hzz⟩ := Option.map_eq_some_iff.1 hinfo
  simp only [Prod.mk.injEq] at hzz
  obtain ⟨hz0, hz1, hz2⟩ := hzz
  have hle : m ≤ 140737488355328 := Nat.le_trans (Nat.le_mul_of_pos_right _ hb) hn
  have hw : IntKind.i64.wrap (m : Int) = m := by rw [IntKind.wrap_i64]; omega
  have hneg : ¬ ((m : Int) < 0) := by omega
  have hbig : ¬ (281474976710656 < (m : Int) * (bytes : Int)) := by rw [← Int.natCast_mul]; omega
  have hm : m ≠ 0 := by omega
  have h63 : ¬ (9223372036854775807 < (m : Int)) := by omega
  have h48 : ¬ (281474976710656 < Builtin.nextslicecap m 0 * bytes) := by rw [nextslicecap_zero h0]; omega
  have hr : (Builtin.append_ #[t, ti] ty #[.slice none 0 0, .int .i64 (m : Int)]).run P W = .ok (.slice (some ⟨W.heap.size, 0, none⟩) m (grownCap W m 0 e)) (W.drew.alloc (.cells (Array.replicate m z ++ Array.replicate (grownCap W m 0 e - m) z) e)) := by
    simp [Builtin.append_, run_underlying ht, run_underlying hti, sizeOf, typeInfo, zeroValue, hi, hz0, hz1, hz2, hz, asInt, asIntOf, hw, hneg, hbig, hm, h63, h48, Question.forced, run_firstCells_none, newRow, grownCap, zeroCells_one]
  refine wpList_plain rfl fun K hK => ?_
  unfold Oper.wp execOp
  simp only [resolve, invoke, builtin, Sem.run_bind, Sem.run_pure, Result.andThen_ok, List.map_toArray, List.map_cons, List.map_nil, hs, hx, hr]
  refine hK _ _ (h _ _ ?_ ?_)
  · have hge := grownCap_ge W m 0 e
    have hcm := grownCap_le_maxLen W m 0 e (by simp only [maxLen]; omega)
    refine ⟨List.replicate m z, ⟨by simp [hd], .inr ⟨_, _, _, by simp, Nat.le_refl _, heap_alloc_new W.drew _, by simpa using hge, hcm, ?_, ?_⟩⟩, ?_⟩
    · simp [hd]; omega
    · simp [hd]
    · exact reps_rep (hy _ _) m
  · exact ⟨rfl, rfl, rfl, by simp, fun k hk => heap_alloc_old W.drew _ hk⟩
end

set_option maxRecDepth 100000 in
theorem grow_ok (w : World) (n : Int) (h0 : 0 ≤ n) (h1 : n ≤ 140737488355328) : Calls Tryz.prog 138 #[.slice none 0 0, .int .i64 n] w (Fresh kByte 5 w []) := by
  obtain ⟨m, rfl⟩ := Int.eq_ofNat_of_zero_le h0
  by_cases hm : m = 0
  · subst hm
    go_enter Tryz.func138, Tryz.ntmps138
    go_wp2
    go_ret
    exact ⟨_, rfl, Own.nil _ _ _ _ _, Below.refl _ _⟩
  · have hp : 0 < (m : Int) := by omega
    go_enter Tryz.func138, Tryz.ntmps138
    go_wp2_with (at_builtin; refine appZeros (d := kByte) (y := 0) (m := m) Tryz.underlying36 Tryz.underlying3 Tryz.i5 rfl rfl (by omega) (by omega) (by decide) rfl rfl (fun _ _ => rfl) ?_)
    intro v1 w1 HO1 HB1
    obtain ⟨A, c, rfl, _, _⟩ := HO1.form
    simp only [List.length_replicate] at HO1
    go_wp2_with (refine cutOwn (xs := List.replicate m 0) Tryz.underlying36 Tryz.i5 HO1 rfl (by omega) (by simp) ?_)
    intro v2 HO2
    go_wp2
    go_ret
    exact ⟨_, rfl, by simpa using HO2, HB1⟩

/-- The bytes of slices, one behind the other. -/
abbrev kBs : Kd (List UInt8) := kSl 5 kByte

set_option maxRecDepth 100000 in
theorem concat_ok (w : World) (B : Nat) (v : Value) (xss : List (List UInt8)) (h : Rd kBs 36 w B v xss) (hl : xss.flatten.length ≤ 140737488355328) (hn : xss.length ≤ 1000000) : Calls Tryz.prog 85 #[v] w (Fresh kByte 5 w xss.flatten) := by
  obtain ⟨A, c, rfl, h1, h2⟩ := h.form
  go_enter Tryz.func85, Tryz.ntmps85
  go_wp2_with fail
  go_loop [3, 11] (fun s i => ∃ k : Nat, k ≤ xss.length ∧ i = .int .i64 (k : Int) ∧ s = .int .i64 ((xss.take k).flatten.length : Int)) (fun _ i => xss.length - (intOf i).toNat)
  case atStart => exact ⟨0, by omega, rfl, rfl⟩
  case round =>
    obtain ⟨k, hk, rfl, rfl⟩ := hrel
    by_cases hlt : k < xss.length
    · obtain ⟨b, off, cs, rfl, ⟨v1, rfl, hv1⟩, hc⟩ := h.at hlt
      obtain ⟨A1, c1, rfl, k1, k2⟩ := hv1.form
      have hc0 := hc 0 _ rfl
      simp only [Nat.add_zero, show kBs.sz = 1 from rfl, Nat.mul_one] at hc0
      have hs : (xss.take (k + 1)).flatten = (xss.take k).flatten ++ xss[k] := by
        rw [List.take_add_one, List.getElem?_eq_getElem hlt, List.flatten_append]; simp
      have hle : (xss.take (k + 1)).flatten.length ≤ xss.flatten.length := by
        conv => rhs; rw [← List.take_append_drop (k + 1) xss, List.flatten_append, List.length_append]
        omega
      rw [hs, List.length_append] at hle
      have HS := Lib.hid hs; clear hs hc hv1
      generalize xss[k] = xs at *
      generalize (xss.take k).flatten = ys at *
      go_wp2_with fail
      go_round
      case rel => exact ⟨k + 1, by omega, by go_num, by rw [HS.out, List.length_append]; go_num⟩
      case measure => simp [intOf]; omega
    · obtain rfl : k = xss.length := by omega
      rw [List.take_length]
      obtain ⟨F, hF⟩ : ∃ F, xss.flatten = F := ⟨_, rfl⟩
      rw [hF] at hl ⊢
      have HF := Lib.hid hF; clear hF
      go_wp2_with fail
      refine (grow_ok w F.length (by omega) (by omega)).mono ?_
      rintro e w1 ⟨v1, rfl, HO1, HB1⟩
      go_wp2_with fail
      go_loopw [6, 27] (fun v i wr => ∃ k : Nat, k ≤ xss.length ∧ i = .int .i64 (k : Int) ∧ Own kByte 5 wr w.heap.size 0 v (xss.take k).flatten ∧ Below w.heap.size w wr) (fun _ i _ => xss.length - (intOf i).toNat)
      case atStart => exact ⟨0, by omega, rfl, HO1, HB1⟩
      case round =>
        obtain ⟨k, hk, rfl, HO, HB⟩ := hrel
        by_cases hlt : k < xss.length
        · have hr := h.below HB
          obtain ⟨b, off, cs, rfl, ⟨v2, rfl, hv2⟩, hc⟩ := hr.at hlt
          obtain ⟨A2, c2, rfl, k1, k2⟩ := hv2.form
          have hc0 := hc 0 _ rfl
          simp only [Nat.add_zero, show kBs.sz = 1 from rfl, Nat.mul_one] at hc0
          have hs : (xss.take (k + 1)).flatten = (xss.take k).flatten ++ xss[k] := by
            rw [List.take_add_one, List.getElem?_eq_getElem hlt, List.flatten_append]; simp
          have hle : (xss.take (k + 1)).flatten.length ≤ F.length := by
            rw [← HF.out]
            conv => rhs; rw [← List.take_append_drop (k + 1) xss, List.flatten_append, List.length_append]
            omega
          rw [hs, List.length_append] at hle
          have HS := Lib.hid hs; clear hs hc
          generalize xss[k] = xs at *
          generalize (xss.take k).flatten = ys at *
          go_wp2_with (at_builtin; refine appRow Tryz.underlying36 Tryz.i5 HO hv2 (fun _ _ _ h => h) HB.size (by omega) ?_)
          intro v3 w3 HO3 hw3
          go_wp2
          go_roundw
          case rel => exact ⟨k + 1, by omega, by go_num, by rw [HS.out]; exact HO3, hw3.below HB (Nat.le_refl _) HB.size⟩
          case measure => simp [intOf]; omega
        · obtain rfl : k = xss.length := by omega
          rw [List.take_length, HF.out] at HO
          go_wp2_with fail
          go_ret
          exact ⟨_, rfl, by rw [HF.out]; exact HO, HB⟩
end Go.Proofs.YtpjbibcjefkcaaaGreat
