import Derived.Test.YtpjbibcjefkcaaaGreatW5
import Derived.Test.YtpjbibcjefkcaaaGreatReg
namespace Go.Proofs.YtpjbibcjefkcaaaGreat
open Go.RowKit

theorem wp_list {P : Program} {ops : Array Oper} {o : Oper} {a : Act} {w : World} {K : Act → World → Prop} {Q : Exit → Act → World → Prop} (hg : o.guard = none)
    (h : ∀ Q', (∀ a w, K a w → Q' .normal a w) → wpList P ops Q' [o] a w) : Oper.wp P o a w K Q := by
  have h1 := step_list (E := True) (Q := Q) hg h
  rwa [if_pos (by simp [Region.wanted, hg])] at h1
theorem Ks.new {a b c : World} {e : TypeId} (h : Ks a b) (k : Wr a.heap.size e b c) : Ks a c := fun E h1 h2 =>
  ⟨Nat.le_trans (h E h1 h2).size k.size, fun g hg _ => absurd hg (Nat.not_lt_zero _), fun g cs t fr ht hc => by
    have := (h E h1 h2).typed g cs t fr ht hc
    exact (k.low g (lt_of_some hc) (lt_of_some this)).trans this⟩
theorem DictOpt.ks {w w' v o} (h : DictOpt w v o) (hk : Ks w w') : DictOpt w' v o := by
  cases o with
  | none => exact h
  | some l =>
    obtain ⟨g, rfl, v, h1, h2⟩ := h
    exact ⟨g, rfl, v, (hk [171] (by decide) (by decide)).typed _ _ _ _ (by simp) h1, h2.mono (hk _ (by decide) (by decide))⟩
theorem Ks.size {a b : World} (h : Ks a b) : a.heap.size ≤ b.heap.size := (h [] (by simp) (by simp)).size
/-- The chunk's own cells. -/
def ChRow (w : World) (gx : Nat) (k : Int) (v1 v2 v3 v4 v5 v6 : Value) : Prop := w.heap[gx]? = some (.cells #[.int .i64 k, v1, v2, v3, v4, v5, v6] 165 (0, 0))
theorem ChRow.two {w gx k v1 v2 v3 v4 v5 v6} (h : ChRow w gx k v1 v2 v3 v4 v5 v6) : w.cell? ⟨gx, 1, none⟩ = some v1 ∧ w.cell? ⟨gx, 6, none⟩ = some v6 := by
  unfold ChRow at h; exact ⟨by simp [World.cell?, h], by simp [World.cell?, h]⟩
theorem ChRow.free {w gx k v1 v2 v3 v4 v5 v6} (h : ChRow w gx k v1 v2 v3 v4 v5 v6) (i : Nat) : w.frozen? ⟨gx, i, none⟩ = false := by
  unfold ChRow at h; simp [World.frozen?, h]
theorem ChRow.below {w w' gx k v1 v2 v3 v4 v5 v6} (h : ChRow w gx k v1 v2 v3 v4 v5 v6) (hb : Below w.heap.size w w') : ChRow w' gx k v1 v2 v3 v4 v5 v6 := (hb.block _ (lt_of_some h)).trans h
theorem ChRow.wr {w w' gx k v1 v2 v3 v4 v5 v6 b e} (h : ChRow w gx k v1 v2 v3 v4 v5 v6) (hw : Wr b e w w') (he : e ≠ 165) : ChRow w' gx k v1 v2 v3 v4 v5 v6 := hw.typed _ _ _ _ (fun k => he k.symm) h
theorem ChRow.set {w gx k v1 v2 v3 v4 v5 v6 u1 u6} (h : ChRow w gx k v1 v2 v3 v4 v5 v6) : ChRow ((w.setCell ⟨gx, 1, none⟩ u1).setCell ⟨gx, 6, none⟩ u6) gx k u1 v2 v3 v4 v5 u6 ∧ Wr gx 165 w ((w.setCell ⟨gx, 1, none⟩ u1).setCell ⟨gx, 6, none⟩ u6) := by
  unfold ChRow at h
  have h1 := heap_set (j := 1) (u := u1) h
  simp at h1
  exact ⟨by unfold ChRow; rw [heap_set h1]; simp, (wr_set (j := 1) (u := u1) h).trans (wr_set (j := 6) (u := u6) h1)⟩
theorem trues_cons (b : Bool) (l : List Bool) : trues (b :: l) = trues l + (if b = true then 1 else 0) := by cases b <;> simp [trues]
theorem trues_le (l : List Bool) : trues l ≤ l.length := List.countP_le_length ..
theorem bits_len (S : Cur) (many : Int) (h : 0 ≤ many) : ((S.bits_ many).1.length : Int) ≤ many := by
  have := S.mostV_le many h
  unfold Cur.bits_; simp only; split
  · simpa using h
  · split
    · simpa using h
    · simp [unbits]; omega
@[simp] theorem bits_b (S : Cur) (many : Int) : (S.bits_ many).2.b = S.b := by
  unfold Cur.bits_; simp only; split
  · simp
  · split <;> simp

/-- What Open gives: the cursor, the chunk, its values, their places. -/
def Cur.chunk (S : Cur) : Cur × Chk × List (Bool × Str) × List Int :=
  let p := (S.took 1).bits_ 4096
  let n := trues p.1
  if (strCur p.2 S.byte n).e ≠ 0 ∨ (strOut p.2 S.byte n).length ≠ n then (strCur p.2 S.byte n, chk0 0, [], [])
  else (strCur p.2 S.byte n, strChk p.2 (chk0 S.byte) n, valsFrom (strOut p.2 S.byte n) p.1 0, atFrom p.1 0)
def OpenPost (w : World) (g : Nat) (R : Cur × Chk × List (Bool × Str) × List Int) : Ending → World → Prop := fun en w' =>
  ∃ gx, en = .returned (.pointer (some ⟨gx, 0, none⟩)) ∧ w.heap.size ≤ gx ∧ Wr g 163 w w' ∧ CurAt w' g R.1 ∧ ChunkAt w' gx R.2.1 R.2.2.1 R.2.2.2
theorem open_bad {w w4 : World} {g : Nat} {S : Cur} {R} (hR : R = (S, chk0 0, [], [])) (HC : CurAt w4 g S) (HW : Wr g 163 w w4) :
    OpenPost w g R (.returned (.pointer (some ⟨w4.heap.size, 0, none⟩))) (w4.alloc (.cells #[.int .i64 0, .slice none 0 0, .slice none 0 0, .slice none 0 0, .pointer none, .slice none 0 0, .slice none 0 0] 165)) := by
  subst hR
  exact ⟨_, rfl, HW.size, HW.new (e' := 165) (Wr.of_below (below_alloc _)) HW.size, HC.below (below_alloc _), .slice none 0 0, .slice none 0 0, ⟨_, _, _, _, heap_alloc_new w4 _, Rd.nil _ _ _ _, Rd.nil _ _ _ _, rfl, Rd.nil _ _ _ _⟩, Rd.nil _ _ _ _, Rd.nil _ _ _ _⟩

set_option maxRecDepth 100000 in
set_option maxHeartbeats 3200000 in
theorem copen_ok (w : World) (g : Nat) (S : Cur) (h : CurAt w g S) (hl : S.b.length ≤ 140737488355328) :
    Calls Tryz.prog 46 #[.pointer (some ⟨g, 0, none⟩)] w (OpenPost w g S.chunk) := by
  have hu := Tryz.underlying165
  have hu74 := Tryz.underlying74
  have hkb := curbyte_lt S
  generalize hR : S.chunk = R
  unfold Cur.chunk at hR
  simp only at hR
  go_enter Tryz.func46, Tryz.ntmps46
  go_wp2_with fail
  refine (byte_ok w g S h hl).mono ?_
  rintro e w1 ⟨v1, rfl, rfl, HC1, HW1⟩
  have hb1 : (S.took 1).b.length ≤ 140737488355328 := by simpa using hl
  have hbl := bits_len (S.took 1) 4096 (by decide)
  have hb2 : ((S.took 1).bits_ 4096).2.b.length ≤ 140737488355328 := by simpa using hl
  generalize S.byte = k at *
  generalize S.took 1 = S1 at *
  have HR := Lib.hid hR; clear hR
  go_wp2_with fail
  have hX2 : ChAt (w1.alloc (.cells #[.int .i64 (k : Int), .slice none 0 0, .slice none 0 0, .slice none 0 0, .pointer none, .slice none 0 0, .slice none 0 0] 165)) w1.heap.size (chk0 k) (.slice none 0 0) (.slice none 0 0) :=
    ⟨_, _, _, _, heap_alloc_new w1 _, Rd.nil _ _ _ _, Rd.nil _ _ _ _, rfl, Rd.nil _ _ _ _⟩
  have HC2 := HC1.below (below_alloc (.cells #[.int .i64 (k : Int), .slice none 0 0, .slice none 0 0, .slice none 0 0, .pointer none, .slice none 0 0, .slice none 0 0] 165))
  have HW2 := HW1.new (e' := 165) (Wr.of_below (below_alloc (.cells #[.int .i64 (k : Int), .slice none 0 0, .slice none 0 0, .slice none 0 0, .pointer none, .slice none 0 0, .slice none 0 0] 165))) HW1.size
  have hgx := HW1.size
  generalize w1.alloc (.cells #[.int .i64 (k : Int), .slice none 0 0, .slice none 0 0, .slice none 0 0, .pointer none, .slice none 0 0, .slice none 0 0] 165) = w2 at *
  generalize w1.heap.size = gx at *
  refine (bread_ok w2 g S1 4096 HC2 hb1 (by decide) (by decide)).mono ?_
  rintro e w3 ⟨v3, rfl, HO3, HC3, HW3⟩
  have hR := HR.out; clear HR
  generalize S1.bits_ 4096 = p at *
  obtain ⟨bits, S2⟩ := p
  simp only at hR HO3 HC3 hbl hb2
  have HR := Lib.hid hR; clear hR
  obtain ⟨A3, c3, rfl, _, _⟩ := HO3.form
  have hX3 := hX2.wr HW3 (by decide)
  have HW3' := HW2.trans HW3
  have hct := count_ok w3 0 _ bits HO3.rd
  go_wp2_with (go_at_call 106; refine hct.mono ?_; rintro e wx ⟨rfl, rfl⟩)
  refine (strings_ok w w3 g gx S2 (chk0 k) _ _ (trues bits) HC3 hb2 hX3 HW3' hgx).mono ?_
  rintro e w4 ⟨v4, rfl, HO4, HC4, hX4, HW4, HK4⟩
  have HOB := (HO3.rd (B := 0))
  have hR := HR.out; clear HR
  have HOB4 := HOB.mono (HK4 _ (by decide) (by decide))
  have hct4 := count_ok w4 0 _ bits HOB4
  have htl := trues_le bits
  simp only [chk0] at HC4 HO4 hX4
  generalize strCur S2 (k : Int) (trues bits : Nat) = S3 at *
  generalize strOut S2 (k : Int) (trues bits : Nat) = out at *
  have hX4' : ChAt w4 gx (strChk S2 (chk0 k) (trues bits : Nat)) (.slice none 0 0) (.slice none 0 0) := hX4
  clear hX4
  generalize strChk S2 (chk0 k) (trues bits : Nat) = X at *
  obtain ⟨A4, c4, rfl, _, _⟩ := HO4.form
  have HOU := HO4.rd (B := 0)
  clear HO4 HO3 HOB
  by_cases he : S3.e = 0
  · have hde : decide (S3.e = 0) = true := by simp [he]
    by_cases hn : out.length = trues bits
    · have hni : ((out.length : Int) != (trues bits : Int)) = false := by rw [hn]; simp
      have hR2 : R = (S3, X, valsFrom out bits 0, atFrom bits 0) := by rw [← hR, if_neg (by rintro (h | h); exact h he; exact h hn)]
      have HR2 := Lib.hid hR2; clear hR hR2
      have HN := Lib.hid hn
      go_wp2_with (first | (go_at_call 47; refine (good_ok _ g _ HC4).mono ?_; rintro e w7 ⟨rfl, rfl⟩; rw [hde]) | (go_at_call 106; refine hct4.mono ?_; rintro e wx ⟨rfl, rfl⟩))
      clear hn
      obtain ⟨x2, x3, x4, x5, hrow, y2, y3, y4, y5⟩ := hX4'
      go_loopw [6, 34] (fun nv i wr => ∃ (j m : Nat) (vals : List (Bool × Str)) (at_ : List Int) (v1 v6 : Value), i = .int .i64 (j : Int) ∧ nv = .int .i64 (m : Int) ∧ j ≤ bits.length ∧ m + trues (bits.drop j) = out.length ∧ vals.length = j ∧ at_.length = j ∧
        vals ++ valsFrom out (bits.drop j) m = valsFrom out bits 0 ∧ at_ ++ atFrom (bits.drop j) m = atFrom bits 0 ∧ ChRow wr gx X.kind v1 x2 x3 x4 x5 v6 ∧ Own kVal 74 wr w4.heap.size 0 v1 vals ∧ Own (kInt .i64) 3 wr w4.heap.size 0 v6 at_ ∧ CurAt wr g S3 ∧ Wr g 163 w wr ∧ Ks w4 wr) (fun _ i _ => bits.length - (intOf i).toNat)
      case atStart => exact ⟨0, 0, [], [], _, _, rfl, rfl, by omega, by rw [HN.out]; simp, rfl, rfl, rfl, rfl, hrow, Own.nil _ _ _ _ _, Own.nil _ _ _ _ _, HC4, HW4, Ks.refl _⟩
      case round =>
        obtain ⟨j, m, vals, at_, v1, v6, rfl, rfl, hj, hm, hvl, hal, hs1, hs2, hX, HO1, HO6, HC, HW, HK⟩ := hrel
        by_cases hlt : j < bits.length
        · have hd : bits.drop j = bits[j] :: bits.drop (j + 1) := (List.getElem_cons_drop hlt).symm
          rw [hd] at hs1 hs2 hm
          rw [trues_cons] at hm
          obtain ⟨b0, off0, cs0, rfl, rfl, hc0⟩ := (HOB4.mono (HK _ (by decide) (by decide))).at hlt
          have hx0 := hc0 0 _ rfl
          simp only [Nat.add_zero, show kBool.sz = 1 from rfl, Nat.mul_one] at hx0
          clear hc0 hd
          have HOUr := HOU.mono (HK _ (by decide) (by decide))
          generalize hbj : bits[j] = bj at *
          have HBJ := Lib.hid hbj; clear hbj
          cases bj with
          | false =>
            have hs1' : (vals ++ [(true, [])]) ++ valsFrom out (bits.drop (j + 1)) m = valsFrom out bits 0 := by rw [← hs1, List.append_assoc]; rfl
            have hs2' : (at_ ++ [-1]) ++ atFrom (bits.drop (j + 1)) m = atFrom bits 0 := by rw [← hs2, List.append_assoc]; rfl
            have HS1 := Lib.hid hs1'; have HS2 := Lib.hid hs2'; have HM := Lib.hid hm; have HVL := Lib.hid hvl; have HAL := Lib.hid hal
            clear hs1 hs2 hs1' hs2' hm hvl hal
            go_wp2_with fail
            obtain ⟨A1, d1, rfl, _, _⟩ := HO1.form
            obtain ⟨A6, d6, rfl, _, _⟩ := HO6.form
            have hb0 : Below wr.heap.size wr wr.drew := below_drew _
            have hG0 := hX.below hb0
            refine wpTill.begin (T := fun w' => w'.cell? ⟨gx, 1, none⟩ = some (.slice A1 vals.length d1) ∧ w'.cell? ⟨gx, 6, none⟩ = some (.slice A6 at_.length d6)) (st := [17, 20]) (by kernel_rfl) ?_
            have hT := hG0.two
            refine wpTill.take0 0 40 (v := ?v101) rfl rfl (by kernel_rfl) (by kernel_rfl) (by kernel_rfl) (by kernel_rfl) (fun _ _ _ h => h) (by rfl) ?hy101 (.inr hT) ?rest101
            case hy101 => intro wq; go_simp; (try with_reducible rfl)
            simp only [Act.put, List.setIfInBounds_toArray, List.set_cons_zero, List.set_cons_succ]
            refine wpTill.take0 1 41 (v := ?v102) rfl rfl (by kernel_rfl) (by kernel_rfl) (by kernel_rfl) (by kernel_rfl) (fun _ _ _ h => h) (by rfl) ?hy102 (.inr hT) ?rest102
            case hy102 => intro wq; go_simp; (try with_reducible rfl)
            simp only [Act.put, List.setIfInBounds_toArray, List.set_cons_zero, List.set_cons_succ]
            refine wpTill.take0 2 42 (v := ?v103) rfl rfl (by kernel_rfl) (by kernel_rfl) (by kernel_rfl) (by kernel_rfl) (fun _ _ _ h => h) (by rfl) ?hy103 (.inr hT) ?rest103
            case hy103 => intro wq; go_simp; (try with_reducible rfl)
            simp only [Act.put, List.setIfInBounds_toArray, List.set_cons_zero, List.set_cons_succ]
            refine wpTill.take0 3 43 (v := ?v104) rfl rfl (by kernel_rfl) (by kernel_rfl) (by kernel_rfl) (by kernel_rfl) (fun _ _ _ h => h) (by rfl) ?hy104 (.inr hT) ?rest104
            case hy104 => intro wq; go_simp; (try with_reducible rfl)
            simp only [Act.put, List.setIfInBounds_toArray, List.set_cons_zero, List.set_cons_succ]
            refine wpTill.take0 4 44 (v := ?v105) rfl rfl (by kernel_rfl) (by kernel_rfl) (by kernel_rfl) (by kernel_rfl) (fun _ _ _ h => h) (by rfl) ?hy105 (.inr hT) ?rest105
            case hy105 => intro wq; go_simp; (try with_reducible rfl)
            simp only [Act.put, List.setIfInBounds_toArray, List.set_cons_zero, List.set_cons_succ]
            refine wpTill.take1 5 45 (v := ?v106) rfl rfl (by kernel_rfl) (by kernel_rfl) (by kernel_rfl) (by kernel_rfl) (fun _ _ _ h => h) (by rfl) ?hy106 hT ?rest106
            case hy106 => intro wq hq; (try dsimp only at hq); obtain ⟨hq1, hq2⟩ := hq; go_simp; (try with_reducible rfl)
            simp only [Act.put, List.setIfInBounds_toArray, List.set_cons_zero, List.set_cons_succ]
            refine wpTill.take0 6 46 (v := ?v107) rfl rfl (by kernel_rfl) (by kernel_rfl) (by kernel_rfl) (by kernel_rfl) (fun _ _ _ h => h) (by rfl) ?hy107 (.inr hT) ?rest107
            case hy107 => intro wq; go_simp; (try with_reducible rfl)
            simp only [Act.put, List.setIfInBounds_toArray, List.set_cons_zero, List.set_cons_succ]
            refine wpTill.take0 9 49 (v := ?v108) rfl rfl (by kernel_rfl) (by kernel_rfl) (by kernel_rfl) (by kernel_rfl) (fun _ _ _ h => h) (by rfl) ?hy108 (.inr hT) ?rest108
            case hy108 => intro wq; go_simp; (try with_reducible rfl)
            simp only [Act.put, List.setIfInBounds_toArray, List.set_cons_zero, List.set_cons_succ]
            refine wpTill.take0 10 50 (v := ?v109) rfl rfl (by kernel_rfl) (by kernel_rfl) (by kernel_rfl) (by kernel_rfl) (fun _ _ _ h => h) (by rfl) ?hy109 (.inr hT) ?rest109
            case hy109 => intro wq; go_simp; (try with_reducible rfl)
            simp only [Act.put, List.setIfInBounds_toArray, List.set_cons_zero, List.set_cons_succ]
            refine wpTill.take0 11 51 (v := ?v110) rfl rfl (by kernel_rfl) (by kernel_rfl) (by kernel_rfl) (by kernel_rfl) (fun _ _ _ h => h) (by rfl) ?hy110 (.inr hT) ?rest110
            case hy110 => intro wq; go_simp; (try with_reducible rfl)
            simp only [Act.put, List.setIfInBounds_toArray, List.set_cons_zero, List.set_cons_succ]
            refine wpTill.take1 12 52 (v := ?v111) rfl rfl (by kernel_rfl) (by kernel_rfl) (by kernel_rfl) (by kernel_rfl) (fun _ _ _ h => h) (by rfl) ?hy111 hT ?rest111
            case hy111 => intro wq hq; (try dsimp only at hq); obtain ⟨hq1, hq2⟩ := hq; go_simp; (try with_reducible rfl)
            simp only [Act.put, List.setIfInBounds_toArray, List.set_cons_zero, List.set_cons_succ]
            refine wpTill.two 7 13 (by kernel_rfl) rfl rfl (by rfl) (by rfl) (fun K hK => ?_) (fun K hK => ?_)
            · unfold Oper.wp
              go_simp
              have hbA : Below wr.heap.size wr (wr.alloc (Obj.cells #[Value.bool true, Value.string ⟨#[]⟩] 74)).drew := (below_alloc _).drew
              have HRvA := (own_lit (d := kVal) (e := 74) (W := wr) (b := 0) (B := 0) (n := 1) (xs := [(true, [])]) (cells := #[Value.bool true, Value.string ⟨#[]⟩]) rfl ⟨[Value.bool true, Value.string ⟨#[]⟩], [], rfl, ⟨[Value.bool true], [Value.string ⟨#[]⟩], rfl, rfl, rfl, by simp⟩, rfl⟩ (Nat.zero_le _) (by decide)).rd (B := 0).below (below_drew _)
              have HOvA := HO1.below hbA
              have HOaA := HO6.below hbA
              have hGA := hX.below hbA
              have HCA := HC.below hbA
              have HWA := HW.trans (Wr.of_below hbA)
              have HKA := HK.trans (Ks.of_below hbA)
              refine hK _ _ (.inr hGA.two) ?_
              clear hK; clear K
              generalize (wr.alloc (Obj.cells #[Value.bool true, Value.string ⟨#[]⟩] 74)).drew = WA at *
              refine wpTill.two 8 13 (by kernel_rfl) rfl rfl (by rfl) (by rfl) (fun K hK => ?_) (fun K hK => ?_)
              · refine wp_list (ops := #[]) rfl fun Q' hQ => ?_
                refine appRow (d := kVal) (e := 74) (b := w4.heap.size) (B := 0) (B' := 0) (xs := vals) (ys := [(true, [])]) Tryz.underlying55 Tryz.i74 HOvA HRvA (fun _ _ _ h => h) HKA.size (by simp [HVL.out]; omega) ?_
                intro vB WB HOvB hwB
                refine hQ _ _ ?_; clear hQ; clear Q'
                obtain ⟨AvB, cvB, rfl, _, _⟩ := HOvB.form
                have HOaB := HOaA.wr hwB (by decide) (by decide) (Nat.zero_le _)
                first | (have HRaB := HRaA.mono (hwB.keep (Nat.zero_le _) (by decide))) | skip
                have hGB := hGA.wr hwB (by decide)
                have HCB := HCA.wr hwB (by decide) (by decide)
                have HWB := HWA.new hwB HW4.size
                have HKB := HKA.new hwB
                refine hK _ _ (.inr hGB.two) ?_
                clear hK; clear K
                simp only [Act.put, List.setIfInBounds_toArray, List.set_cons_zero, List.set_cons_succ]
                refine wpTill.one 13 (by kernel_rfl) rfl (by rfl) fun K hK => ?_
                unfold Oper.wp
                go_simp
                have hbC : Below WB.heap.size WB (WB.alloc (Obj.cells #[Value.int IntKind.i64 (-1)] 3)) := below_alloc _
                have HRaC := (own_lit (d := kInt .i64) (e := 3) (W := WB) (b := 0) (B := 0) (n := 1) (xs := [-1]) (cells := #[Value.int IntKind.i64 (-1)]) rfl ⟨[Value.int IntKind.i64 (-1)], [], rfl, ⟨rfl, by decide⟩, rfl⟩ (Nat.zero_le _) (by decide)).rd (B := 0)
                have HOvC := HOvB.below hbC
                have HOaC := HOaB.below hbC
                have hGC := hGB.below hbC
                have HCC := HCB.below hbC
                have HWC := HWB.trans (Wr.of_below hbC)
                have HKC := HKB.trans (Ks.of_below hbC)
                refine hK _ _ (.inr hGC.two) ?_
                clear hK; clear K
                generalize (WB.alloc (Obj.cells #[Value.int IntKind.i64 (-1)] 3)) = WC at *
                refine wpTill.one 14 (by kernel_rfl) rfl (by rfl) fun K hK => ?_
                refine wp_list (ops := #[]) rfl fun Q' hQ => ?_
                refine appRow (d := kInt .i64) (e := 3) (b := w4.heap.size) (B := 0) (B' := 0) (xs := at_) (ys := [-1]) Tryz.underlying56 Tryz.i3 HOaC HRaC (fun _ _ _ h => h) HKC.size (by simp [HAL.out]; omega) ?_
                intro vD WD HOaD hwD
                refine hQ _ _ ?_; clear hQ; clear Q'
                obtain ⟨AaD, caD, rfl, _, _⟩ := HOaD.form
                have HOvD := HOvC.wr hwD (by decide) (by decide) (Nat.zero_le _)
                have hGD := hGC.wr hwD (by decide)
                have HCD := HCC.wr hwD (by decide) (by decide)
                have HWD := HWC.new hwD HW4.size
                have HKD := HKC.new hwD
                refine hK _ _ (.inr hGD.two) ?_
                clear hK; clear K
                simp only [Act.put, List.setIfInBounds_toArray, List.set_cons_zero, List.set_cons_succ]
                refine wpTill.take0 15 55 (v := ?v112) rfl rfl (by kernel_rfl) (by kernel_rfl) (by kernel_rfl) (by kernel_rfl) (fun _ _ _ h => h) (by rfl) ?hy112 (.inr hGD.two) ?rest112
                case hy112 => intro wq; go_simp; (try with_reducible rfl)
                simp only [Act.put, List.setIfInBounds_toArray, List.set_cons_zero, List.set_cons_succ]
                refine wpTill.take0 16 56 (v := ?v113) rfl rfl (by kernel_rfl) (by kernel_rfl) (by kernel_rfl) (by kernel_rfl) (fun _ _ _ h => h) (by rfl) ?hy113 (.inr hGD.two) ?rest113
                case hy113 => intro wq; go_simp; (try with_reducible rfl)
                simp only [Act.put, List.setIfInBounds_toArray, List.set_cons_zero, List.set_cons_succ]
                refine wpTill.one 17 (by kernel_rfl) rfl (by rfl) fun K hK => ?_
                have hf1 := hGD.free 1; have hf6 := hGD.free 6; obtain ⟨hc1, hc6⟩ := hGD.two
                unfold Oper.wp
                go_simp
                refine hK _ _ (.inl ⟨17, by simp, by kernel_rfl⟩) ?_
                clear hK; clear K
                refine wpTill.take0 18 57 (v := ?v114) rfl rfl (by kernel_rfl) (by kernel_rfl) (by kernel_rfl) (by kernel_rfl) (fun _ _ _ h => h) (by rfl) ?hy114 (.inl ⟨17, by simp, by kernel_rfl⟩) ?rest114
                case hy114 => intro wq; go_simp; (try with_reducible rfl)
                simp only [Act.put, List.setIfInBounds_toArray, List.set_cons_zero, List.set_cons_succ]
                refine wpTill.take0 19 58 (v := ?v115) rfl rfl (by kernel_rfl) (by kernel_rfl) (by kernel_rfl) (by kernel_rfl) (fun _ _ _ h => h) (by rfl) ?hy115 (.inl ⟨17, by simp, by kernel_rfl⟩) ?rest115
                case hy115 => intro wq; go_simp; (try with_reducible rfl)
                simp only [Act.put, List.setIfInBounds_toArray, List.set_cons_zero, List.set_cons_succ]
                refine wpTill.one 20 (by kernel_rfl) rfl (by rfl) fun K hK => ?_
                unfold Oper.wp
                go_simp
                refine hK _ _ (.inl ⟨17, by simp, by kernel_rfl⟩) ?_
                clear hK; clear K
                refine wpTill.done (by kernel_rfl) ?_ _
                go_simp
                go_wp2
                obtain ⟨hGs, hws⟩ := hGD.set (u1 := Value.slice AvB (vals.length + 1) cvB) (u6 := Value.slice AaD (at_.length + 1) caD)
                simp only [List.length_append, List.length_singleton] at HOvD HOaD
                go_roundw
                case rel => exact ⟨j + 1, m, vals ++ [(true, [])], at_ ++ [-1], _, _, by go_num, rfl, by omega, by have := HM.out; simpa using this, by simp [HVL.out], by simp [HAL.out], HS1.out, HS2.out, hGs, HOvD.wr hws (by decide) (by decide) (Nat.zero_le _), HOaD.wr hws (by decide) (by decide) (Nat.zero_le _), HCD.wr hws (by decide) (by decide), HWD.new hws hgx, HKD.trans (Ks.of5 hws)⟩
                case measure => simp [intOf]; omega
              · unfold Oper.wp
                go_simp
                have hbB : Below WA.heap.size WA (WA.alloc (Obj.cells #[Value.int IntKind.i64 (-1)] 3)) := below_alloc _
                have HRaB := (own_lit (d := kInt .i64) (e := 3) (W := WA) (b := 0) (B := 0) (n := 1) (xs := [-1]) (cells := #[Value.int IntKind.i64 (-1)]) rfl ⟨[Value.int IntKind.i64 (-1)], [], rfl, ⟨rfl, by decide⟩, rfl⟩ (Nat.zero_le _) (by decide)).rd (B := 0)
                have HRvB := HRvA.below hbB
                have HOvB := HOvA.below hbB
                have HOaB := HOaA.below hbB
                have hGB := hGA.below hbB
                have HCB := HCA.below hbB
                have HWB := HWA.trans (Wr.of_below hbB)
                have HKB := HKA.trans (Ks.of_below hbB)
                refine hK _ _ (.inr hGB.two) ?_
                clear hK; clear K
                generalize (WA.alloc (Obj.cells #[Value.int IntKind.i64 (-1)] 3)) = WB at *
                refine wpTill.one 8 (by kernel_rfl) rfl (by rfl) fun K hK => ?_
                refine wp_list (ops := #[]) rfl fun Q' hQ => ?_
                refine appRow (d := kVal) (e := 74) (b := w4.heap.size) (B := 0) (B' := 0) (xs := vals) (ys := [(true, [])]) Tryz.underlying55 Tryz.i74 HOvB HRvB (fun _ _ _ h => h) HKB.size (by simp [HVL.out]; omega) ?_
                intro vC WC HOvC hwC
                refine hQ _ _ ?_; clear hQ; clear Q'
                obtain ⟨AvC, cvC, rfl, _, _⟩ := HOvC.form
                have HOaC := HOaB.wr hwC (by decide) (by decide) (Nat.zero_le _)
                first | (have HRaC := HRaB.mono (hwC.keep (Nat.zero_le _) (by decide))) | skip
                have hGC := hGB.wr hwC (by decide)
                have HCC := HCB.wr hwC (by decide) (by decide)
                have HWC := HWB.new hwC HW4.size
                have HKC := HKB.new hwC
                refine hK _ _ (.inr hGC.two) ?_
                clear hK; clear K
                simp only [Act.put, List.setIfInBounds_toArray, List.set_cons_zero, List.set_cons_succ]
                refine wpTill.one 14 (by kernel_rfl) rfl (by rfl) fun K hK => ?_
                refine wp_list (ops := #[]) rfl fun Q' hQ => ?_
                refine appRow (d := kInt .i64) (e := 3) (b := w4.heap.size) (B := 0) (B' := 0) (xs := at_) (ys := [-1]) Tryz.underlying56 Tryz.i3 HOaC HRaC (fun _ _ _ h => h) HKC.size (by simp [HAL.out]; omega) ?_
                intro vD WD HOaD hwD
                refine hQ _ _ ?_; clear hQ; clear Q'
                obtain ⟨AaD, caD, rfl, _, _⟩ := HOaD.form
                have HOvD := HOvC.wr hwD (by decide) (by decide) (Nat.zero_le _)
                have hGD := hGC.wr hwD (by decide)
                have HCD := HCC.wr hwD (by decide) (by decide)
                have HWD := HWC.new hwD HW4.size
                have HKD := HKC.new hwD
                refine hK _ _ (.inr hGD.two) ?_
                clear hK; clear K
                simp only [Act.put, List.setIfInBounds_toArray, List.set_cons_zero, List.set_cons_succ]
                refine wpTill.take0 15 55 (v := ?v116) rfl rfl (by kernel_rfl) (by kernel_rfl) (by kernel_rfl) (by kernel_rfl) (fun _ _ _ h => h) (by rfl) ?hy116 (.inr hGD.two) ?rest116
                case hy116 => intro wq; go_simp; (try with_reducible rfl)
                simp only [Act.put, List.setIfInBounds_toArray, List.set_cons_zero, List.set_cons_succ]
                refine wpTill.take0 16 56 (v := ?v117) rfl rfl (by kernel_rfl) (by kernel_rfl) (by kernel_rfl) (by kernel_rfl) (fun _ _ _ h => h) (by rfl) ?hy117 (.inr hGD.two) ?rest117
                case hy117 => intro wq; go_simp; (try with_reducible rfl)
                simp only [Act.put, List.setIfInBounds_toArray, List.set_cons_zero, List.set_cons_succ]
                refine wpTill.one 17 (by kernel_rfl) rfl (by rfl) fun K hK => ?_
                have hf1 := hGD.free 1; have hf6 := hGD.free 6; obtain ⟨hc1, hc6⟩ := hGD.two
                unfold Oper.wp
                go_simp
                refine hK _ _ (.inl ⟨17, by simp, by kernel_rfl⟩) ?_
                clear hK; clear K
                refine wpTill.take0 18 57 (v := ?v118) rfl rfl (by kernel_rfl) (by kernel_rfl) (by kernel_rfl) (by kernel_rfl) (fun _ _ _ h => h) (by rfl) ?hy118 (.inl ⟨17, by simp, by kernel_rfl⟩) ?rest118
                case hy118 => intro wq; go_simp; (try with_reducible rfl)
                simp only [Act.put, List.setIfInBounds_toArray, List.set_cons_zero, List.set_cons_succ]
                refine wpTill.take0 19 58 (v := ?v119) rfl rfl (by kernel_rfl) (by kernel_rfl) (by kernel_rfl) (by kernel_rfl) (fun _ _ _ h => h) (by rfl) ?hy119 (.inl ⟨17, by simp, by kernel_rfl⟩) ?rest119
                case hy119 => intro wq; go_simp; (try with_reducible rfl)
                simp only [Act.put, List.setIfInBounds_toArray, List.set_cons_zero, List.set_cons_succ]
                refine wpTill.one 20 (by kernel_rfl) rfl (by rfl) fun K hK => ?_
                unfold Oper.wp
                go_simp
                refine hK _ _ (.inl ⟨17, by simp, by kernel_rfl⟩) ?_
                clear hK; clear K
                refine wpTill.done (by kernel_rfl) ?_ _
                go_simp
                go_wp2
                obtain ⟨hGs, hws⟩ := hGD.set (u1 := Value.slice AvC (vals.length + 1) cvC) (u6 := Value.slice AaD (at_.length + 1) caD)
                simp only [List.length_append, List.length_singleton] at HOvD HOaD
                go_roundw
                case rel => exact ⟨j + 1, m, vals ++ [(true, [])], at_ ++ [-1], _, _, by go_num, rfl, by omega, by have := HM.out; simpa using this, by simp [HVL.out], by simp [HAL.out], HS1.out, HS2.out, hGs, HOvD.wr hws (by decide) (by decide) (Nat.zero_le _), HOaD.wr hws (by decide) (by decide) (Nat.zero_le _), HCD.wr hws (by decide) (by decide), HWD.new hws hgx, HKD.trans (Ks.of5 hws)⟩
                case measure => simp [intOf]; omega
            · unfold Oper.wp
              go_simp
              have hbA : Below wr.heap.size wr (wr.alloc (Obj.cells #[Value.int IntKind.i64 (-1)] 3)).drew := (below_alloc _).drew
              have HRaA := (own_lit (d := kInt .i64) (e := 3) (W := wr) (b := 0) (B := 0) (n := 1) (xs := [-1]) (cells := #[Value.int IntKind.i64 (-1)]) rfl ⟨[Value.int IntKind.i64 (-1)], [], rfl, ⟨rfl, by decide⟩, rfl⟩ (Nat.zero_le _) (by decide)).rd (B := 0).below (below_drew _)
              have HOvA := HO1.below hbA
              have HOaA := HO6.below hbA
              have hGA := hX.below hbA
              have HCA := HC.below hbA
              have HWA := HW.trans (Wr.of_below hbA)
              have HKA := HK.trans (Ks.of_below hbA)
              refine hK _ _ (.inr hGA.two) ?_
              clear hK; clear K
              generalize (wr.alloc (Obj.cells #[Value.int IntKind.i64 (-1)] 3)).drew = WA at *
              refine wpTill.one 7 (by kernel_rfl) rfl (by rfl) fun K hK => ?_
              unfold Oper.wp
              go_simp
              have hbB : Below WA.heap.size WA (WA.alloc (Obj.cells #[Value.bool true, Value.string ⟨#[]⟩] 74)) := below_alloc _
              have HRvB := (own_lit (d := kVal) (e := 74) (W := WA) (b := 0) (B := 0) (n := 1) (xs := [(true, [])]) (cells := #[Value.bool true, Value.string ⟨#[]⟩]) rfl ⟨[Value.bool true, Value.string ⟨#[]⟩], [], rfl, ⟨[Value.bool true], [Value.string ⟨#[]⟩], rfl, rfl, rfl, by simp⟩, rfl⟩ (Nat.zero_le _) (by decide)).rd (B := 0)
              have HRaB := HRaA.below hbB
              have HOvB := HOvA.below hbB
              have HOaB := HOaA.below hbB
              have hGB := hGA.below hbB
              have HCB := HCA.below hbB
              have HWB := HWA.trans (Wr.of_below hbB)
              have HKB := HKA.trans (Ks.of_below hbB)
              refine hK _ _ (.inr hGB.two) ?_
              clear hK; clear K
              generalize (WA.alloc (Obj.cells #[Value.bool true, Value.string ⟨#[]⟩] 74)) = WB at *
              refine wpTill.one 8 (by kernel_rfl) rfl (by rfl) fun K hK => ?_
              refine wp_list (ops := #[]) rfl fun Q' hQ => ?_
              refine appRow (d := kVal) (e := 74) (b := w4.heap.size) (B := 0) (B' := 0) (xs := vals) (ys := [(true, [])]) Tryz.underlying55 Tryz.i74 HOvB HRvB (fun _ _ _ h => h) HKB.size (by simp [HVL.out]; omega) ?_
              intro vC WC HOvC hwC
              refine hQ _ _ ?_; clear hQ; clear Q'
              obtain ⟨AvC, cvC, rfl, _, _⟩ := HOvC.form
              have HOaC := HOaB.wr hwC (by decide) (by decide) (Nat.zero_le _)
              first | (have HRaC := HRaB.mono (hwC.keep (Nat.zero_le _) (by decide))) | skip
              have hGC := hGB.wr hwC (by decide)
              have HCC := HCB.wr hwC (by decide) (by decide)
              have HWC := HWB.new hwC HW4.size
              have HKC := HKB.new hwC
              refine hK _ _ (.inr hGC.two) ?_
              clear hK; clear K
              simp only [Act.put, List.setIfInBounds_toArray, List.set_cons_zero, List.set_cons_succ]
              refine wpTill.one 14 (by kernel_rfl) rfl (by rfl) fun K hK => ?_
              refine wp_list (ops := #[]) rfl fun Q' hQ => ?_
              refine appRow (d := kInt .i64) (e := 3) (b := w4.heap.size) (B := 0) (B' := 0) (xs := at_) (ys := [-1]) Tryz.underlying56 Tryz.i3 HOaC HRaC (fun _ _ _ h => h) HKC.size (by simp [HAL.out]; omega) ?_
              intro vD WD HOaD hwD
              refine hQ _ _ ?_; clear hQ; clear Q'
              obtain ⟨AaD, caD, rfl, _, _⟩ := HOaD.form
              have HOvD := HOvC.wr hwD (by decide) (by decide) (Nat.zero_le _)
              have hGD := hGC.wr hwD (by decide)
              have HCD := HCC.wr hwD (by decide) (by decide)
              have HWD := HWC.new hwD HW4.size
              have HKD := HKC.new hwD
              refine hK _ _ (.inr hGD.two) ?_
              clear hK; clear K
              simp only [Act.put, List.setIfInBounds_toArray, List.set_cons_zero, List.set_cons_succ]
              refine wpTill.take0 15 55 (v := ?v120) rfl rfl (by kernel_rfl) (by kernel_rfl) (by kernel_rfl) (by kernel_rfl) (fun _ _ _ h => h) (by rfl) ?hy120 (.inr hGD.two) ?rest120
              case hy120 => intro wq; go_simp; (try with_reducible rfl)
              simp only [Act.put, List.setIfInBounds_toArray, List.set_cons_zero, List.set_cons_succ]
              refine wpTill.take0 16 56 (v := ?v121) rfl rfl (by kernel_rfl) (by kernel_rfl) (by kernel_rfl) (by kernel_rfl) (fun _ _ _ h => h) (by rfl) ?hy121 (.inr hGD.two) ?rest121
              case hy121 => intro wq; go_simp; (try with_reducible rfl)
              simp only [Act.put, List.setIfInBounds_toArray, List.set_cons_zero, List.set_cons_succ]
              refine wpTill.one 17 (by kernel_rfl) rfl (by rfl) fun K hK => ?_
              have hf1 := hGD.free 1; have hf6 := hGD.free 6; obtain ⟨hc1, hc6⟩ := hGD.two
              unfold Oper.wp
              go_simp
              refine hK _ _ (.inl ⟨17, by simp, by kernel_rfl⟩) ?_
              clear hK; clear K
              refine wpTill.take0 18 57 (v := ?v122) rfl rfl (by kernel_rfl) (by kernel_rfl) (by kernel_rfl) (by kernel_rfl) (fun _ _ _ h => h) (by rfl) ?hy122 (.inl ⟨17, by simp, by kernel_rfl⟩) ?rest122
              case hy122 => intro wq; go_simp; (try with_reducible rfl)
              simp only [Act.put, List.setIfInBounds_toArray, List.set_cons_zero, List.set_cons_succ]
              refine wpTill.take0 19 58 (v := ?v123) rfl rfl (by kernel_rfl) (by kernel_rfl) (by kernel_rfl) (by kernel_rfl) (fun _ _ _ h => h) (by rfl) ?hy123 (.inl ⟨17, by simp, by kernel_rfl⟩) ?rest123
              case hy123 => intro wq; go_simp; (try with_reducible rfl)
              simp only [Act.put, List.setIfInBounds_toArray, List.set_cons_zero, List.set_cons_succ]
              refine wpTill.one 20 (by kernel_rfl) rfl (by rfl) fun K hK => ?_
              unfold Oper.wp
              go_simp
              refine hK _ _ (.inl ⟨17, by simp, by kernel_rfl⟩) ?_
              clear hK; clear K
              refine wpTill.done (by kernel_rfl) ?_ _
              go_simp
              go_wp2
              obtain ⟨hGs, hws⟩ := hGD.set (u1 := Value.slice AvC (vals.length + 1) cvC) (u6 := Value.slice AaD (at_.length + 1) caD)
              simp only [List.length_append, List.length_singleton] at HOvD HOaD
              go_roundw
              case rel => exact ⟨j + 1, m, vals ++ [(true, [])], at_ ++ [-1], _, _, by go_num, rfl, by omega, by have := HM.out; simpa using this, by simp [HVL.out], by simp [HAL.out], HS1.out, HS2.out, hGs, HOvD.wr hws (by decide) (by decide) (Nat.zero_le _), HOaD.wr hws (by decide) (by decide) (Nat.zero_le _), HCD.wr hws (by decide) (by decide), HWD.new hws hgx, HKD.trans (Ks.of5 hws)⟩
              case measure => simp [intOf]; omega
          | true =>
            have hs1' : (vals ++ [(false, out.getD m [])]) ++ valsFrom out (bits.drop (j + 1)) (m + 1) = valsFrom out bits 0 := by rw [← hs1, List.append_assoc]; rfl
            have hs2' : (at_ ++ [(m : Int)]) ++ atFrom (bits.drop (j + 1)) (m + 1) = atFrom bits 0 := by rw [← hs2, List.append_assoc]; rfl
            have hmlt : m < out.length := by simp at hm; omega
            have hmw : (Lit.int IntKind.i64 (m : Int)).wf = true := by
              have hob : out.length ≤ 4096 := by rw [HN.out]; omega
              go_wf
            have hcell : ∀ W, Ks w4 W → ∃ b1 off1, A4 = some ⟨b1, off1, none⟩ ∧ W.cell? ⟨b1, off1 + m, none⟩ = some (.string ⟨out[m].toArray⟩) ∧ out[m].length ≤ 140737488355328 := fun W hW => by
              obtain ⟨b1, off1, cs1, hA, ⟨rfl, hl1⟩, hc1⟩ := (HOU.mono (hW _ (by decide) (by decide))).at hmlt
              have := hc1 0 _ rfl
              simp only [Nat.add_zero, show kStr.sz = 1 from rfl, Nat.mul_one] at this
              exact ⟨b1, off1, hA, this, hl1⟩
            have hgd : out.getD m [] = out[m] := by simp [List.getD, hmlt]
            rw [hgd] at hs1'
            have HS1 := Lib.hid hs1'; have HS2 := Lib.hid hs2'; have HM := Lib.hid hm; have HVL := Lib.hid hvl; have HAL := Lib.hid hal
            clear hs1 hs2 hs1' hs2' hm hvl hal hgd
            generalize out[m] = s at *
            obtain ⟨b1, off1, rfl, hcr, hsl⟩ := hcell wr HK
            have hcell2 : ∀ W, Ks w4 W → W.cell? ⟨b1, off1 + m, none⟩ = some (.string ⟨s.toArray⟩) := fun W hW => by
              obtain ⟨b2, off2, hA, h1, _⟩ := hcell W hW
              injection hA with hA; injection hA with e1 e2 e3; subst e1 e2
              exact h1
            have HCELL := Lib.hid hcell2
            clear hcell hcell2
            go_wp2_with fail
            obtain ⟨A1, d1, rfl, _, _⟩ := HO1.form
            obtain ⟨A6, d6, rfl, _, _⟩ := HO6.form
            have hb0 : Below wr.heap.size wr wr.drew := below_drew _
            have hG0 := hX.below hb0
            have hmi : (m : Int) < (trues bits : Int) := by rw [← HN.out]; omega
            have hmi0 : (0 : Int) ≤ (m : Int) := Int.natCast_nonneg _
            refine wpTill.begin (T := fun w' => w'.cell? ⟨gx, 1, none⟩ = some (.slice A1 vals.length d1) ∧ w'.cell? ⟨gx, 6, none⟩ = some (.slice A6 at_.length d6) ∧ w'.cell? ⟨b1, off1 + m, none⟩ = some (.string ⟨s.toArray⟩)) (st := [22, 25]) (by kernel_rfl) ?_
            have TT : ∀ W, ChRow W gx X.kind (.slice A1 vals.length d1) x2 x3 x4 x5 (.slice A6 at_.length d6) → Ks w4 W → W.cell? ⟨gx, 1, none⟩ = some (.slice A1 vals.length d1) ∧ W.cell? ⟨gx, 6, none⟩ = some (.slice A6 at_.length d6) ∧ W.cell? ⟨b1, off1 + m, none⟩ = some (.string ⟨s.toArray⟩) := fun W h1 h2 => ⟨h1.two.1, h1.two.2, HCELL.out W h2⟩
            have hT := TT _ hG0 (HK.trans (Ks.of_below hb0))
            refine wpTill.take0 0 59 (v := ?v124) rfl rfl (by kernel_rfl) (by kernel_rfl) (by kernel_rfl) (by kernel_rfl) (fun _ _ _ h => h) (by rfl) ?hy124 (.inr hT) ?rest124
            case hy124 => intro wq; go_simp; (try with_reducible rfl)
            simp only [Act.put, List.setIfInBounds_toArray, List.set_cons_zero, List.set_cons_succ]
            refine wpTill.take0 1 60 (v := ?v125) rfl rfl (by kernel_rfl) (by kernel_rfl) (by kernel_rfl) (by kernel_rfl) (fun _ _ _ h => h) (by rfl) ?hy125 (.inr hT) ?rest125
            case hy125 => intro wq; go_simp; (try with_reducible rfl)
            simp only [Act.put, List.setIfInBounds_toArray, List.set_cons_zero, List.set_cons_succ]
            refine wpTill.take0 2 61 (v := ?v126) rfl rfl (by kernel_rfl) (by kernel_rfl) (by kernel_rfl) (by kernel_rfl) (fun _ _ _ h => h) (by rfl) ?hy126 (.inr hT) ?rest126
            case hy126 => intro wq; go_simp; (try with_reducible rfl)
            simp only [Act.put, List.setIfInBounds_toArray, List.set_cons_zero, List.set_cons_succ]
            refine wpTill.take0 3 62 (v := ?v127) rfl rfl (by kernel_rfl) (by kernel_rfl) (by kernel_rfl) (by kernel_rfl) (fun _ _ _ h => h) (by rfl) ?hy127 (.inr hT) ?rest127
            case hy127 => intro wq; go_simp; (try with_reducible rfl)
            simp only [Act.put, List.setIfInBounds_toArray, List.set_cons_zero, List.set_cons_succ]
            refine wpTill.take0 4 63 (v := ?v128) rfl rfl (by kernel_rfl) (by kernel_rfl) (by kernel_rfl) (by kernel_rfl) (fun _ _ _ h => h) (by rfl) ?hy128 (.inr hT) ?rest128
            case hy128 => intro wq; go_simp; (try with_reducible rfl)
            simp only [Act.put, List.setIfInBounds_toArray, List.set_cons_zero, List.set_cons_succ]
            refine wpTill.take1 5 64 (v := ?v129) rfl rfl (by kernel_rfl) (by kernel_rfl) (by kernel_rfl) (by kernel_rfl) (fun _ _ _ h => h) (by rfl) ?hy129 hT ?rest129
            case hy129 => intro wq hq; (try dsimp only at hq); obtain ⟨hq1, hq2, hq3⟩ := hq; go_simp; (try with_reducible rfl)
            simp only [Act.put, List.setIfInBounds_toArray, List.set_cons_zero, List.set_cons_succ]
            refine wpTill.take0 6 65 (v := ?v130) rfl rfl (by kernel_rfl) (by kernel_rfl) (by kernel_rfl) (by kernel_rfl) (fun _ _ _ h => h) (by rfl) ?hy130 (.inr hT) ?rest130
            case hy130 => intro wq; go_simp; (try with_reducible rfl)
            simp only [Act.put, List.setIfInBounds_toArray, List.set_cons_zero, List.set_cons_succ]
            refine wpTill.take0 7 66 (v := ?v131) rfl rfl (by kernel_rfl) (by kernel_rfl) (by kernel_rfl) (by kernel_rfl) (fun _ _ _ h => h) (by rfl) ?hy131 (.inr hT) ?rest131
            case hy131 => intro wq; go_simp; (try with_reducible rfl)
            simp only [Act.put, List.setIfInBounds_toArray, List.set_cons_zero, List.set_cons_succ]
            refine wpTill.take0 8 67 (v := ?v132) rfl rfl (by kernel_rfl) (by kernel_rfl) (by kernel_rfl) (by kernel_rfl) (fun _ _ _ h => h) (by rfl) ?hy132 (.inr hT) ?rest132
            case hy132 => intro wq; go_simp; (try with_reducible rfl)
            simp only [Act.put, List.setIfInBounds_toArray, List.set_cons_zero, List.set_cons_succ]
            refine wpTill.take1 9 68 (v := ?v133) rfl rfl (by kernel_rfl) (by kernel_rfl) (by kernel_rfl) (by kernel_rfl) (fun _ _ _ h => h) (by rfl) ?hy133 hT ?rest133
            case hy133 => intro wq hq; (try dsimp only at hq); obtain ⟨hq1, hq2, hq3⟩ := hq; go_simp; (try with_reducible rfl)
            simp only [Act.put, List.setIfInBounds_toArray, List.set_cons_zero, List.set_cons_succ]
            refine wpTill.take0 10 69 (v := ?v134) rfl rfl (by kernel_rfl) (by kernel_rfl) (by kernel_rfl) (by kernel_rfl) (fun _ _ _ h => h) (by rfl) ?hy134 (.inr hT) ?rest134
            case hy134 => intro wq; go_simp; (try with_reducible rfl)
            simp only [Act.put, List.setIfInBounds_toArray, List.set_cons_zero, List.set_cons_succ]
            refine wpTill.take0 13 72 (v := ?v135) rfl rfl (by kernel_rfl) (by kernel_rfl) (by kernel_rfl) (by kernel_rfl) (fun _ _ _ h => h) (by rfl) ?hy135 (.inr hT) ?rest135
            case hy135 => intro wq; go_simp; (try with_reducible rfl)
            simp only [Act.put, List.setIfInBounds_toArray, List.set_cons_zero, List.set_cons_succ]
            refine wpTill.take0 14 73 (v := ?v136) rfl rfl (by kernel_rfl) (by kernel_rfl) (by kernel_rfl) (by kernel_rfl) (fun _ _ _ h => h) (by rfl) ?hy136 (.inr hT) ?rest136
            case hy136 => intro wq; go_simp; (try with_reducible rfl)
            simp only [Act.put, List.setIfInBounds_toArray, List.set_cons_zero, List.set_cons_succ]
            refine wpTill.take0 15 74 (v := ?v137) rfl rfl (by kernel_rfl) (by kernel_rfl) (by kernel_rfl) (by kernel_rfl) (fun _ _ _ h => h) (by rfl) ?hy137 (.inr hT) ?rest137
            case hy137 => intro wq; go_simp; (try with_reducible rfl)
            simp only [Act.put, List.setIfInBounds_toArray, List.set_cons_zero, List.set_cons_succ]
            refine wpTill.take1 16 75 (v := ?v138) rfl rfl (by kernel_rfl) (by kernel_rfl) (by kernel_rfl) (by kernel_rfl) (fun _ _ _ h => h) (by rfl) ?hy138 hT ?rest138
            case hy138 => intro wq hq; (try dsimp only at hq); obtain ⟨hq1, hq2, hq3⟩ := hq; go_simp; (try with_reducible rfl)
            simp only [Act.put, List.setIfInBounds_toArray, List.set_cons_zero, List.set_cons_succ]
            refine wpTill.take0 17 76 (v := ?v139) rfl rfl (by kernel_rfl) (by kernel_rfl) (by kernel_rfl) (by kernel_rfl) (fun _ _ _ h => h) (by rfl) ?hy139 (.inr hT) ?rest139
            case hy139 => intro wq; go_simp; (try with_reducible rfl)
            simp only [Act.put, List.setIfInBounds_toArray, List.set_cons_zero, List.set_cons_succ]
            refine wpTill.two 11 18 (by kernel_rfl) rfl rfl (by rfl) (by rfl) (fun K hK => ?_) (fun K hK => ?_)
            · unfold Oper.wp
              go_simp
              have hbA : Below wr.heap.size wr (wr.alloc (Obj.cells #[Value.bool false, Value.string ⟨s.toArray⟩] 74)).drew := (below_alloc _).drew
              have HRvA := (own_lit (d := kVal) (e := 74) (W := wr) (b := 0) (B := 0) (n := 1) (xs := [(false, s)]) (cells := #[Value.bool false, Value.string ⟨s.toArray⟩]) rfl ⟨[Value.bool false, Value.string ⟨s.toArray⟩], [], rfl, ⟨[Value.bool false], [Value.string ⟨s.toArray⟩], rfl, rfl, rfl, hsl⟩, rfl⟩ (Nat.zero_le _) (by decide)).rd (B := 0).below (below_drew _)
              have HOvA := HO1.below hbA
              have HOaA := HO6.below hbA
              have hGA := hX.below hbA
              have HCA := HC.below hbA
              have HWA := HW.trans (Wr.of_below hbA)
              have HKA := HK.trans (Ks.of_below hbA)
              refine hK _ _ (.inr (TT _ hGA HKA)) ?_
              clear hK; clear K
              generalize (wr.alloc (Obj.cells #[Value.bool false, Value.string ⟨s.toArray⟩] 74)).drew = WA at *
              refine wpTill.two 12 18 (by kernel_rfl) rfl rfl (by rfl) (by rfl) (fun K hK => ?_) (fun K hK => ?_)
              · refine wp_list (ops := #[]) rfl fun Q' hQ => ?_
                refine appRow (d := kVal) (e := 74) (b := w4.heap.size) (B := 0) (B' := 0) (xs := vals) (ys := [(false, s)]) Tryz.underlying55 Tryz.i74 HOvA HRvA (fun _ _ _ h => h) HKA.size (by simp [HVL.out]; omega) ?_
                intro vB WB HOvB hwB
                refine hQ _ _ ?_; clear hQ; clear Q'
                obtain ⟨AvB, cvB, rfl, _, _⟩ := HOvB.form
                have HOaB := HOaA.wr hwB (by decide) (by decide) (Nat.zero_le _)
                first | (have HRaB := HRaA.mono (hwB.keep (Nat.zero_le _) (by decide))) | skip
                have hGB := hGA.wr hwB (by decide)
                have HCB := HCA.wr hwB (by decide) (by decide)
                have HWB := HWA.new hwB HW4.size
                have HKB := HKA.new hwB
                refine hK _ _ (.inr (TT _ hGB HKB)) ?_
                clear hK; clear K
                simp only [Act.put, List.setIfInBounds_toArray, List.set_cons_zero, List.set_cons_succ]
                refine wpTill.one 18 (by kernel_rfl) rfl (by rfl) fun K hK => ?_
                unfold Oper.wp
                go_simp
                have hbC : Below WB.heap.size WB (WB.alloc (Obj.cells #[Value.int IntKind.i64 (m : Int)] 3)) := below_alloc _
                have HRaC := (own_lit (d := kInt .i64) (e := 3) (W := WB) (b := 0) (B := 0) (n := 1) (xs := [(m : Int)]) (cells := #[Value.int IntKind.i64 (m : Int)]) rfl ⟨[Value.int IntKind.i64 (m : Int)], [], rfl, ⟨rfl, hmw⟩, rfl⟩ (Nat.zero_le _) (by decide)).rd (B := 0)
                have HOvC := HOvB.below hbC
                have HOaC := HOaB.below hbC
                have hGC := hGB.below hbC
                have HCC := HCB.below hbC
                have HWC := HWB.trans (Wr.of_below hbC)
                have HKC := HKB.trans (Ks.of_below hbC)
                refine hK _ _ (.inr (TT _ hGC HKC)) ?_
                clear hK; clear K
                generalize (WB.alloc (Obj.cells #[Value.int IntKind.i64 (m : Int)] 3)) = WC at *
                refine wpTill.one 19 (by kernel_rfl) rfl (by rfl) fun K hK => ?_
                refine wp_list (ops := #[]) rfl fun Q' hQ => ?_
                refine appRow (d := kInt .i64) (e := 3) (b := w4.heap.size) (B := 0) (B' := 0) (xs := at_) (ys := [(m : Int)]) Tryz.underlying56 Tryz.i3 HOaC HRaC (fun _ _ _ h => h) HKC.size (by simp [HAL.out]; omega) ?_
                intro vD WD HOaD hwD
                refine hQ _ _ ?_; clear hQ; clear Q'
                obtain ⟨AaD, caD, rfl, _, _⟩ := HOaD.form
                have HOvD := HOvC.wr hwD (by decide) (by decide) (Nat.zero_le _)
                have hGD := hGC.wr hwD (by decide)
                have HCD := HCC.wr hwD (by decide) (by decide)
                have HWD := HWC.new hwD HW4.size
                have HKD := HKC.new hwD
                refine hK _ _ (.inr (TT _ hGD HKD)) ?_
                clear hK; clear K
                simp only [Act.put, List.setIfInBounds_toArray, List.set_cons_zero, List.set_cons_succ]
                refine wpTill.take0 20 79 (v := ?v140) rfl rfl (by kernel_rfl) (by kernel_rfl) (by kernel_rfl) (by kernel_rfl) (fun _ _ _ h => h) (by rfl) ?hy140 (.inr (TT _ hGD HKD)) ?rest140
                case hy140 => intro wq; go_simp; (try with_reducible rfl)
                simp only [Act.put, List.setIfInBounds_toArray, List.set_cons_zero, List.set_cons_succ]
                refine wpTill.take0 21 80 (v := ?v141) rfl rfl (by kernel_rfl) (by kernel_rfl) (by kernel_rfl) (by kernel_rfl) (fun _ _ _ h => h) (by rfl) ?hy141 (.inr (TT _ hGD HKD)) ?rest141
                case hy141 => intro wq; go_simp; (try with_reducible rfl)
                simp only [Act.put, List.setIfInBounds_toArray, List.set_cons_zero, List.set_cons_succ]
                refine wpTill.one 22 (by kernel_rfl) rfl (by rfl) fun K hK => ?_
                have hf1 := hGD.free 1; have hf6 := hGD.free 6; obtain ⟨hc1, hc6⟩ := hGD.two
                unfold Oper.wp
                go_simp
                refine hK _ _ (.inl ⟨22, by simp, by kernel_rfl⟩) ?_
                clear hK; clear K
                refine wpTill.take0 23 81 (v := ?v142) rfl rfl (by kernel_rfl) (by kernel_rfl) (by kernel_rfl) (by kernel_rfl) (fun _ _ _ h => h) (by rfl) ?hy142 (.inl ⟨22, by simp, by kernel_rfl⟩) ?rest142
                case hy142 => intro wq; go_simp; (try with_reducible rfl)
                simp only [Act.put, List.setIfInBounds_toArray, List.set_cons_zero, List.set_cons_succ]
                refine wpTill.take0 24 82 (v := ?v143) rfl rfl (by kernel_rfl) (by kernel_rfl) (by kernel_rfl) (by kernel_rfl) (fun _ _ _ h => h) (by rfl) ?hy143 (.inl ⟨22, by simp, by kernel_rfl⟩) ?rest143
                case hy143 => intro wq; go_simp; (try with_reducible rfl)
                simp only [Act.put, List.setIfInBounds_toArray, List.set_cons_zero, List.set_cons_succ]
                refine wpTill.one 25 (by kernel_rfl) rfl (by rfl) fun K hK => ?_
                unfold Oper.wp
                go_simp
                refine hK _ _ (.inl ⟨22, by simp, by kernel_rfl⟩) ?_
                clear hK; clear K
                refine wpTill.done (by kernel_rfl) ?_ _
                go_simp
                go_wp2
                obtain ⟨hGs, hws⟩ := hGD.set (u1 := Value.slice AvB (vals.length + 1) cvB) (u6 := Value.slice AaD (at_.length + 1) caD)
                simp only [List.length_append, List.length_singleton] at HOvD HOaD
                go_roundw
                case rel => exact ⟨j + 1, m + 1, vals ++ [(false, s)], at_ ++ [(m : Int)], _, _, by go_num, by go_num, by omega, by have := HM.out; simp at this; omega, by simp [HVL.out], by simp [HAL.out], HS1.out, HS2.out, hGs, HOvD.wr hws (by decide) (by decide) (Nat.zero_le _), HOaD.wr hws (by decide) (by decide) (Nat.zero_le _), HCD.wr hws (by decide) (by decide), HWD.new hws hgx, HKD.trans (Ks.of5 hws)⟩
                case measure => simp [intOf]; omega
              · unfold Oper.wp
                go_simp
                have hbB : Below WA.heap.size WA (WA.alloc (Obj.cells #[Value.int IntKind.i64 (m : Int)] 3)) := below_alloc _
                have HRaB := (own_lit (d := kInt .i64) (e := 3) (W := WA) (b := 0) (B := 0) (n := 1) (xs := [(m : Int)]) (cells := #[Value.int IntKind.i64 (m : Int)]) rfl ⟨[Value.int IntKind.i64 (m : Int)], [], rfl, ⟨rfl, hmw⟩, rfl⟩ (Nat.zero_le _) (by decide)).rd (B := 0)
                have HRvB := HRvA.below hbB
                have HOvB := HOvA.below hbB
                have HOaB := HOaA.below hbB
                have hGB := hGA.below hbB
                have HCB := HCA.below hbB
                have HWB := HWA.trans (Wr.of_below hbB)
                have HKB := HKA.trans (Ks.of_below hbB)
                refine hK _ _ (.inr (TT _ hGB HKB)) ?_
                clear hK; clear K
                generalize (WA.alloc (Obj.cells #[Value.int IntKind.i64 (m : Int)] 3)) = WB at *
                refine wpTill.one 12 (by kernel_rfl) rfl (by rfl) fun K hK => ?_
                refine wp_list (ops := #[]) rfl fun Q' hQ => ?_
                refine appRow (d := kVal) (e := 74) (b := w4.heap.size) (B := 0) (B' := 0) (xs := vals) (ys := [(false, s)]) Tryz.underlying55 Tryz.i74 HOvB HRvB (fun _ _ _ h => h) HKB.size (by simp [HVL.out]; omega) ?_
                intro vC WC HOvC hwC
                refine hQ _ _ ?_; clear hQ; clear Q'
                obtain ⟨AvC, cvC, rfl, _, _⟩ := HOvC.form
                have HOaC := HOaB.wr hwC (by decide) (by decide) (Nat.zero_le _)
                first | (have HRaC := HRaB.mono (hwC.keep (Nat.zero_le _) (by decide))) | skip
                have hGC := hGB.wr hwC (by decide)
                have HCC := HCB.wr hwC (by decide) (by decide)
                have HWC := HWB.new hwC HW4.size
                have HKC := HKB.new hwC
                refine hK _ _ (.inr (TT _ hGC HKC)) ?_
                clear hK; clear K
                simp only [Act.put, List.setIfInBounds_toArray, List.set_cons_zero, List.set_cons_succ]
                refine wpTill.one 19 (by kernel_rfl) rfl (by rfl) fun K hK => ?_
                refine wp_list (ops := #[]) rfl fun Q' hQ => ?_
                refine appRow (d := kInt .i64) (e := 3) (b := w4.heap.size) (B := 0) (B' := 0) (xs := at_) (ys := [(m : Int)]) Tryz.underlying56 Tryz.i3 HOaC HRaC (fun _ _ _ h => h) HKC.size (by simp [HAL.out]; omega) ?_
                intro vD WD HOaD hwD
                refine hQ _ _ ?_; clear hQ; clear Q'
                obtain ⟨AaD, caD, rfl, _, _⟩ := HOaD.form
                have HOvD := HOvC.wr hwD (by decide) (by decide) (Nat.zero_le _)
                have hGD := hGC.wr hwD (by decide)
                have HCD := HCC.wr hwD (by decide) (by decide)
                have HWD := HWC.new hwD HW4.size
                have HKD := HKC.new hwD
                refine hK _ _ (.inr (TT _ hGD HKD)) ?_
                clear hK; clear K
                simp only [Act.put, List.setIfInBounds_toArray, List.set_cons_zero, List.set_cons_succ]
                refine wpTill.take0 20 79 (v := ?v144) rfl rfl (by kernel_rfl) (by kernel_rfl) (by kernel_rfl) (by kernel_rfl) (fun _ _ _ h => h) (by rfl) ?hy144 (.inr (TT _ hGD HKD)) ?rest144
                case hy144 => intro wq; go_simp; (try with_reducible rfl)
                simp only [Act.put, List.setIfInBounds_toArray, List.set_cons_zero, List.set_cons_succ]
                refine wpTill.take0 21 80 (v := ?v145) rfl rfl (by kernel_rfl) (by kernel_rfl) (by kernel_rfl) (by kernel_rfl) (fun _ _ _ h => h) (by rfl) ?hy145 (.inr (TT _ hGD HKD)) ?rest145
                case hy145 => intro wq; go_simp; (try with_reducible rfl)
                simp only [Act.put, List.setIfInBounds_toArray, List.set_cons_zero, List.set_cons_succ]
                refine wpTill.one 22 (by kernel_rfl) rfl (by rfl) fun K hK => ?_
                have hf1 := hGD.free 1; have hf6 := hGD.free 6; obtain ⟨hc1, hc6⟩ := hGD.two
                unfold Oper.wp
                go_simp
                refine hK _ _ (.inl ⟨22, by simp, by kernel_rfl⟩) ?_
                clear hK; clear K
                refine wpTill.take0 23 81 (v := ?v146) rfl rfl (by kernel_rfl) (by kernel_rfl) (by kernel_rfl) (by kernel_rfl) (fun _ _ _ h => h) (by rfl) ?hy146 (.inl ⟨22, by simp, by kernel_rfl⟩) ?rest146
                case hy146 => intro wq; go_simp; (try with_reducible rfl)
                simp only [Act.put, List.setIfInBounds_toArray, List.set_cons_zero, List.set_cons_succ]
                refine wpTill.take0 24 82 (v := ?v147) rfl rfl (by kernel_rfl) (by kernel_rfl) (by kernel_rfl) (by kernel_rfl) (fun _ _ _ h => h) (by rfl) ?hy147 (.inl ⟨22, by simp, by kernel_rfl⟩) ?rest147
                case hy147 => intro wq; go_simp; (try with_reducible rfl)
                simp only [Act.put, List.setIfInBounds_toArray, List.set_cons_zero, List.set_cons_succ]
                refine wpTill.one 25 (by kernel_rfl) rfl (by rfl) fun K hK => ?_
                unfold Oper.wp
                go_simp
                refine hK _ _ (.inl ⟨22, by simp, by kernel_rfl⟩) ?_
                clear hK; clear K
                refine wpTill.done (by kernel_rfl) ?_ _
                go_simp
                go_wp2
                obtain ⟨hGs, hws⟩ := hGD.set (u1 := Value.slice AvC (vals.length + 1) cvC) (u6 := Value.slice AaD (at_.length + 1) caD)
                simp only [List.length_append, List.length_singleton] at HOvD HOaD
                go_roundw
                case rel => exact ⟨j + 1, m + 1, vals ++ [(false, s)], at_ ++ [(m : Int)], _, _, by go_num, by go_num, by omega, by have := HM.out; simp at this; omega, by simp [HVL.out], by simp [HAL.out], HS1.out, HS2.out, hGs, HOvD.wr hws (by decide) (by decide) (Nat.zero_le _), HOaD.wr hws (by decide) (by decide) (Nat.zero_le _), HCD.wr hws (by decide) (by decide), HWD.new hws hgx, HKD.trans (Ks.of5 hws)⟩
                case measure => simp [intOf]; omega
            · unfold Oper.wp
              go_simp
              have hbA : Below wr.heap.size wr (wr.alloc (Obj.cells #[Value.int IntKind.i64 (m : Int)] 3)).drew := (below_alloc _).drew
              have HRaA := (own_lit (d := kInt .i64) (e := 3) (W := wr) (b := 0) (B := 0) (n := 1) (xs := [(m : Int)]) (cells := #[Value.int IntKind.i64 (m : Int)]) rfl ⟨[Value.int IntKind.i64 (m : Int)], [], rfl, ⟨rfl, hmw⟩, rfl⟩ (Nat.zero_le _) (by decide)).rd (B := 0).below (below_drew _)
              have HOvA := HO1.below hbA
              have HOaA := HO6.below hbA
              have hGA := hX.below hbA
              have HCA := HC.below hbA
              have HWA := HW.trans (Wr.of_below hbA)
              have HKA := HK.trans (Ks.of_below hbA)
              refine hK _ _ (.inr (TT _ hGA HKA)) ?_
              clear hK; clear K
              generalize (wr.alloc (Obj.cells #[Value.int IntKind.i64 (m : Int)] 3)).drew = WA at *
              refine wpTill.one 11 (by kernel_rfl) rfl (by rfl) fun K hK => ?_
              unfold Oper.wp
              go_simp
              have hbB : Below WA.heap.size WA (WA.alloc (Obj.cells #[Value.bool false, Value.string ⟨s.toArray⟩] 74)) := below_alloc _
              have HRvB := (own_lit (d := kVal) (e := 74) (W := WA) (b := 0) (B := 0) (n := 1) (xs := [(false, s)]) (cells := #[Value.bool false, Value.string ⟨s.toArray⟩]) rfl ⟨[Value.bool false, Value.string ⟨s.toArray⟩], [], rfl, ⟨[Value.bool false], [Value.string ⟨s.toArray⟩], rfl, rfl, rfl, hsl⟩, rfl⟩ (Nat.zero_le _) (by decide)).rd (B := 0)
              have HRaB := HRaA.below hbB
              have HOvB := HOvA.below hbB
              have HOaB := HOaA.below hbB
              have hGB := hGA.below hbB
              have HCB := HCA.below hbB
              have HWB := HWA.trans (Wr.of_below hbB)
              have HKB := HKA.trans (Ks.of_below hbB)
              refine hK _ _ (.inr (TT _ hGB HKB)) ?_
              clear hK; clear K
              generalize (WA.alloc (Obj.cells #[Value.bool false, Value.string ⟨s.toArray⟩] 74)) = WB at *
              refine wpTill.one 12 (by kernel_rfl) rfl (by rfl) fun K hK => ?_
              refine wp_list (ops := #[]) rfl fun Q' hQ => ?_
              refine appRow (d := kVal) (e := 74) (b := w4.heap.size) (B := 0) (B' := 0) (xs := vals) (ys := [(false, s)]) Tryz.underlying55 Tryz.i74 HOvB HRvB (fun _ _ _ h => h) HKB.size (by simp [HVL.out]; omega) ?_
              intro vC WC HOvC hwC
              refine hQ _ _ ?_; clear hQ; clear Q'
              obtain ⟨AvC, cvC, rfl, _, _⟩ := HOvC.form
              have HOaC := HOaB.wr hwC (by decide) (by decide) (Nat.zero_le _)
              first | (have HRaC := HRaB.mono (hwC.keep (Nat.zero_le _) (by decide))) | skip
              have hGC := hGB.wr hwC (by decide)
              have HCC := HCB.wr hwC (by decide) (by decide)
              have HWC := HWB.new hwC HW4.size
              have HKC := HKB.new hwC
              refine hK _ _ (.inr (TT _ hGC HKC)) ?_
              clear hK; clear K
              simp only [Act.put, List.setIfInBounds_toArray, List.set_cons_zero, List.set_cons_succ]
              refine wpTill.one 19 (by kernel_rfl) rfl (by rfl) fun K hK => ?_
              refine wp_list (ops := #[]) rfl fun Q' hQ => ?_
              refine appRow (d := kInt .i64) (e := 3) (b := w4.heap.size) (B := 0) (B' := 0) (xs := at_) (ys := [(m : Int)]) Tryz.underlying56 Tryz.i3 HOaC HRaC (fun _ _ _ h => h) HKC.size (by simp [HAL.out]; omega) ?_
              intro vD WD HOaD hwD
              refine hQ _ _ ?_; clear hQ; clear Q'
              obtain ⟨AaD, caD, rfl, _, _⟩ := HOaD.form
              have HOvD := HOvC.wr hwD (by decide) (by decide) (Nat.zero_le _)
              have hGD := hGC.wr hwD (by decide)
              have HCD := HCC.wr hwD (by decide) (by decide)
              have HWD := HWC.new hwD HW4.size
              have HKD := HKC.new hwD
              refine hK _ _ (.inr (TT _ hGD HKD)) ?_
              clear hK; clear K
              simp only [Act.put, List.setIfInBounds_toArray, List.set_cons_zero, List.set_cons_succ]
              refine wpTill.take0 20 79 (v := ?v148) rfl rfl (by kernel_rfl) (by kernel_rfl) (by kernel_rfl) (by kernel_rfl) (fun _ _ _ h => h) (by rfl) ?hy148 (.inr (TT _ hGD HKD)) ?rest148
              case hy148 => intro wq; go_simp; (try with_reducible rfl)
              simp only [Act.put, List.setIfInBounds_toArray, List.set_cons_zero, List.set_cons_succ]
              refine wpTill.take0 21 80 (v := ?v149) rfl rfl (by kernel_rfl) (by kernel_rfl) (by kernel_rfl) (by kernel_rfl) (fun _ _ _ h => h) (by rfl) ?hy149 (.inr (TT _ hGD HKD)) ?rest149
              case hy149 => intro wq; go_simp; (try with_reducible rfl)
              simp only [Act.put, List.setIfInBounds_toArray, List.set_cons_zero, List.set_cons_succ]
              refine wpTill.one 22 (by kernel_rfl) rfl (by rfl) fun K hK => ?_
              have hf1 := hGD.free 1; have hf6 := hGD.free 6; obtain ⟨hc1, hc6⟩ := hGD.two
              unfold Oper.wp
              go_simp
              refine hK _ _ (.inl ⟨22, by simp, by kernel_rfl⟩) ?_
              clear hK; clear K
              refine wpTill.take0 23 81 (v := ?v150) rfl rfl (by kernel_rfl) (by kernel_rfl) (by kernel_rfl) (by kernel_rfl) (fun _ _ _ h => h) (by rfl) ?hy150 (.inl ⟨22, by simp, by kernel_rfl⟩) ?rest150
              case hy150 => intro wq; go_simp; (try with_reducible rfl)
              simp only [Act.put, List.setIfInBounds_toArray, List.set_cons_zero, List.set_cons_succ]
              refine wpTill.take0 24 82 (v := ?v151) rfl rfl (by kernel_rfl) (by kernel_rfl) (by kernel_rfl) (by kernel_rfl) (fun _ _ _ h => h) (by rfl) ?hy151 (.inl ⟨22, by simp, by kernel_rfl⟩) ?rest151
              case hy151 => intro wq; go_simp; (try with_reducible rfl)
              simp only [Act.put, List.setIfInBounds_toArray, List.set_cons_zero, List.set_cons_succ]
              refine wpTill.one 25 (by kernel_rfl) rfl (by rfl) fun K hK => ?_
              unfold Oper.wp
              go_simp
              refine hK _ _ (.inl ⟨22, by simp, by kernel_rfl⟩) ?_
              clear hK; clear K
              refine wpTill.done (by kernel_rfl) ?_ _
              go_simp
              go_wp2
              obtain ⟨hGs, hws⟩ := hGD.set (u1 := Value.slice AvC (vals.length + 1) cvC) (u6 := Value.slice AaD (at_.length + 1) caD)
              simp only [List.length_append, List.length_singleton] at HOvD HOaD
              go_roundw
              case rel => exact ⟨j + 1, m + 1, vals ++ [(false, s)], at_ ++ [(m : Int)], _, _, by go_num, by go_num, by omega, by have := HM.out; simp at this; omega, by simp [HVL.out], by simp [HAL.out], HS1.out, HS2.out, hGs, HOvD.wr hws (by decide) (by decide) (Nat.zero_le _), HOaD.wr hws (by decide) (by decide) (Nat.zero_le _), HCD.wr hws (by decide) (by decide), HWD.new hws hgx, HKD.trans (Ks.of5 hws)⟩
              case measure => simp [intOf]; omega
        · have hjl : j = bits.length := by omega
          subst hjl
          rw [List.drop_length] at hs1 hs2
          have h1 : vals = valsFrom out bits 0 := by rw [← hs1]; simp [valsFrom]
          have h2 : at_ = atFrom bits 0 := by rw [← hs2]; simp [atFrom]
          have H1 := Lib.hid h1; have H2 := Lib.hid h2
          clear hs1 hs2 h1 h2 hm
          go_wp2_with fail
          go_ret
          have hXf : ChAt wr gx X v1 v6 := ⟨x2, x3, x4, x5, hX, y2.mono (HK _ (by decide) (by decide)), y3.mono (HK _ (by decide) (by decide)), y4.ks HK, y5.mono (HK _ (by decide) (by decide))⟩
          exact ⟨gx, rfl, hgx, HW, by rw [HR2.out]; exact HC, by rw [HR2.out]; exact ⟨v1, v6, hXf, by rw [← H1.out]; exact HO1.rd, by rw [← H2.out]; exact HO6.rd⟩⟩
    · have hni : ((out.length : Int) != (trues bits : Int)) = true := by simp; omega
      have hR2 : R = (S3, chk0 0, [], []) := by rw [← hR, if_pos (.inr hn)]
      have HR2 := Lib.hid hR2; clear hR hR2 hn
      go_wp2_with (first | (go_at_call 47; refine (good_ok _ g _ HC4).mono ?_; rintro e w7 ⟨rfl, rfl⟩; rw [hde]) | (go_at_call 106; refine hct4.mono ?_; rintro e wx ⟨rfl, rfl⟩))
      go_ret
      exact open_bad HR2.out HC4 HW4
  · have hde : decide (S3.e = 0) = false := by simp [he]
    have hR2 : R = (S3, chk0 0, [], []) := by rw [← hR, if_pos (.inl he)]
    have HR2 := Lib.hid hR2; clear hR hR2
    go_wp2_with (first | (go_at_call 47; refine (good_ok _ g _ HC4).mono ?_; rintro e w7 ⟨rfl, rfl⟩; rw [hde]))
    go_ret
    exact open_bad HR2.out HC4 HW4
end Go.Proofs.YtpjbibcjefkcaaaGreat
