import Derived.Test.YtpjbibcjefkcaaaGreatV7
namespace Go.Proofs.YtpjbibcjefkcaaaGreat
open Go.RowKit

theorem ftakeN_len (n : Nat) : ∀ (S : Cur) (out : List Str), (ftakeN n S out).2.1.length ≤ out.length + n := by
  induction n with
  | zero => intro S out; simp [ftakeN]
  | succ n ih =>
    intro S out
    unfold ftakeN
    split
    · simp
    · have := ih (fchk S (out.getLast?.getD [])) (out ++ [fstr S (out.getLast?.getD [])])
      rw [List.length_append] at this; simp at this; omega
theorem ftaken_len (S : Cur) (n size : Int) : (ftaken S n size).1.length ≤ 1 + (n - 1).toNat := by
  have := ftakeN_len (n - 1).toNat S.textS [S.textV]
  unfold ftaken; simp only; split
  · simp
  · simpa using this
theorem ftakeN_b (n : Nat) : ∀ (S : Cur) (out : List Str), (ftakeN n S out).1.b = S.b := by
  induction n with
  | zero => intro S out; rfl
  | succ n ih => intro S out; unfold ftakeN; split <;> simp [ih]
@[simp] theorem ftaken_b (S : Cur) (n size : Int) : (ftaken S n size).2.b = S.b := by
  unfold ftaken; simp only; split
  · simp [ftakeN_b]
  · split <;> simp [ftakeN_b]
theorem pack_b (S : Cur) (many : Int) : (S.pack many).2.b = S.b := by
  unfold Cur.pack; simp only; split
  · simp
  · split
    · simp
    · split <;> simp
theorem pack_len (S : Cur) (many : Int) (h : 0 ≤ many) : ((S.pack many).1.length : Int) ≤ many := by
  have := S.mostV_le many h
  unfold Cur.pack; simp only; split
  · simpa using h
  · split
    · simpa using h
    · split
      · simpa using h
      · simp [unpack]; omega

/-- A dictionary's blocks. -/
def fopenN (n block : Nat) : List Nat → Nat → Cur → List Str → Cur × List Str × Bool
  | [], _, S, l => (S, l, false)
  | s :: ss, i, S, l => if (ftaken S (min (block : Int) ((n : Int) - i * block)) s).2.e ≠ 0 then ((ftaken S (min (block : Int) ((n : Int) - i * block)) s).2, [], true)
    else fopenN n block ss (i + 1) (ftaken S (min (block : Int) ((n : Int) - i * block)) s).2 (l ++ (ftaken S (min (block : Int) ((n : Int) - i * block)) s).1)
def Cur.dict (S : Cur) : List Str × Cur :=
  let n := S.mostV 4096
  let S1 := S.mostS 4096
  let block := S1.mostV 64
  let p := (S1.mostS 64).pack 4096
  if block = 0 ∨ p.1.length ≠ (n + block - 1) / block then ([], p.2.fail 3) else
  let q := fopenN n block p.1 0 p.2 []
  if q.2.2 = true then ([], q.1) else
  let S2 := if fright q.2.1 block = true then q.1 else q.1.fail 3
  if S2.e = 0 then (q.2.1, S2) else ([], S2)

/-- A dictionary in memory. -/
def DictAt (w : World) (g : Nat) (l : List Str) : Prop := ∃ v, w.heap[g]? = some (.cells #[v] 171) ∧ Rd kStr 9 w 0 v l
theorem DictAt.below {w w' g l} (h : DictAt w g l) (hb : Below w.heap.size w w') : DictAt w' g l := by
  obtain ⟨v, h1, h2⟩ := h
  exact ⟨v, (hb.block g (lt_of_some h1)).trans h1, h2.below hb⟩
theorem DictAt.wr {w w' g l b e} (h : DictAt w g l) (hw : Wr b e w w') (h1 : e ≠ 171) (h2 : e ≠ 9) : DictAt w' g l := by
  obtain ⟨v, k1, k2⟩ := h
  exact ⟨v, hw.typed _ _ _ _ (fun k => h1 k.symm) k1, k2.mono (hw.keep (Nat.zero_le _) (by simp [kStr]; exact h2))⟩
def DictIs (l : List Str) (w0 : World) (v : Value) (w : World) : Prop := ∃ g, v = .pointer (some ⟨g, 0, none⟩) ∧ w0.heap.size ≤ g ∧ DictAt w g l

theorem dict_close {w w4 : World} {g : Nat} {S : Cur} {l : List Str} {v : Value} {P : List Str × Cur} (hP : P = (l, S)) (HC : CurAt w4 g S) (HW : Wr g 163 w w4) (HR : Rd kStr 9 w4 0 v l) :
    CurPost w g P.2 (DictIs P.1 w) (.returned (.pointer (some ⟨w4.heap.size, 0, none⟩))) (w4.alloc (.cells #[v] 171)) := by
  subst hP
  exact ⟨_, rfl, ⟨_, rfl, HW.size, v, heap_alloc_new w4 _, HR.below (below_alloc _)⟩, HC.below (below_alloc _), HW.new (e' := 9) (Wr.of_below (below_alloc _)) HW.size⟩

set_option maxRecDepth 100000 in
set_option maxHeartbeats 1600000 in
theorem dict_ok (w : World) (g : Nat) (S : Cur) (h : CurAt w g S) (hl : S.b.length ≤ 140737488355328) :
    Calls Tryz.prog 205 #[.pointer (some ⟨g, 0, none⟩)] w (CurPost w g S.dict.2 (DictIs S.dict.1 w)) := by
  generalize hP : S.dict = P
  unfold Cur.dict at hP
  have hu := Tryz.underlying171
  have hn := S.mostV_le 4096 (by decide)
  have hk := (S.mostS 4096).mostV_le 64 (by decide)
  have hb1 : (S.mostS 4096).b.length ≤ 140737488355328 := by simpa using hl
  have hb2 : ((S.mostS 4096).mostS 64).b.length ≤ 140737488355328 := by simpa using hl
  go_enter Tryz.func205, Tryz.ntmps205
  go_wp2_with fail
  refine (most_ok w g S 4096 h hl).mono ?_
  rintro e w1 ⟨v1, rfl, rfl, HC1, HW1⟩
  generalize S.mostV 4096 = n at *
  generalize S.mostS 4096 = S1 at *
  have HP := Lib.hid hP; clear hP
  go_wp2_with fail
  refine (most_ok w1 g S1 64 HC1 hb1).mono ?_
  rintro e w2 ⟨v2, rfl, rfl, HC2, HW2⟩
  have hP := HP.out; clear HP
  generalize S1.mostV 64 = k at *
  generalize S1.mostS 64 = S2 at *
  have HP := Lib.hid hP; clear hP
  go_wp2_with fail
  refine (pread_ok w2 g S2 4096 HC2 hb2 (by decide) (by decide)).mono ?_
  rintro e w3 ⟨v3, rfl, HO3, HC3, HW3⟩
  have hP := HP.out; clear HP
  have hpl := pack_len S2 4096 (by decide)
  have hb3 : (S2.pack 4096).2.b.length ≤ 140737488355328 := by rw [pack_b]; exact hb2
  generalize S2.pack 4096 = p at *
  obtain ⟨sizes, S3⟩ := p
  simp only at hP HO3 HC3 hpl hb3
  have HP := Lib.hid hP; clear hP
  obtain ⟨A3, c3, rfl, _, _⟩ := HO3.form
  have hil : (ints sizes).length = sizes.length := ints_len sizes
  rw [hil] at *
  have hW3 : Wr g 163 w w3 := (HW1.trans HW2).trans HW3
  have HOS := HO3.rd (B := 0)
  clear HO3
  by_cases hk0 : k = 0
  · have hP : P = ([], S3.fail 3) := by rw [← HP.out, if_pos (.inl hk0)]
    have HP2 := Lib.hid hP; clear HP hP
    subst hk0
    go_wp2_with (first | (go_at_call 160; refine (fail_ok w3 g S3 3 HC3).mono ?_; rintro e w4 ⟨⟨v4, rfl⟩, HC4, HW4⟩))
    go_ret
    exact dict_close HP2.out HC4 (hW3.trans HW4) (Rd.nil _ _ _ _)
  · have hkp : 0 < k := by omega
    have hdiv : Int.tdiv ((n : Int) + (k : Int) - 1) (k : Int) = (((n + k - 1) / k : Nat) : Int) := by
      have : (n : Int) + (k : Int) - 1 = ((n + k - 1 : Nat) : Int) := by omega
      rw [this]; rfl
    have hdl : (n + k - 1) / k ≤ n + k - 1 := Nat.div_le_self _ _
    have hmul : ∀ i, i < (n + k - 1) / k → i * k < n := fun i hi => by
      have h1 : (i + 1) * k ≤ n + k - 1 := (Nat.le_div_iff_mul_le hkp).1 hi
      rw [Nat.add_mul] at h1; omega
    have hPP := HP.out; clear HP
    generalize (n + k - 1) / k = m at *
    have HP := Lib.hid hPP; clear hPP
    have hw1 : IntKind.i64.wrap (m : Int) = (m : Int) := IntWalk.i64_in _ (by omega)
    have hk0i : ((k : Int) == 0) = false := by simp; omega
    have hk0n : (k == 0) = false := by simp; omega
    by_cases hsz : sizes.length = m
    · have hne : ((sizes.length : Int) != (m : Int)) = false := by rw [hsz]; simp
      generalize hq : fopenN n k sizes 0 S3 [] = q at *
      have hP : P = if q.2.2 = true then ([], q.1) else if (if fright q.2.1 k = true then q.1 else q.1.fail 3).e = 0 then (q.2.1, if fright q.2.1 k = true then q.1 else q.1.fail 3) else ([], if fright q.2.1 k = true then q.1 else q.1.fail 3) := by
        rw [← HP.out, if_neg (by rintro (h | h); exact hk0 h; exact h hsz)]
      have HP2 := Lib.hid hP; clear HP hP
      have HQ := Lib.hid hq; clear hq
      have HM := Lib.hid hmul; clear hmul
      go_wp2_with fail
      go_loopw [6, 34] (fun ov i wr => ∃ (j : Nat) (S' : Cur) (out : List Str), i = .int .i64 (j : Int) ∧ j ≤ sizes.length ∧ out.length ≤ 64 * j ∧ fopenN n k (sizes.drop j) j S' out = q ∧ S'.b = S3.b ∧ Own kStr 9 wr w3.heap.size 0 ov out ∧ CurAt wr g S' ∧ Wr g 163 w3 wr) (fun _ i _ => sizes.length - (intOf i).toNat)
      case atStart => exact ⟨0, S3, [], rfl, by omega, by simp, HQ.out, rfl, Own.nil _ _ _ _ _, HC3, Wr.refl _ _ _⟩
      case round =>
        obtain ⟨j, S', out, rfl, hj, hol, hst, hbb, HO, HC, HW⟩ := hrel
        have hb4 : S'.b.length ≤ 140737488355328 := by rw [hbb]; exact hb3
        obtain ⟨A5, c5, rfl, _, _⟩ := HO.form
        by_cases hlt : j < sizes.length
        · have hd : sizes.drop j = sizes[j] :: sizes.drop (j + 1) := (List.getElem_cons_drop hlt).symm
          rw [hd] at hst
          have hjk := HM.out j (by omega)
          have hjk2 : (j : Int) * (k : Int) < n := by exact_mod_cast hjk
          have hjk3 : 0 ≤ (j : Int) * (k : Int) := by exact_mod_cast Nat.zero_le (j * k)
          have e1 : IntKind.i64.wrap ((j : Int) * (k : Int)) = (j : Int) * (k : Int) := IntWalk.i64_in _ (by omega)
          have e2 : IntKind.i64.wrap ((n : Int) - (j : Int) * (k : Int)) = (n : Int) - (j : Int) * (k : Int) := IntWalk.i64_in _ (by omega)
          have HOSr := HOS.mono (HW.keep (Nat.zero_le _) (by decide))
          obtain ⟨b0, off0, cs0, rfl, ⟨rfl, _⟩, hc0⟩ := HOSr.at (i := j) (by rw [ints_len]; exact hlt)
          have hx := hc0 0 _ rfl
          have hgi : (ints sizes)[j]'(by rw [ints_len]; exact hlt) = (sizes[j] : Int) := by simp [ints]
          rw [hgi] at hx
          simp only [Nat.add_zero, show (kInt .i64).sz = 1 from rfl, Nat.mul_one] at hx
          have hm : (min (k : Int) ((n : Int) - (j : Int) * (k : Int))) ≤ 64 ∧ -1000000 ≤ (min (k : Int) ((n : Int) - (j : Int) * (k : Int))) := by omega
          have hst2 : q = if (ftaken S' (min (k : Int) ((n : Int) - (j : Int) * (k : Int))) (sizes[j] : Int)).2.e ≠ 0 then ((ftaken S' (min (k : Int) ((n : Int) - (j : Int) * (k : Int))) (sizes[j] : Int)).2, [], true) else fopenN n k (sizes.drop (j + 1)) (j + 1) (ftaken S' (min (k : Int) ((n : Int) - (j : Int) * (k : Int))) (sizes[j] : Int)).2 (out ++ (ftaken S' (min (k : Int) ((n : Int) - (j : Int) * (k : Int))) (sizes[j] : Int)).1) := by
            rw [← hst]; rfl
          have hTL := ftaken_len S' (min (k : Int) ((n : Int) - (j : Int) * (k : Int))) (sizes[j] : Int)
          have hTB := ftaken_b S' (min (k : Int) ((n : Int) - (j : Int) * (k : Int))) (sizes[j] : Int)
          have HT := taken_ok wr g S' (min (k : Int) ((n : Int) - (j : Int) * (k : Int))) (sizes[j] : Int) HC hb4 ⟨hm.2, hm.1⟩
          have HST := Lib.hid hst2
          clear hst hst2 hd hc0 hgi
          generalize sizes[j] = sz at *
          generalize hrst : sizes.drop (j + 1) = rst at *
          have HRST := Lib.hid hrst; clear hrst
          generalize ftaken S' (min (k : Int) ((n : Int) - (j : Int) * (k : Int))) (sz : Int) = p at *
          obtain ⟨out2, S5⟩ := p
          simp only at hTL hTB HT
          have hb5 : S5.b = S3.b := by rw [hTB, hbb]
          by_cases he : S5.e = 0
          · have hst3 : fopenN n k rst (j + 1) S5 (out ++ out2) = q := by have := HST.out; simp only [he] at this; exact this.symm
            have HST3 := Lib.hid hst3
            clear hst3 HST
            have hde : decide (S5.e = 0) = true := by simp [he]
            have hln : out.length + out2.length ≤ 64 * (j + 1) := by omega
            go_wp2_with (first | (go_at_call 243; refine HT.mono ?_; rintro e w5 ⟨v5, rfl, HO5, HC5, HW5⟩; have hO5 := HO.wr HW5 (by decide) (by decide) (Nat.zero_le _); have hW5 := HW.trans HW5) | (at_builtin; refine appRow (B' := 0) (ys := out2) Tryz.underlying52 Tryz.i9 hO5 HO5.rd (fun _ _ _ h => h) hW5.size (by omega) ?_; intro v6 w6 HO6 hw6; have HC6 := HC5.wr hw6 (by decide) (by decide); have hW6 := hW5.new hw6 (Nat.le_refl _)) | (go_at_call 47; refine (good_ok _ g _ HC6).mono ?_; rintro e w7 ⟨rfl, rfl⟩; rw [hde]))
            go_roundw
            case rel => exact ⟨j + 1, S5, out ++ out2, by go_num, by omega, by simp; omega, by rw [HRST.out]; exact HST3.out, hb5, HO6, HC6, hW6⟩
            case measure => simp [intOf]; omega
          · have hst3 : q = (S5, [], true) := by rw [HST.out]; simp [he]
            subst hst3
            have hP3 : P = ([], S5) := by rw [HP2.out]; rfl
            have HP3 := Lib.hid hP3
            clear hP3 HST
            have hde : decide (S5.e = 0) = false := by simp [he]
            go_wp2_with (first | (go_at_call 243; refine HT.mono ?_; rintro e w5 ⟨v5, rfl, HO5, HC5, HW5⟩; have hO5 := HO.wr HW5 (by decide) (by decide) (Nat.zero_le _); have hW5 := HW.trans HW5) | (at_builtin; refine appRow (B' := 0) (ys := out2) Tryz.underlying52 Tryz.i9 hO5 HO5.rd (fun _ _ _ h => h) hW5.size (by omega) ?_; intro v6 w6 HO6 hw6; have HC6 := HC5.wr hw6 (by decide) (by decide); have hW6 := hW5.new hw6 (Nat.le_refl _)) | (go_at_call 47; refine (good_ok _ g _ HC6).mono ?_; rintro e w7 ⟨rfl, rfl⟩; rw [hde]))
            go_ret
            exact dict_close HP3.out HC6 (hW3.trans hW6) (Rd.nil _ _ _ _)
        · obtain rfl : j = sizes.length := by omega
          have hst2 : q = (S', out, false) := by rw [← hst, List.drop_length]; rfl
          subst hst2
          have hlt2 : decide (sizes.length < sizes.length) = false := by simp
          have hFR := fright_ok wr 0 _ out (k : Int) HO.rd
          by_cases hf : fright out (k : Int) = true
          · rw [hf] at hFR
            by_cases he : S'.e = 0
            · have hP3 : P = (out, S') := by rw [HP2.out]; simp [hf, he]
              have HP3 := Lib.hid hP3
              clear hP3 HP2
              have hde : decide (S'.e = 0) = true := by simp [he]
              go_wp2_with (first | (go_at_call 233; refine hFR.mono ?_; rintro e w5 ⟨rfl, rfl⟩) | (go_at_call 47; refine (good_ok _ g _ HC).mono ?_; rintro e w7 ⟨rfl, rfl⟩; rw [hde]))
              go_ret
              exact dict_close HP3.out HC (hW3.trans HW) HO.rd
            · have hP3 : P = ([], S') := by rw [HP2.out]; simp [hf, he]
              have HP3 := Lib.hid hP3
              clear hP3 HP2
              have hde : decide (S'.e = 0) = false := by simp [he]
              go_wp2_with (first | (go_at_call 233; refine hFR.mono ?_; rintro e w5 ⟨rfl, rfl⟩) | (go_at_call 47; refine (good_ok _ g _ HC).mono ?_; rintro e w7 ⟨rfl, rfl⟩; rw [hde]))
              go_ret
              exact dict_close HP3.out HC (hW3.trans HW) (Rd.nil _ _ _ _)
          · have hff : fright out (k : Int) = false := by simpa using hf
            rw [hff] at hFR
            have he : (S'.fail 3).e ≠ 0 := by unfold Cur.fail; split <;> simp_all
            have hP3 : P = ([], S'.fail 3) := by rw [HP2.out]; simp [hff, he]
            have HP3 := Lib.hid hP3
            clear hP3 HP2 hf
            have hde : decide ((S'.fail 3).e = 0) = false := by simp [he]
            generalize hS7 : S'.fail 3 = S7 at *
            have HS7 := Lib.hid hS7; clear hS7
            go_wp2_with (first | (go_at_call 233; refine hFR.mono ?_; rintro e w5 ⟨rfl, rfl⟩) | (go_at_call 160; refine (fail_ok _ g S' 3 HC).mono ?_; rintro e w6 ⟨⟨v6, rfl⟩, HC6, HW6⟩; rw [HS7.out] at HC6) | (go_at_call 47; refine (good_ok _ g _ HC6).mono ?_; rintro e w7 ⟨rfl, rfl⟩; rw [hde]))
            go_ret
            exact dict_close HP3.out HC6 ((hW3.trans HW).trans HW6) (Rd.nil _ _ _ _)
    · have hP : P = ([], S3.fail 3) := by rw [← HP.out, if_pos (.inr hsz)]
      have HP2 := Lib.hid hP; clear HP hP
      have hne : ((sizes.length : Int) != (m : Int)) = true := by simp; omega
      go_wp2_with (first | (go_at_call 160; refine (fail_ok w3 g S3 3 HC3).mono ?_; rintro e w4 ⟨⟨v4, rfl⟩, HC4, HW4⟩))
      go_ret
      exact dict_close HP2.out HC4 (hW3.trans HW4) (Rd.nil _ _ _ _)
end Go.Proofs.YtpjbibcjefkcaaaGreat
