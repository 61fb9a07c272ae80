import Derived.Test.YtpjbibcjefkcaaaGreatXd
namespace Go.Proofs.YtpjbibcjefkcaaaGreat
open Go.RowKit

theorem ChunkAt.below {w w' gx X vals at_} (h : ChunkAt w gx X vals at_) (hb : Below w.heap.size w w') : ChunkAt w' gx X vals at_ := by
  obtain ⟨v1, v6, h1, h2, h3⟩ := h
  exact ⟨v1, v6, h1.below hb, h2.below hb, h3.below hb⟩
theorem ChunkAt.wr {w w' gx X vals at_ b e} (h : ChunkAt w gx X vals at_) (hw : Wr b e w w') (he : e ∉ [165, 36, 5, 9, 171, 3]) (h74 : e ≠ 74) : ChunkAt w' gx X vals at_ := by
  obtain ⟨v1, v6, h1, h2, h3⟩ := h
  have he2 := he
  simp only [List.mem_cons, not_or] at he2
  exact ⟨v1, v6, h1.wr hw he, h2.mono (hw.keep (Nat.zero_le _) (by simp [kVal, Kd.prod, kBool, kStr]; exact h74)), h3.mono (hw.keep (Nat.zero_le _) (by simp [kInt]; exact he2.2.2.2.2.2.1))⟩

/-- string(b), as an equation that a walk takes. -/
theorem Rd.runStr {P : Program} {W : World} {B : Nat} {A : Option Addr} {n c : Nat} {src dt e : TypeId} {xs : List UInt8}
    (HR : Rd kByte e W B (.slice A n c) xs) (hs : P.underlying src = some (.slice e)) (he : P.underlying e = some (.int .u8)) (hd : P.underlying dt = some .string) :
    (convert src dt (.slice A n c)).run P W = .ok (.string ⟨xs.toArray⟩) W := by
  obtain ⟨A', c', cs, hv, h1, h2, h3, h0, h4⟩ := HR
  injection hv with e1 e2 e3
  subst e1 e2 e3
  have hcs : cs = xs.map fun y => Value.int .u8 (y.toNat : Int) := by
    clear h4 h0 h1 h2
    induction xs generalizing cs with
    | nil => exact h3
    | cons y ys ih => obtain ⟨c, d', rfl, k1, k2⟩ := h3; rw [k1, ih d' k2]; rfl
  by_cases hx : xs = []
  · subst hx
    cases A with
    | none => exact run_convert_bytes_nil W src e hs he _ _ dt hd
    | some ad =>
      rw [run_convert_bytes_string W src dt e _ _ c hs he hd, run_bytesToString W ad _ c [] (by simp [loadCells, loadCellsFrom])]
      simp [ByteArray.empty, ByteArray.emptyWithCapacity]
      rfl
  · obtain ⟨b, off, rfl, hc, _⟩ := h4 hx
    have := run_convert_bytes_arg W src e hs he b off xs.length c (xs.map fun y => (y.toNat : Int)) (by simp) (fun i hi => by
      rw [hc i (Value.int .u8 (xs[i].toNat : Int)) (by rw [hcs]; simp [hi])]
      simp [List.getD, hi]) dt hd
    rw [this]
    have hf : ((fun n : Int => UInt8.ofNat n.toNat) ∘ fun y : UInt8 => (y.toNat : Int)) = id := by funext y; simp
    simp [strOfNums, hf]

theorem Tryz.fld1 (b : Bool) (x : ByteArray) (W : World) : (Instr.field 74 (.agg #[.bool b, .string x]) 1).run Tryz.prog W = .ok (.string x) W := by kernel_rfl
theorem Tryz.fld0 (b : Bool) (x : ByteArray) (W : World) : (Instr.field 74 (.agg #[.bool b, .string x]) 0).run Tryz.prog W = .ok (.bool b) W := by kernel_rfl

/-! ### awake -/
def awl : List (Bool × Str) := [(false, [97]), (true, [])]
def awb : Str := [1, 2, 1, 1, 1, 1, 97]
theorem aw_code : UInt8.ofNat 1 :: (bwrite (presB awl) ++ texts (presS awl)) = awb := by decide +kernel
theorem aw_len : (texts (presS awl)).length = 4 := by decide +kernel
theorem aw_open : (⟨awb, 0, 0⟩ : Cur).chunk = (⟨awb, 7, 0⟩, ⟨1, [[97]], [], none, []⟩, awl, [0, -1]) := by kernel_rfl
theorem fl4 : floatOfInt .f64 ((4 : Nat) : Int) = 4616189618054758400 := by kernel_rfl
theorem fl1 : floatOfInt .f64 ((1 : Nat) : Int) = 4607182418800017408 := by kernel_rfl

set_option maxRecDepth 100000 in
set_option maxHeartbeats 3200000 in
theorem awake_ok (w : World) : Calls Tryz.prog 36 #[] w fun en w' => en = .returned (.bool true) ∧ Below w.heap.size w w' := by
  have hb0 := below_alloc (w := w) (.cells #[.bool false, .string ⟨#[97]⟩, .bool true, .string ⟨#[]⟩] 74)
  have hl0 := (own_lit (d := kVal) (e := 74) (W := w) (b := 0) (B := 0) (xs := awl) (n := 2) (cells := #[.bool false, .string ⟨#[97]⟩, .bool true, .string ⟨#[]⟩]) rfl
    ⟨[.bool false, .string ⟨#[97]⟩], _, rfl, ⟨[.bool false], [.string ⟨#[97]⟩], rfl, rfl, rfl, by simp⟩, [.bool true, .string ⟨#[]⟩], _, rfl, ⟨[.bool true], [.string ⟨#[]⟩], rfl, rfl, rfl, by simp⟩, rfl⟩ (Nat.zero_le _) (by decide)).rd (B := 0)
  have HPAY : ∀ W u, Rd kStr 9 W 0 u (presS awl) → Calls Tryz.prog 93 #[u, (⟨1, 1, 0, []⟩ : Cod).val (.slice none 0 0)] W (PayPost W (texts (presS awl)) 1) := fun W u hu =>
    pay1_ok W 0 0 u (.slice none 0 0) _ ⟨1, 1, 0, []⟩ hu (Rd.nil _ _ _ _) rfl (by decide +kernel) (by decide +kernel)
  have HCODE : ∀ W u, Rd kVal 74 W 0 u awl → Calls Tryz.prog 38 #[u, (⟨1, 1, 0, []⟩ : Cod).val (.slice none 0 0)] W (CodePost W awb) := fun W u hu => by
    have := code_good W 0 0 u (.slice none 0 0) awl ⟨1, 1, 0, []⟩ (texts (presS awl)) 1 (by decide) (by rw [aw_len]; decide) hu (Rd.nil _ _ _ _) (by decide +kernel) fun W' u' _ hu' => HPAY W' u' hu'
    rwa [aw_code] at this
  have HMEAS : ∀ W u, Rd kVal 74 W 0 u awl → Calls Tryz.prog 39 #[u, (⟨1, 1, 0, []⟩ : Cod).val (.slice none 0 0)] W fun en w' => en = .returned (.tuple #[.complex .f64 4616189618054758400 4607182418800017408, .int .i64 0]) ∧ Below W.heap.size W w' := fun W u hu => by
    have := measure_good W 0 0 u (.slice none 0 0) awl ⟨1, 1, 0, []⟩ (texts (presS awl)) 1 hu (Rd.nil _ _ _ _) (by decide +kernel) fun W' u' _ hu' => HPAY W' u' hu'
    rw [aw_len, show (presS awl).length = 1 from rfl, fl4, fl1] at this
    exact this
  unfold Cod.val at HCODE HMEAS
  simp only at HCODE HMEAS
  have HHC := Lib.hid HCODE; have HHM := Lib.hid HMEAS; clear HPAY HCODE HMEAS
  have hu := Tryz.underlying74
  have hu58 := Tryz.underlying58
  have hg1 := Tryz.fld1
  have hg0 := Tryz.fld0
  go_enter Tryz.func36, Tryz.ntmps36
  go_wp2_with fail
  refine (HHC.out _ _ hl0).mono ?_
  rintro e w1 ⟨v1, rfl, HO1, HB1⟩
  obtain ⟨A1, c1, rfl, _, _⟩ := HO1.form
  have hB1 := below_step hb0 hb0.size HB1
  have hl1 := hl0.below HB1
  go_wp2_with fail
  refine (new_ok w1 0 _ awb HO1.rd (by decide)).mono ?_
  rintro e w2 ⟨gc, rfl, hgc, HC2, HB2⟩
  have hB2 := below_step hB1 hB1.size HB2
  have hl2 := hl1.below HB2
  have HO2 := HO1.below HB2
  go_wp2_with fail
  refine (copen_ok w2 gc _ HC2 (by decide)).mono ?_
  rintro e w3 ⟨gx, rfl, hgx, HW3, HC3, HX3⟩
  rw [aw_open] at HX3
  simp only at HX3
  have hB3 := HW3.below hB2 (by have := HB1.size; simp at this; omega) hB2.size
  go_wp2_with fail
  have hl3 := hl2.mono (HW3.keep (B := 0) (Nat.zero_le _) (by decide))
  have HO3 := HO2.wr HW3 (by decide) (by decide) (Nat.zero_le _)
  refine (HHM.out w3 _ hl3).mono ?_
  rintro e w4 ⟨rfl, HB4⟩
  have hB4 := below_step hB3 hB3.size HB4
  have HX4 := HX3.below HB4
  have HR4 := (HO3.below HB4).rd (B := 0)
  have hse : ((⟨awb.toArray⟩ : ByteArray) == ⟨#[1, 2, 1, 1, 1, 1, 97]⟩) = true := by decide +kernel
  have hrs := HR4.runStr (P := Tryz.prog) Tryz.underlying36 Tryz.underlying5 Tryz.underlying9
  go_wp2_with fail
  refine (clen_ok w4 gx _ _ _ HX4).mono ?_
  rintro e w4' ⟨rfl, rfl⟩
  simp only [show awl.length = 2 from rfl]
  go_wp2_with fail
  refine (cat_ok w4 gx _ _ _ 0 HX4).mono ?_
  rintro e w5 ⟨rfl, HB5⟩
  have hB5 := below_step hB4 hB4.size HB5
  have HX5 := HX4.below HB5
  simp only [show valAt awl 0 = (false, [97]) from rfl]
  go_wp2_with fail
  refine (cat_ok w5 gx _ _ _ 1 HX5).mono ?_
  rintro e w6 ⟨rfl, HB6⟩
  have hB6 := below_step hB5 hB5.size HB6
  have HX6 := HX5.below HB6
  simp only [show valAt awl 1 = (true, []) from rfl]
  go_wp2_with fail
  refine (ckind_ok w6 gx _ _ _ HX6).mono ?_
  rintro e w6' ⟨rfl, rfl⟩
  simp only
  go_wp2_with fail
  go_ret
  exact ⟨rfl, hB6⟩
end Go.Proofs.YtpjbibcjefkcaaaGreat
