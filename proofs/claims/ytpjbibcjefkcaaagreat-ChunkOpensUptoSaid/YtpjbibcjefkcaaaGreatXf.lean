import Derived.Test.YtpjbibcjefkcaaaGreatP2
namespace Go.Proofs.YtpjbibcjefkcaaaGreat
open Go.RowKit

theorem cright_good {l : List (Bool × Str)} {k : Nat} (hk : 1 ≤ k ∧ k ≤ 3) (hl : l.length ≤ 4096) (hr : l.any wrongV = false) : cright l ⟨k, 4, 0, []⟩ = true := by
  unfold cright codOk
  rw [hr]
  simp
  omega

set_option maxRecDepth 100000 in
set_option maxHeartbeats 3200000 in
theorem opens_ok (w : World) (B : Nat) (v : Value) (xs : Str) (h : Rd kByte 5 w B v xs) : Calls Tryz.prog 6 #[v] w fun en w' => en = .returned (.bool true) ∧ Below w.heap.size w w' := by
  obtain ⟨A, c, rfl, h1, h2⟩ := h.form
  have hu := Tryz.underlying58
  by_cases hlen : 2000 < xs.length
  · have hd : decide (2000 < (xs.length : Int)) = true := by simp; omega
    go_enter Tryz.func6, Tryz.ntmps6
    go_wp2_with fail
    refine (awake_ok w).mono ?_
    rintro e w1 ⟨rfl, HB1⟩
    go_wp2_with fail
    refine (awake_ok w1).mono ?_
    rintro e w2 ⟨rfl, HB2⟩
    go_wp2_with fail
    go_ret
    exact ⟨rfl, below_step HB1 HB1.size HB2⟩
  have hd : decide (2000 < (xs.length : Int)) = false := by simp; omega
  generalize hR : (⟨xs, 0, 0⟩ : Cur).chunk = R
  have hbad : R.1.e ≠ 0 → BadChunk R := fun hh => by rw [← hR] at hh ⊢; exact chunk_bad hh
  have hgood : R.1.e = 0 → ∃ k, GoodChunk xs R k := fun hh => by rw [← hR] at hh ⊢; exact chunk_good xs hh
  have HR := Lib.hid hR; have HBAD := Lib.hid hbad; have HGOOD := Lib.hid hgood
  clear hR hbad hgood
  obtain ⟨S', X, vals, ats⟩ := R
  simp only at HBAD HGOOD
  go_enter Tryz.func6, Tryz.ntmps6
  go_wp2_with fail
  refine (awake_ok w).mono ?_
  rintro e w1 ⟨rfl, HB1⟩
  go_wp2_with fail
  refine (new_ok w1 B _ xs (h.below HB1) (by omega)).mono ?_
  rintro e w2 ⟨gc, rfl, hgc, HC2, HB2⟩
  have hB2 := below_step HB1 HB1.size HB2
  go_wp2_with fail
  refine (copen_ok w2 gc _ HC2 (show xs.length ≤ _ by omega)).mono ?_
  rintro e w3 ⟨gx, rfl, hgx, HW3, HC3, HX3⟩
  rw [HR.out] at HC3 HX3
  simp only at HC3 HX3
  have hB3 := HW3.below hB2 (by have := HB1.size; omega) hB2.size
  by_cases he : S'.e = 0
  · obtain ⟨k, hG⟩ := HGOOD.out he
    have HG := Lib.hid hG
    have hde : decide (S'.e = 0) = true := by simpa using he
    have hke : X.kind = (k : Int) := hG.kind
    have hk1 := hG.k1
    have hvl := hG.len
    have hSb : S'.b = xs := hG.b_eq
    obtain ⟨r0, hr0⟩ := hG.first
    have hat := HC3.le
    rw [hSb] at hat
    have hcr := cright_good hk1 hvl hG.right
    have hx0 : xs[0]? = some (UInt8.ofNat k) := by rw [hr0]; rfl
    have HSB := Lib.hid hSb; have HX0 := Lib.hid hx0; have HKE := Lib.hid hke; have HCR := Lib.hid hcr
    clear hG he hke hSb hr0 hcr hx0
    have HGD := good_ok w3 gc S' HC3
    rw [hde] at HGD
    have HHGD := Lib.hid HGD; clear HGD hde
    go_wp2_with fail
    refine HHGD.out.mono ?_
    rintro e w3' ⟨rfl, rfl⟩
    go_wp2_with fail
    refine (call_ok w3 gx _ _ _ HX3 (by omega)).mono ?_
    rintro e w4 ⟨v4, rfl, HO4, HB4⟩
    obtain ⟨A4, c4, rfl, _, _⟩ := HO4.form
    have hB4 := below_step hB3 hB3.size HB4
    have HX4 := HX3.below HB4
    have HC4 := HC3.below HB4
    have HK4 := ckind_ok w4 gx _ _ _ HX4
    rw [HKE.out] at HK4
    have HHK4 := Lib.hid HK4; clear HK4
    go_wp2_with fail
    refine HHK4.out.mono ?_
    rintro e w4' ⟨rfl, rfl⟩
    go_wp2_with fail
    have hb5 := below_alloc (w := w4) (.cells #[.int .i64 (k : Int), .int .i64 4, .int .i64 0, .slice none 0 0] 58)
    have hrow5 := CodRow.new w4 (k : Int) 4 0 (.slice none 0 0)
    have hB5 := below_step hB4 hB4.size hb5
    have HO5 := HO4.below hb5
    have HX5 := HX4.below hb5
    have HC5 := HC4.below hb5
    have hg5 : w4.heap.size < (w4.alloc (.cells #[.int .i64 (k : Int), .int .i64 4, .int .i64 0, .slice none 0 0] 58)).heap.size := by simp
    clear HHK4 HHGD HX3 HX4 HC2 HC3 HC4 HO4
    generalize w4.alloc (.cells #[.int .i64 (k : Int), .int .i64 4, .int .i64 0, .slice none 0 0] 58) = w5 at *
    generalize w4.heap.size = g5 at *
    have hr5 := h.below hB5
    have hx0 := HX0.out
    have hxp : 0 < xs.length := (List.getElem?_eq_some_iff.1 hx0).1
    obtain ⟨b0, off0, cs0, rfl, hkb, hc0⟩ := hr5.at hxp
    obtain rfl := hkb
    have hxc := hc0 0 _ rfl
    simp only [Nat.add_zero, Nat.zero_mul, Nat.zero_add] at hxc
    rw [show xs[0] = UInt8.ofNat k from (List.getElem?_eq_some_iff.1 hx0).2, show ((UInt8.ofNat k).toNat : Int) = (k : Int) by simp; omega] at hxc
    clear hx0 hc0
    have HRIGHT : ∀ W, Below w5.heap.size w5 W → Calls Tryz.prog 40 #[.slice A4 vals.length c4, .agg #[.int .i64 (k : Int), .int .i64 4, .int .i64 0, .slice none 0 0]] W fun en w' => en = .returned (.bool true) ∧ Below W.heap.size W w' := fun W hb => by
      have := rright_ok W 0 0 _ (.slice none 0 0) vals ⟨k, 4, 0, []⟩ (HO5.below hb).rd (Rd.nil _ _ _ _)
      rw [HCR.out] at this
      exact this
    have HKIND : ∀ W, Below w5.heap.size w5 W → Calls Tryz.prog 50 #[.pointer (some ⟨gx, 0, none⟩)] W fun en w' => en = .returned (.int .i64 (k : Int)) ∧ W = w' := fun W hb => by
      have := ckind_ok W gx _ _ _ (HX5.below hb)
      rw [HKE.out] at this
      exact this
    have HHR := Lib.hid HRIGHT; have HHK := Lib.hid HKIND; clear HRIGHT HKIND
    obtain ⟨q0, q1, q2, q3⟩ := hrow5.cells
    have hbd := below_drew w5
    have z1 : decide ((k : Int) < 1) = false := by simp; omega
    have z2 : decide ((3 : Int) < k) = false := by simp; omega
    have z3 : IntKind.i64.wrap (k : Int) = (k : Int) := IntWalk.i64_in _ (by omega)
    have z4 : ((k : Int) != (k : Int)) = false := by simp
    go_region_held3 (fun w' => w'.cell? ⟨g5, 0, none⟩ = some (.int .i64 (k : Int)) ∧ w'.cell? ⟨g5, 1, none⟩ = some (.int .i64 4) ∧ w'.cell? ⟨g5, 2, none⟩ = some (.int .i64 0) ∧ w'.cell? ⟨g5, 3, none⟩ = some (.slice none 0 0) ∧ w'.cell? ⟨b0, off0, none⟩ = some (.int .u8 (k : Int)))
      (first | go_keep | exact hq)
      (first
        | (go_at_call 40; refine (HHR.out _ hbd).mono ?_; rintro e w6 ⟨rfl, HB6⟩; have hb6 := below_step hbd hbd.size HB6; have hcc := (hrow5.below hb6).cells; have hq := (And.intro hcc.1 (And.intro hcc.2.1 (And.intro hcc.2.2.1 (And.intro hcc.2.2.2 (belc hb6 hxc))))))
        | (go_at_call 50; refine (HHK.out _ hb6).mono ?_; rintro e w7 ⟨rfl, rfl⟩))
    have hB6 := below_step hB5 hB5.size hb6
    go_wp2_with fail
    refine (HHK.out _ hb6).mono ?_
    rintro e w7 ⟨rfl, rfl⟩
    by_cases hk : k = 1
    · have hd1 : ((k : Int) != 1) = false := by simp [hk]
      have hpl := (HG.out.plain hk)
      simp only at hpl
      have hsl : (presS vals).length ≤ 1000000 := Nat.le_trans (presS_len _) (by omega)
      have hsx : ∀ x ∈ presS vals, x.length ≤ 4096 := by
        intro x hx
        unfold presS at hx
        obtain ⟨y, hy, rfl⟩ := List.mem_map.1 hx
        have hy2 := (List.mem_filter.1 hy).1
        have hr := HG.out.right
        rw [List.any_eq_false] at hr
        have := hr y hy2
        unfold wrongV at this
        simp only [Bool.or_eq_true, decide_eq_true_eq, not_or] at this
        omega
      have hfew := few_ok w6 0 _ vals (HO5.below hb6).rd
      obtain ⟨Lf, hLf⟩ : ∃ Lf : Nat, Lf = xs.length - S'.at_ := ⟨_, rfl⟩
      have HLEFT : ∀ W, Below w5.heap.size w5 W → Calls Tryz.prog 51 #[.pointer (some ⟨gc, 0, none⟩)] W fun en w' => en = .returned (.int .i64 (Lf : Int)) ∧ Below W.heap.size W w' := fun W hb => (left_ok W gc S' (HC5.below hb)).mono fun e w' ⟨he, n, hw⟩ => ⟨by rw [he, HSB.out, hLf]; congr 2; omega, by rw [hw]; exact pw_drewN W n⟩
      have hcut := hr5.below hb6
      have e3 : (((xs.length : Int) - (Lf : Int))).toNat = S'.at_ := by omega
      obtain ⟨vc, hrun, hRc⟩ := hr5.runH (P := Tryz.prog) Tryz.underlying36 Tryz.i5 .i64 ((xs.length : Int) - (Lf : Int)) (by omega) (by omega)
      rw [e3, hpl] at hRc
      obtain ⟨Ac, cc, rfl, _, _⟩ := hRc.form
      have hLb : (Lf : Int) ≤ xs.length := by omega
      have HCODE : ∀ W, Below w5.heap.size w5 W → bytesOf vals ≤ 5000 → Calls Tryz.prog 43 #[.slice A4 vals.length c4, .agg #[.int .i64 (k : Int), .int .i64 4, .int .i64 0, .slice none 0 0]] W (Fresh kByte 5 W (UInt8.ofNat 1 :: (bwrite (presB vals) ++ texts (presS vals)))) := fun W hb hby => by
        have hsl2 : (presS vals).length ≤ 4096 := Nat.le_trans (presS_len _) hvl
        have hmayS := may_lens (presS vals) fun x hx => Nat.le_trans (hsx x hx) (by decide)
        have hp1 := pwrite_len (ints ((presS vals).map List.length)) hmayS (by rw [ints_len, List.length_map]; omega)
        have hp2 := flat_len (presS vals) 4096 hsx
        have hp3 : (presS vals).length * 4096 ≤ 4096 * 4096 := Nat.mul_le_mul_right _ hsl2
        have htl : (texts (presS vals)).length ≤ 100000000 := by unfold texts; rw [List.length_append]; omega
        have hsx2 : ∀ x ∈ presS vals, x.length ≤ 1000000 := fun x hx => Nat.le_trans (hsx x hx) (by decide)
        subst hk
        exact rcode_ok W 0 0 _ (.slice none 0 0) vals ⟨1, 4, 0, []⟩ (texts (presS vals)) 1 (by decide) (HO5.below hb).rd (Rd.nil _ _ _ _) hvl htl
          (fun W' u _ _ => rchosen_kind W' u (.slice none 0 0) ⟨1, 4, 0, []⟩ (by decide))
          (fun W' u _ hu => rpay1_ok W' 0 0 u (.slice none 0 0) _ ⟨1, 4, 0, []⟩ hu (Rd.nil _ _ _ _) rfl hsl hsx2)
      generalize UInt8.ofNat 1 :: (bwrite (presB vals) ++ texts (presS vals)) = CL at *
      have HHC := Lib.hid HCODE; have HHL := Lib.hid HLEFT; have HHF := Lib.hid hfew
      clear HCODE HLEFT hfew hpl e3 hLf hk hsx
      go_wp2_with fail
      refine HHF.out.mono ?_
      rintro e w8 ⟨b8, rfl, hb8, rfl⟩
      cases b8 with
      | false =>
        clear hb8
        go_wp2_with fail
        go_ret
        exact ⟨rfl, hB6⟩
      | true =>
        obtain ⟨_, hby⟩ := hb8 rfl
        clear hb8
        obtain ⟨q0, q1, q2, q3⟩ := (hrow5.below hb6).cells
        go_wp2_with fail
        refine (HHC.out _ hb6 hby).mono ?_
        rintro e w9 ⟨v9, rfl, HO9, HB9⟩
        have hb9 := below_step hb6 hb6.size HB9
        obtain ⟨A9, c9, rfl, _, _⟩ := HO9.form
        go_wp2_with fail
        refine (HHL.out _ hb9).mono ?_
        rintro e w10 ⟨rfl, HB10⟩
        have hb10 := below_step hb9 hb9.size HB10
        have HS := same_ok w10 0 _ _ _ _ _ (HO9.below HB10).rd (hRc.below hb10)
        rw [decide_eq_true rfl] at HS
        have HHS := Lib.hid HS; clear HS
        go_wp2_with fail
        refine HHS.out.mono ?_
        rintro e w11 ⟨rfl, rfl⟩
        go_wp2_with fail
        go_ret
        exact ⟨rfl, below_step hB5 hB5.size hb10⟩
    · have hd1 : ((k : Int) != 1) = true := by simp; omega
      go_wp2_with fail
      go_ret
      exact ⟨rfl, hB6⟩
  · have hb := HBAD.out he
    obtain ⟨rfl, rfl, rfl⟩ := hb
    have hde : decide (S'.e = 0) = false := by simpa using he
    have HGD := good_ok w3 gc S' HC3
    rw [hde] at HGD
    have HHGD := Lib.hid HGD; clear HGD hde he
    go_wp2_with fail
    refine HHGD.out.mono ?_
    rintro e w3' ⟨rfl, rfl⟩
    go_wp2_with fail
    refine (clen_ok w3 gx _ _ _ HX3).mono ?_
    rintro e w3' ⟨rfl, rfl⟩
    go_wp2_with fail
    refine (call_ok w3 gx _ _ _ HX3 (by simp)).mono ?_
    rintro e w4 ⟨v4, rfl, HO4, HB4⟩
    obtain ⟨A4, c4, rfl, _, _⟩ := HO4.form
    have hB4 := below_step hB3 hB3.size HB4
    have HX4 := HX3.below HB4
    go_wp2_with fail
    refine (ckind_ok w4 gx _ _ _ HX4).mono ?_
    rintro e w4' ⟨rfl, rfl⟩
    simp only [chk0]
    go_wp2_with fail
    go_ret
    exact ⟨rfl, hB4⟩
end Go.Proofs.YtpjbibcjefkcaaaGreat
