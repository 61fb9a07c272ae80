/- Plain laws of what a cursor takes: what is taken without an error is what is written; what is written is taken. No condition. -/
import Derived.Test.YtpjbibcjefkcaaaGreatX1
namespace Go.Proofs.YtpjbibcjefkcaaaGreat
open Go.RowKit
set_option linter.unusedVariables false
set_option linter.unusedSimpArgs false

/-! ### what is taken without an error -/
theorem vget_canon : ∀ (l : List UInt8) (i x : Nat) {y n : Nat}, vget i x l = .ok (y, n) → ∃ z, y = x + z * 128 ^ i ∧ i < n ∧ n - i ≤ l.length ∧ l.take (n - i) = vput z ∧ (0 < i → 0 < z) := by
  intro l
  induction l with
  | nil => intro i x y n h; simp [vget] at h
  | cons b l ih =>
    intro i x y n h
    unfold vget at h
    split at h
    · cases h
    · split at h
      · next hb =>
        split at h
        · cases h
        · next h0 =>
          injection h with h
          injection h with h1 h2
          subst h1 h2
          refine ⟨b.toNat, rfl, by omega, by simp, ?_, by omega⟩
          rw [show i + 1 - i = 1 by omega, vput, if_pos hb]
          simp
      · next hb =>
        obtain ⟨z, h1, h2, h3, h4, h5⟩ := ih _ _ h
        have hz := h5 (by omega)
        have hlt := UInt8.toNat_lt b
        refine ⟨b.toNat % 128 + 128 * z, ?_, by omega, by simp; omega, ?_, by omega⟩
        · rw [h1, Nat.pow_succ, Nat.add_mul, Nat.add_assoc]
          congr 2
          rw [Nat.mul_comm 128 z, Nat.mul_assoc, Nat.mul_comm 128]
        · rw [vput, if_neg (by omega)]
          have e1 : (b.toNat % 128 + 128 * z) % 128 = b.toNat % 128 := by omega
          have e2 : (b.toNat % 128 + 128 * z) / 128 = z := by omega
          rw [e1, e2, ← h4, show n - i = (n - (i + 1)) + 1 by omega, List.take_succ_cons]
          congr 1
          rw [show b.toNat % 128 + 128 = b.toNat by omega]
          simp

theorem Cur.rest_add (S : Cur) (k : Nat) : ({ S with at_ := S.at_ + k } : Cur).rest = S.rest.drop k := by simp [Cur.rest, List.drop_drop]
theorem fail_e (S : Cur) (n : Int) (hn : n ≠ 0) : (S.fail n).e ≠ 0 := by
  unfold Cur.fail; split
  · exact hn
  · assumption
theorem nummed_canon {S : Cur} (h : S.nummed.e = 0) : S.e = 0 ∧ S.rest = vput S.num ++ S.nummed.rest ∧ S.nummed.at_ = S.at_ + (vput S.num).length := by
  unfold Cur.nummed Cur.num at *
  by_cases he : S.e = 0
  · rw [if_neg (by simp [he])] at h ⊢
    rw [if_neg (by simp [he])]
    cases hv : vget 0 0 S.rest with
    | error e =>
      rw [hv] at h
      simp only at h
      unfold Cur.fail at h
      rw [if_pos he] at h
      simp only at h
      subst h
      exact absurd hv (by
        intro hv
        have : ∀ (l : List UInt8) (i x : Nat), vget i x l ≠ .error 0 := by
          intro l
          induction l with
          | nil => intro i x h; simp [vget] at h
          | cons b l ih =>
            intro i x h
            unfold vget at h
            split at h
            · cases h
            · split at h
              · split at h <;> cases h
              · exact ih _ _ h
        exact this _ _ _ hv)
    | ok p =>
      obtain ⟨y, n⟩ := p
      rw [hv] at h
      obtain ⟨z, h1, h2, h3, h4, _⟩ := vget_canon _ _ _ hv
      simp only [Nat.zero_add, Nat.pow_zero, Nat.mul_one, Nat.sub_zero] at h1 h3 h4
      subst h1
      have hl : (vput y).length = n := by rw [← h4, List.length_take]; omega
      refine ⟨he, ?_, by simp [hl]⟩
      simp only
      rw [Cur.rest_add, ← h4, List.take_append_drop]
  · rw [if_pos he] at h
    exact absurd h he

theorem most_canon {S : Cur} {m : Int} (h : (S.mostS m).e = 0) : S.e = 0 ∧ S.rest = vput (S.mostV m) ++ (S.mostS m).rest ∧ (S.mostV m : Int) ≤ m ∧ (S.mostS m).at_ = S.at_ + (vput (S.mostV m)).length := by
  unfold Cur.mostS Cur.mostV at *
  split at h
  · exact absurd h (fail_e _ _ (by decide))
  · next hm =>
    rw [if_neg hm, if_neg hm]
    have := nummed_canon h
    exact ⟨this.1, this.2.1, by omega, this.2.2⟩

theorem took_canon {S : Cur} {n : Int} (h : (S.took n).e = 0) : S.e = 0 ∧ 0 ≤ n ∧ n ≤ S.left ∧ S.rest = S.take n ++ (S.took n).rest ∧ (S.take n).length = n.toNat ∧ (S.took n).at_ = S.at_ + n.toNat := by
  by_cases he : S.e = 0
  · by_cases h1 : n < 0
    · have : S.took n = S.fail 3 := by unfold Cur.took; rw [if_neg (by simp [he]), if_pos h1]
      rw [this] at h
      exact absurd h (fail_e _ _ (by decide))
    · by_cases h2 : n > S.left
      · have : S.took n = S.fail 2 := by unfold Cur.took; rw [if_neg (by simp [he]), if_neg h1, if_pos h2]
        rw [this] at h
        exact absurd h (fail_e _ _ (by decide))
      · have e1 : S.took n = { S with at_ := S.at_ + n.toNat } := by unfold Cur.took; rw [if_neg (by simp [he]), if_neg h1, if_neg h2]
        have e2 : S.take n = S.rest.take n.toNat := by unfold Cur.take; rw [if_pos ⟨he, by omega, by omega⟩]; rfl
        rw [e1, e2]
        refine ⟨he, by omega, by omega, ?_, ?_, rfl⟩
        · rw [Cur.rest_add]; exact (List.take_append_drop _ _).symm
        · unfold Cur.rest
          rw [List.length_take, List.length_drop]
          unfold Cur.left at h2; omega
  · have : S.took n = S := by unfold Cur.took; rw [if_pos he]
    rw [this] at h
    exact absurd h he

theorem byte_canon {S : Cur} (h : (S.took 1).e = 0) : S.e = 0 ∧ S.rest = UInt8.ofNat S.byte :: (S.took 1).rest ∧ S.byte < 256 ∧ (S.took 1).at_ = S.at_ + 1 := by
  obtain ⟨h1, _, _, h2, h3, h4⟩ := took_canon h
  refine ⟨h1, ?_, curbyte_lt S, h4⟩
  obtain ⟨b, hb⟩ := List.length_eq_one_iff.1 h3
  rw [h2, hb]
  simp [Cur.byte, hb]

theorem bits_canon {S : Cur} {m : Int} (h : (S.bits_ m).2.e = 0) : S.e = 0 ∧ S.rest = bwrite (S.bits_ m).1 ++ (S.bits_ m).2.rest ∧ (S.bits_ m).2.at_ = S.at_ + (bwrite (S.bits_ m).1).length ∧ ((S.bits_ m).1.length : Int) ≤ m := by
  unfold Cur.bits_ at *
  simp only at *
  split at h
  · next hlt =>
    obtain ⟨_, _, _, _, h3, _⟩ := took_canon h
    omega
  · next hlt =>
    rw [if_neg hlt]
    split at h
    · exact absurd h (fail_e _ _ (by decide))
    · next hp =>
      rw [if_neg hp]
      simp only at h ⊢
      obtain ⟨h1, _, _, h2, h3, h4⟩ := took_canon h
      obtain ⟨k1, k2, k3, k4⟩ := most_canon h1
      have hp' := Decidable.of_not_not hp
      have hul : (unbits ((S.mostS m).take (bsize (S.mostV m))) (S.mostV m)).length = S.mostV m := by simp [unbits]
      refine ⟨k1, ?_, ?_, by rw [hul]; exact k3⟩
      · rw [k2, h2, bwrite, hul, hp', List.append_assoc]
      · rw [h4, k4, bwrite, hul, hp', List.length_append, h3, Nat.add_assoc]

theorem pack_canon {S : Cur} {m : Int} (h : (S.pack m).2.e = 0) : S.e = 0 ∧ S.rest = pwrite (ints (S.pack m).1) ++ (S.pack m).2.rest ∧ (S.pack m).2.at_ = S.at_ + (pwrite (ints (S.pack m).1)).length ∧ ((S.pack m).1.length : Int) ≤ m ∧ may (ints (S.pack m).1) := by
  unfold Cur.pack at *
  simp only at *
  split at h
  · exact absurd h (fail_e _ _ (by decide))
  · next hk =>
    rw [if_neg hk]
    split at h
    · next hlt =>
      obtain ⟨_, _, _, _, h3, _⟩ := took_canon h
      omega
    · next hlt =>
      rw [if_neg hlt]
      split at h
      · exact absurd h (fail_e _ _ (by decide))
      · next hp =>
        rw [if_neg hp]
        simp only at h ⊢
        obtain ⟨h1, _, _, h2, h3, h4⟩ := took_canon h
        obtain ⟨j1, j2, j3, j4⟩ := byte_canon h1
        obtain ⟨k1, k2, k3, k4⟩ := most_canon j1
        have hp1 : pwidth (ints (unpack (((S.mostS m).took 1).take (psize (S.mostV m) (S.mostS m).byte)) (S.mostV m) (S.mostS m).byte)) = (S.mostS m).byte := by
          by_cases hh : pwidth (ints (unpack (((S.mostS m).took 1).take (psize (S.mostV m) (S.mostS m).byte)) (S.mostV m) (S.mostS m).byte)) = (S.mostS m).byte
          · exact hh
          · exact absurd (Or.inl hh) hp
        have hp2 : pput (unpack (((S.mostS m).took 1).take (psize (S.mostV m) (S.mostS m).byte)) (S.mostV m) (S.mostS m).byte) (S.mostS m).byte = ((S.mostS m).took 1).take (psize (S.mostV m) (S.mostS m).byte) := by
          by_cases hh : pput (unpack (((S.mostS m).took 1).take (psize (S.mostV m) (S.mostS m).byte)) (S.mostV m) (S.mostS m).byte) (S.mostS m).byte = ((S.mostS m).took 1).take (psize (S.mostV m) (S.mostS m).byte)
          · exact hh
          · exact absurd (Or.inr hh) hp
        have hul : (unpack (((S.mostS m).took 1).take (psize (S.mostV m) (S.mostS m).byte)) (S.mostV m) (S.mostS m).byte).length = S.mostV m := by simp [unpack]
        have hpw : pwrite (ints (unpack (((S.mostS m).took 1).take (psize (S.mostV m) (S.mostS m).byte)) (S.mostV m) (S.mostS m).byte)) = vput (S.mostV m) ++ ([UInt8.ofNat (S.mostS m).byte] ++ ((S.mostS m).took 1).take (psize (S.mostV m) (S.mostS m).byte)) := by
          unfold pwrite
          rw [nats_ints, ints_len, hul, hp1, hp2]
        refine ⟨k1, ?_, ?_, by rw [hul]; exact k3, may_unpack _ _ _ (by omega)⟩
        · rw [hpw, k2, j2, h2]; simp
        · rw [hpw, h4, j4, k4, List.length_append, List.length_append, h3]; simp; omega

theorem cutFix_canon {S : Cur} {most k : Nat} (h : (cutFix S most k).e = 0) : cutFix S most k = S ∧ k ≤ most := by
  unfold cutFix at *
  split at h
  · exact absurd h (fail_e _ _ (by decide))
  · next hk => rw [if_neg hk]; exact ⟨rfl, by omega⟩
theorem cutIt_canon (most : Nat) (ks : List Nat) : ∀ {S : Cur}, (cutIt most ks S).1.e = 0 → S.e = 0 ∧ S.rest = (cutIt most ks S).2.flatten ++ (cutIt most ks S).1.rest ∧ (cutIt most ks S).2.map List.length = ks ∧ (cutIt most ks S).1.at_ = S.at_ + (cutIt most ks S).2.flatten.length := by
  induction ks with
  | nil => intro S h; simp only [cutIt] at h ⊢; exact ⟨h, by simp, rfl, by simp⟩
  | cons k ks ih =>
    intro S h
    simp only [cutIt] at h ⊢
    obtain ⟨h1, h2, h3, h4⟩ := ih h
    obtain ⟨k1, _, _, k2, k3, k4⟩ := took_canon h1
    obtain ⟨j1, j2⟩ := cutFix_canon k1
    rw [j1] at h h1 h2 h3 h4 k1 k2 k3 k4 ⊢
    refine ⟨k1, ?_, ?_, ?_⟩
    · rw [k2, h2]; simp
    · simp [h3]; omega
    · rw [h4, k4]; simp; omega
theorem cut_canon {S : Cur} {n : Int} {most : Nat} (h : (S.cut n most).2.e = 0) : S.e = 0 ∧ S.rest = texts (S.cut n most).1 ++ (S.cut n most).2.rest ∧ (S.cut n most).2.at_ = S.at_ + (texts (S.cut n most).1).length ∧ ((S.cut n most).1.length : Int) = n := by
  unfold Cur.cut at *
  split at h
  · exact absurd h (fail_e _ _ (by decide))
  · next hn =>
    rw [if_neg hn]
    simp only at h ⊢
    obtain ⟨h1, h2, h3, h4⟩ := cutIt_canon _ _ h
    obtain ⟨k1, k2, k3, _⟩ := pack_canon h1
    have hl : (cutIt most (S.pack 4096).1 (S.pack 4096).2).2.length = (S.pack 4096).1.length := by have := congrArg List.length h3; simpa using this
    refine ⟨k1, ?_, ?_, by rw [hl]; omega⟩
    · rw [texts, h3, k2, h2]; simp
    · rw [texts, h3, h4, k3, List.length_append]; omega

/-! ### what is written is taken -/
theorem vput_pos (n : Nat) : 0 < (vput n).length := by rw [vput]; split <;> simp
theorem vget_vput (r : List UInt8) : ∀ (k z : Nat), z < 128 ^ (k + 1) → ∀ i x, i + (k + 1) ≤ 9 → (0 < i → 0 < z) → vget i x (vput z ++ r) = .ok (x + z * 128 ^ i, i + (vput z).length) := by
  intro k
  induction k with
  | zero =>
    intro z hz i x hi h0
    have hz' : z < 128 := by simpa using hz
    rw [vput, if_pos hz']
    unfold vget
    have e : (UInt8.ofNat z).toNat = z := by simp; omega
    simp only [List.cons_append, List.nil_append, e]
    rw [if_neg (by omega), if_pos hz', if_neg (by omega)]
    simp
  | succ k ih =>
    intro z hz i x hi h0
    by_cases hz' : z < 128
    · rw [vput, if_pos hz']
      unfold vget
      have e : (UInt8.ofNat z).toNat = z := by simp; omega
      simp only [List.cons_append, List.nil_append, e]
      rw [if_neg (by omega), if_pos hz', if_neg (by omega)]
      simp
    · rw [vput, if_neg hz']
      unfold vget
      have e : (UInt8.ofNat (z % 128 + 128)).toNat = z % 128 + 128 := by simp; omega
      simp only [List.cons_append, e]
      rw [if_neg (by omega), if_neg (by omega), ih (z / 128) (by rw [Nat.pow_succ] at hz; omega) (i + 1) _ (by omega) (by omega)]
      congr 2
      · have e2 : (z % 128 + 128) % 128 = z % 128 := by omega
        rw [e2, Nat.add_assoc, Nat.pow_succ, Nat.mul_comm (128 ^ i) 128, ← Nat.mul_assoc, ← Nat.add_mul]
        congr 2
        omega
      · simp; omega
def Cur.adv (S : Cur) (k : Nat) : Cur := { S with at_ := S.at_ + k }
@[simp] theorem adv_e (S : Cur) (k : Nat) : (S.adv k).e = S.e := rfl
@[simp] theorem adv_b (S : Cur) (k : Nat) : (S.adv k).b = S.b := rfl
theorem adv_adv (S : Cur) (i j : Nat) : (S.adv i).adv j = S.adv (i + j) := by simp [Cur.adv, Nat.add_assoc]
theorem adv_rest (S : Cur) (k : Nat) : (S.adv k).rest = S.rest.drop k := S.rest_add k
/-- The cursor is good, and x stands ahead of r. -/
structure At (S : Cur) (x r : List UInt8) : Prop where
  e : S.e = 0
  rest : S.rest = x ++ r
  le : S.at_ ≤ S.b.length
theorem At.left {S : Cur} {x r : List UInt8} (h : At S x r) : S.left = x.length + r.length := by
  have := congrArg List.length h.rest
  unfold Cur.rest at this
  unfold Cur.left
  rw [List.length_drop, List.length_append] at this
  exact this
theorem At.adv {S : Cur} {x r : List UInt8} (h : At S x r) : (S.adv x.length).rest = r := by rw [adv_rest, h.rest, List.drop_left]
theorem At.next {S : Cur} {x y r : List UInt8} (h : At S x (y ++ r)) : At (S.adv x.length) y r :=
  ⟨h.e, h.adv, by have := h.left; have := h.le; unfold Cur.left at *; simp only [Cur.adv]; omega⟩
theorem At.assoc {S : Cur} {x y r : List UInt8} (h : At S (x ++ y) r) : At S x (y ++ r) := ⟨h.e, by rw [h.rest, List.append_assoc], h.le⟩
theorem num_at {S : Cur} {z : Nat} {r : List UInt8} (h : At S (vput z) r) (hz : z ≤ 9223372036854775807) : S.num = z ∧ S.nummed = S.adv (vput z).length := by
  have hv := vget_vput r 8 z (by omega) 0 0 (by omega) (by omega)
  unfold Cur.num Cur.nummed
  rw [if_neg (by simp [h.e]), if_neg (by simp [h.e]), h.rest, hv]
  simp [Cur.adv]
theorem most_at {S : Cur} {z : Nat} {m : Int} {r : List UInt8} (h : At S (vput z) r) (hz : (z : Int) ≤ m) (hm : z ≤ 9223372036854775807) : S.mostV m = z ∧ S.mostS m = S.adv (vput z).length := by
  obtain ⟨h1, h2⟩ := num_at h hm
  unfold Cur.mostV Cur.mostS
  rw [h1, if_neg (by omega), if_neg (by omega)]
  exact ⟨rfl, h2⟩
theorem took_at {S : Cur} {x r : List UInt8} (h : At S x r) : S.take x.length = x ∧ S.took x.length = S.adv x.length := by
  have hl := h.left
  unfold Cur.take Cur.took
  rw [if_pos ⟨h.e, by omega, by omega⟩, if_neg (by simp [h.e]), if_neg (by omega), if_neg (by omega)]
  refine ⟨?_, by simp [Cur.adv]⟩
  have := h.rest
  unfold Cur.rest at this
  rw [this]; simp
theorem took_at' {S : Cur} {x r : List UInt8} (h : At S x r) {n : Int} (hn : n = x.length) : S.take n = x ∧ S.took n = S.adv x.length := by subst hn; exact took_at h
theorem byte_at {S : Cur} {k : Nat} {r : List UInt8} (h : At S [UInt8.ofNat k] r) (hk : k < 256) : S.byte = k ∧ S.took 1 = S.adv 1 := by
  obtain ⟨h1, h2⟩ := took_at h
  simp only [List.length_singleton] at h1 h2
  refine ⟨?_, h2⟩
  unfold Cur.byte
  rw [show (1 : Int) = ((1 : Nat) : Int) from rfl, h1]
  simp; omega

theorem unbits_bput (l : List Bool) : unbits (bput l) l.length = l := by
  apply List.ext_getElem
  · simp [unbits]
  · intro i h1 h2
    simp only [unbits, bput, List.getElem_map, List.getElem_range]
    rw [bitn_pk l _ i (by unfold bsize; omega), List.getElem?_eq_getElem h2]
    cases l[i] <;> rfl
theorem bits_at {S : Cur} {l : List Bool} {m : Int} {r : List UInt8} (h : At S (bwrite l) r) (hl : (l.length : Int) ≤ m) (hm : l.length ≤ 1000000) : S.bits_ m = (l, S.adv (bwrite l).length) := by
  have h' : At S (vput l.length ++ bput l) r := h
  have ha := h'.assoc
  obtain ⟨h1, h2⟩ := most_at ha hl (by omega)
  have hb := ha.next
  obtain ⟨k1, k2⟩ := took_at hb
  rw [bput_len] at k1 k2
  unfold Cur.bits_
  simp only [h1, h2, k1, k2, unbits_bput]
  rw [if_neg (by rw [bput_len]; omega), if_neg (by simp), adv_adv, bwrite, List.length_append, bput_len]

theorem unpack_pput (l : List Nat) (k : Nat) (h : ∀ x ∈ l, x < 2 ^ k) : unpack (pput l k) l.length k = l := by
  apply List.ext_getElem
  · simp [unpack]
  · intro i h1 h2
    simp only [unpack, List.getElem_map, List.getElem_range]
    exact pget_pput l k i h2 (h _ (List.getElem_mem h2))
theorem ints_nats {l : List Int} (h : may l) : ints (nats l) = l := by
  unfold ints nats
  rw [List.map_map]
  conv => rhs; rw [← List.map_id l]
  refine List.map_congr_left fun x hx => ?_
  have := (h x hx).1
  simp; omega
theorem pput_len (l : List Nat) (k : Nat) : (pput l k).length = psize l.length k := by simp [pput]
theorem pack_at {S : Cur} {l : List Int} {m : Int} {r : List UInt8} (h : At S (pwrite l) r) (hmay : may l) (hl : (l.length : Int) ≤ m) (hm : l.length ≤ 1000000) : S.pack m = (nats l, S.adv (pwrite l).length) := by
  have h' : At S (vput l.length ++ ([UInt8.ofNat (pwidth l)] ++ pput (nats l) (pwidth l))) r := h
  have hw := pwidth_le hmay
  have hn : (nats l).length = l.length := by simp [nats]
  have ha := h'.assoc
  obtain ⟨h1, h2⟩ := most_at ha hl (by omega)
  have hb := ha.next.assoc
  obtain ⟨k1, k2⟩ := byte_at hb (by omega)
  have hc := hb.next
  rw [List.length_singleton] at hc
  obtain ⟨j1, j2⟩ := took_at hc
  rw [pput_len, hn] at j1 j2
  have hf : ∀ x ∈ nats l, x < 2 ^ pwidth l := by
    intro x hx
    obtain ⟨y, hy, rfl⟩ := List.mem_map.1 hx
    exact (may_fits hmay y hy).2
  have hu := unpack_pput (nats l) (pwidth l) hf
  rw [hn] at hu
  unfold Cur.pack
  simp only [h1, h2, k1, k2, j1, j2, hu, ints_nats hmay]
  rw [if_neg (by omega), if_neg (by rw [pput_len, hn]; omega), if_neg (by simp), adv_adv, adv_adv, pwrite]
  simp only [List.length_append, List.length_singleton, pput_len, hn, Nat.add_assoc]

theorem cutIt_at (most : Nat) (l : List Str) : ∀ {S : Cur} {r : List UInt8}, At S l.flatten r → (∀ x ∈ l, x.length ≤ most) → cutIt most (l.map List.length) S = (S.adv l.flatten.length, l) := by
  induction l with
  | nil => intro S r h _; simp [cutIt, Cur.adv]
  | cons x l ih =>
    intro S r h hm
    have h' : At S (x ++ l.flatten) r := by simpa using h
    have ha := h'.assoc
    have hf : cutFix S most x.length = S := by unfold cutFix; rw [if_neg (by have := hm x (List.mem_cons_self ..); omega)]
    obtain ⟨k1, k2⟩ := took_at ha
    have := ih ha.next fun y hy => hm y (List.mem_cons_of_mem _ hy)
    simp only [List.map_cons, cutIt, hf, k1, k2, this, adv_adv, List.flatten_cons, List.length_append]
theorem may_lens (l : List Str) (h : ∀ x ∈ l, x.length ≤ 1000000) : may (ints (l.map List.length)) := by
  intro x hx
  simp only [ints, List.map_map, List.mem_map, Function.comp_apply] at hx
  obtain ⟨y, hy, rfl⟩ := hx
  have := h y hy
  exact ⟨Int.natCast_nonneg _, by show ((y.length : Nat) : Int) ≤ _; omega⟩
theorem cut_at {S : Cur} {l : List Str} {n : Int} {most : Nat} {r : List UInt8} (h : At S (texts l) r) (hn : (l.length : Int) = n) (hl : l.length ≤ 4096) (hm : ∀ x ∈ l, x.length ≤ most) (hmost : most ≤ 1000000) : S.cut n most = (l, S.adv (texts l).length) := by
  have h' : At S (pwrite (ints (l.map List.length)) ++ l.flatten) r := h
  have ha := h'.assoc
  have hp := pack_at ha (may_lens l fun x hx => Nat.le_trans (hm x hx) hmost) (m := 4096) (by rw [ints_len]; simp; omega) (by rw [ints_len]; simp; omega)
  rw [nats_ints] at hp
  unfold Cur.cut
  rw [hp]
  simp only [List.length_map]
  rw [if_neg (by simpa using hn), cutIt_at most l ha.next hm]
  simp only [adv_adv, texts, List.length_append]
end Go.Proofs.YtpjbibcjefkcaaaGreat
