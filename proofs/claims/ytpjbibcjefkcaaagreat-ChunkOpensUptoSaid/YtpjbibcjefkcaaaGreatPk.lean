/- Bits packed into bytes: plain lists, no program. No condition. -/
import Derived.Lib.Hide
namespace Go.Proofs.YtpjbibcjefkcaaaGreat

/-- A number of bits, the first one lowest. -/
def bnum : List Bool → Nat
  | [] => 0
  | b :: l => b.toNat + 2 * bnum l

theorem bnum_lt (l : List Bool) : bnum l < 2 ^ l.length := by
  induction l with
  | nil => simp [bnum]
  | cons b l ih => rw [bnum, List.length_cons, Nat.pow_succ]; cases b <;> simp <;> omega
theorem bnum_append (l m : List Bool) : bnum (l ++ m) = bnum l + 2 ^ l.length * bnum m := by
  induction l with
  | nil => simp [bnum]
  | cons b l ih =>
    have h : 2 * (2 ^ l.length * bnum m) = 2 ^ l.length * 2 * bnum m := by rw [Nat.mul_comm (2 ^ l.length) 2, Nat.mul_assoc]
    rw [List.cons_append, bnum, ih, bnum, List.length_cons, Nat.pow_succ, Nat.mul_add]
    omega
theorem bnum_false (n : Nat) : bnum (List.replicate n false) = 0 := by
  induction n with
  | zero => rfl
  | succ n ih => rw [List.replicate_succ, bnum, ih]; rfl

/-- Bits as n bytes: what is too short is filled up by zeros. -/
def pk (bs : List Bool) (n : Nat) : List UInt8 := (List.range n).map fun j => UInt8.ofNat (bnum ((bs.drop (8 * j)).take 8))
@[simp] theorem pk_len (bs : List Bool) (n : Nat) : (pk bs n).length = n := by simp [pk]
theorem pk_get (bs : List Bool) (n j : Nat) (h : j < (pk bs n).length) : (pk bs n)[j] = UInt8.ofNat (bnum ((bs.drop (8 * j)).take 8)) := by simp [pk]
theorem byte_lt (bs : List Bool) (j : Nat) : bnum ((bs.drop (8 * j)).take 8) < 256 := by
  have := bnum_lt ((bs.drop (8 * j)).take 8)
  have h : 2 ^ ((bs.drop (8 * j)).take 8).length ≤ 2 ^ 8 := Nat.pow_le_pow_right (by decide) (by simp; omega)
  omega
theorem pk_toNat (bs : List Bool) (n j : Nat) (h : j < (pk bs n).length) : ((pk bs n)[j]).toNat = bnum ((bs.drop (8 * j)).take 8) := by
  rw [pk_get, UInt8.toNat_ofNat']
  exact Nat.mod_eq_of_lt (byte_lt bs j)
/-- The byte in which the next bit lies: so far it is less than that bit. -/
theorem pk_room (bs : List Bool) (n : Nat) (h : bs.length / 8 < (pk bs n).length) : ((pk bs n)[bs.length / 8]).toNat < 2 ^ (bs.length % 8) := by
  rw [pk_toNat]
  have := bnum_lt ((bs.drop (8 * (bs.length / 8))).take 8)
  have e : ((bs.drop (8 * (bs.length / 8))).take 8).length = bs.length % 8 := by simp; omega
  rwa [e] at this
/-- One bit more. -/
theorem pk_snoc (bs : List Bool) (b : Bool) (n : Nat) (h : bs.length / 8 < (pk bs n).length) :
    pk (bs ++ [b]) n = (pk bs n).set (bs.length / 8) (UInt8.ofNat (((pk bs n)[bs.length / 8]).toNat + b.toNat * 2 ^ (bs.length % 8))) := by
  apply List.ext_getElem
  · simp
  · intro j h1 h2
    rw [pk_get]
    by_cases hj : j = bs.length / 8
    · subst hj
      rw [List.getElem_set_self, pk_toNat]
      congr 1
      have e : ((bs ++ [b]).drop (8 * (bs.length / 8))).take 8 = (bs.drop (8 * (bs.length / 8))).take 8 ++ [b] := by
        rw [List.drop_append_of_le_length (by omega), List.take_of_length_le (by simp; omega), List.take_of_length_le (by simp; omega)]
      have el : ((bs.drop (8 * (bs.length / 8))).take 8).length = bs.length % 8 := by simp; omega
      rw [e, bnum_append, el]
      simp [bnum, Nat.mul_comm]
    · rw [List.getElem_set_ne (by omega), pk_get]
      congr 2
      rcases Nat.lt_or_ge j (bs.length / 8) with h3 | h3
      · rw [List.drop_append_of_le_length (by omega), List.take_append_of_le_length (by simp; omega)]
      · rw [List.drop_of_length_le (by simp; omega), List.drop_of_length_le (by omega)]
theorem pk_nil (n : Nat) : pk [] n = List.replicate n 0 := by
  apply List.ext_getElem
  · simp
  · intro j h1 h2; rw [pk_get]; simp [bnum]
/-- A bit that is no more. -/
theorem pk_false (bs : List Bool) (n : Nat) (h : bs.length < 8 * n) : pk (bs ++ [false]) n = pk bs n := by
  rw [pk_snoc bs false n (by simp; omega)]
  simp

/-- The bits of a number, so many. -/
def bitsOf : Nat → Nat → List Bool
  | 0, _ => []
  | w + 1, x => (x % 2 == 1) :: bitsOf w (x / 2)
@[simp] theorem bitsOf_len (w x : Nat) : (bitsOf w x).length = w := by induction w generalizing x with
  | zero => rfl
  | succ w ih => simp [bitsOf, ih]
theorem bnum_bitsOf (w x : Nat) : bnum (bitsOf w x) = x % 2 ^ w := by
  induction w generalizing x with
  | zero => simp [bitsOf, bnum, Nat.mod_one]
  | succ w ih =>
    rw [bitsOf, bnum, ih, Nat.pow_succ, Nat.mul_comm (2 ^ w) 2, Nat.mod_mul]
    have : (x % 2 == 1).toNat = x % 2 := by rcases Nat.mod_two_eq_zero_or_one x with h | h <;> simp [h]
    omega
theorem bitsOf_get (w x k : Nat) (h : k < (bitsOf w x).length) : (bitsOf w x)[k] = (x / 2 ^ k % 2 == 1) := by
  induction w generalizing x k with
  | zero => simp at h
  | succ w ih =>
    cases k with
    | zero => simp [bitsOf]
    | succ k => simp only [bitsOf, List.getElem_cons_succ, ih, Nat.pow_succ]; rw [Nat.mul_comm, ← Nat.div_div_eq_div_mul]
theorem bitsOf_snoc (w x : Nat) : bitsOf (w + 1) x = bitsOf w x ++ [x / 2 ^ w % 2 == 1] := by
  apply List.ext_getElem
  · simp
  · intro k h1 h2
    rw [bitsOf_get, List.getElem_append]
    split
    · rw [bitsOf_get]
    · next h =>
      have hk : k = w := by simp at h h1; omega
      subst hk; simp

/-- Numbers of one width, packed. -/
def allBits (l : List Nat) (w : Nat) : List Bool := l.flatMap (bitsOf w)
@[simp] theorem allBits_len (l : List Nat) (w : Nat) : (allBits l w).length = l.length * w := by
  induction l with
  | nil => simp [allBits]
  | cons x l ih => simp only [allBits, List.flatMap_cons, List.length_append, bitsOf_len] at ih ⊢; rw [ih, List.length_cons, Nat.add_mul]; omega
theorem allBits_snoc (l : List Nat) (x w : Nat) : allBits (l ++ [x]) w = allBits l w ++ bitsOf w x := by simp [allBits]
def psize (n w : Nat) : Nat := (n * w + 7) / 8
def pput (l : List Nat) (w : Nat) : List UInt8 := pk (allBits l w) (psize l.length w)

/-- A bit of bytes: 0 beyond them. -/
def bitn (b : List UInt8) (at_ : Nat) : Nat := (b[at_ / 8]?.getD 0).toNat / 2 ^ (at_ % 8) % 2
def pgetTo (b : List UInt8) (at_ : Nat) : Nat → Nat
  | 0 => 0
  | k + 1 => pgetTo b at_ k + bitn b (at_ + k) * 2 ^ k
def pget (b : List UInt8) (w i : Nat) : Nat := pgetTo b (i * w) w
theorem pgetTo_lt (b : List UInt8) (at_ k : Nat) : pgetTo b at_ k < 2 ^ k := by
  induction k with
  | zero => simp [pgetTo]
  | succ k ih =>
    rw [pgetTo, Nat.pow_succ]
    have : bitn b (at_ + k) < 2 := Nat.mod_lt _ (by decide)
    have h : bitn b (at_ + k) * 2 ^ k ≤ 1 * 2 ^ k := Nat.mul_le_mul_right _ (by omega)
    omega

/-- Any bit of a number of bits. -/
theorem bnum_bit (l : List Bool) (k : Nat) : bnum l / 2 ^ k % 2 = (l[k]?.getD false).toNat := by
  induction l generalizing k with
  | nil => simp [bnum]
  | cons b l ih =>
    cases k with
    | zero => simp [bnum]; cases b <;> simp
    | succ k =>
      rw [Nat.pow_succ, Nat.mul_comm, ← Nat.div_div_eq_div_mul]
      have : bnum (b :: l) / 2 = bnum l := by rw [bnum]; cases b <;> simp <;> omega
      rw [this, ih]; simp
theorem bitn_pk (bs : List Bool) (n at_ : Nat) (h : bs.length ≤ 8 * n) : bitn (pk bs n) at_ = (bs[at_]?.getD false).toNat := by
  unfold bitn
  rcases Nat.lt_or_ge (at_ / 8) n with h1 | h1
  · have h2 : at_ / 8 < (pk bs n).length := by simpa using h1
    rw [List.getElem?_eq_getElem h2]
    simp only [Option.getD_some]
    rw [pk_toNat, bnum_bit, List.getElem?_take, List.getElem?_drop, if_pos (Nat.mod_lt _ (by decide)), Nat.div_add_mod]
  · rw [List.getElem?_eq_none (by simpa using h1), List.getElem?_eq_none (by omega)]
    simp
theorem pgetTo_pk (bs : List Bool) (n at_ k : Nat) (h : bs.length ≤ 8 * n) (hk : at_ + k ≤ bs.length) : pgetTo (pk bs n) at_ k = bnum ((bs.drop at_).take k) := by
  induction k with
  | zero => simp [pgetTo, bnum]
  | succ k ih =>
    rw [pgetTo, ih (by omega), bitn_pk bs n _ h]
    have e : (bs.drop at_).take (k + 1) = (bs.drop at_).take k ++ [bs[at_ + k]] := by
      rw [List.take_add_one, List.getElem?_drop, List.getElem?_eq_getElem (by omega)]; rfl
    rw [e, bnum_append]
    have el : ((bs.drop at_).take k).length = k := by simp; omega
    rw [el, List.getElem?_eq_getElem (by omega)]
    simp [bnum, Nat.mul_comm]
theorem psize_ok (n w : Nat) : n * w ≤ 8 * psize n w := by unfold psize; omega
theorem allBits_cut (l : List Nat) (w i : Nat) (h : i < l.length) : ((allBits l w).drop (i * w)).take w = bitsOf w l[i] := by
  induction l generalizing i with
  | nil => simp at h
  | cons x l ih =>
    have e : allBits (x :: l) w = bitsOf w x ++ allBits l w := by simp [allBits]
    rw [e]
    cases i with
    | zero => simp
    | succ i =>
      rw [Nat.add_mul, Nat.one_mul, List.drop_append, List.drop_of_length_le (by simp), bitsOf_len, Nat.add_sub_cancel, List.nil_append]
      simpa using ih i (by simpa using h)
/-- What is packed is got back. -/
theorem pget_pput (l : List Nat) (w i : Nat) (h : i < l.length) (hw : l[i] < 2 ^ w) : pget (pput l w) w i = l[i] := by
  unfold pget pput
  have h1 : (i + 1) * w ≤ l.length * w := Nat.mul_le_mul_right _ h
  rw [pgetTo_pk _ _ _ _ (by simpa using psize_ok l.length w) (by rw [allBits_len]; rw [Nat.add_mul] at h1; omega), allBits_cut l w i h, bnum_bitsOf, Nat.mod_eq_of_lt hw]

end Go.Proofs.YtpjbibcjefkcaaaGreat
