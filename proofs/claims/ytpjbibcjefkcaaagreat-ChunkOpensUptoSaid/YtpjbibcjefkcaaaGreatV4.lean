import Derived.Test.YtpjbibcjefkcaaaGreatV3
import Derived.Deep.RegionLaw
import Derived.BigRegion
namespace Go.Proofs.YtpjbibcjefkcaaaGreat
open Go.RowKit

/-- Just the normal end. -/
def Only (K : Act → World → Prop) : Exit → Act → World → Prop
  | .normal, a, w => K a w
  | _, _, _ => False
theorem wp_only {P : Program} {o : Oper} {a : Act} {w : World} {K : Act → World → Prop} {Q : Exit → Act → World → Prop} (hh : o.wp P a w K (Only K)) : o.wp P a w K Q := by
  unfold Oper.wp at *
  generalize (execOp a.eval o).run P w = r at *
  cases r with
  | ok n w' =>
    cases n <;> simp only [Oper.upon] at hh ⊢ <;>
      first
        | exact hh
        | exact Calls.mono hh (fun e w'' he => by cases e <;> first | exact he | exact False.elim he | (obtain ⟨_, _, h⟩ := he; exact False.elim h))
  | halt x w' => cases x <;> simp only [Oper.upon] at hh ⊢ <;> first | exact hh | exact False.elim hh | skip
/-- An arm of a plain list, at a step of a region that draws. -/
theorem step_list {P : Program} {ops : Array Oper} {o : Oper} {a : Act} {w : World} {K : Act → World → Prop} {Q : Exit → Act → World → Prop} {E : Prop} (hg : o.guard = none)
    (h : ∀ Q', (∀ a w, K a w → Q' .normal a w) → wpList P ops Q' [o] a w) : if Region.wanted o (yielded ops a.tmps) = true then Oper.wp P o a w K Q else E := by
  have hw : Region.wanted o (yielded ops a.tmps) = true := by simp [Region.wanted, hg]
  have h1 := h (Only K) fun _ _ hk => hk
  unfold wpList at h1
  rw [if_pos hw] at h1
  rw [if_pos hw]
  rcases h1 with h1 | ⟨_, h1⟩
  · exact wp_only (Q := Q) h1
  · obtain ⟨_, _, h2⟩ := h1
    exact False.elim h2

theorem below_drew (w : World) : Below w.heap.size w w.drew := (Below.refl _ _).drew
theorem strRunL {P : Program} {t : TypeId} {xs : List UInt8} {kl : IntKind} {lo : Int} (ht : P.underlying t = some .string) (h0 : 0 ≤ lo) (h1 : lo ≤ xs.length) :
    ∀ W, (Instr.slice t (.string ⟨xs.toArray⟩) (some (.int kl lo)) none none).run P W = .ok (.string ⟨(xs.drop lo.toNat).toArray⟩) W := by
  intro W
  have hs : (⟨xs.toArray⟩ : ByteArray).size = xs.length := by simp [ByteArray.size]
  rw [run_slice_string_l W t _ ht kl lo h0 (by rw [hs]; exact h1), hs, ext_str, List.take_length]

/-- A string's length. -/
def strLen : Value → Nat
  | .string b => b.size
  | _ => 0
theorem strLen_eq (x : Str) : strLen (.string ⟨x.toArray⟩) = x.length := by simp [strLen, ByteArray.size]
/-- What a string is coded to. -/
def fencN (t : List Str) : Nat → Str → Str
  | 0, _ => []
  | n + 1, s => match s, slongest t s with
    | [], _ => []
    | c :: r, none => 255 :: c :: fencN t n r
    | c :: r, some (k, m) => UInt8.ofNat k :: fencN t n ((c :: r).drop m)
def fenc (t : List Str) (s : Str) : Str := fencN t s.length s
theorem slong_pos (t : List Str) (s : Str) (n : Nat) {k m : Nat} (h : slong t s n = some (k, m)) : 1 ≤ m ∧ m ≤ n ∧ k < t.length := by
  induction n with
  | zero => cases h
  | succ n ih =>
    unfold slong at h
    split at h
    · next hh =>
      injection h with h; injection h with h1 h2
      subst h1 h2
      refine ⟨by omega, Nat.le_refl _, ?_⟩
      unfold hasAt at hh
      rw [decide_eq_true_eq] at hh
      exact (List.getElem?_eq_some_iff.1 hh).1
    · have := ih h; omega
theorem slongest_pos (t : List Str) (s : Str) {k m : Nat} (h : slongest t s = some (k, m)) : 1 ≤ m ∧ m ≤ s.length ∧ m ≤ 8 ∧ k < t.length := by
  have := slong_pos t s _ h; omega
theorem fencN_len (t : List Str) (n : Nat) : ∀ s : Str, (fencN t n s).length ≤ 2 * s.length := by
  induction n with
  | zero => intro s; simp [fencN]
  | succ n ih =>
    intro s
    cases s with
    | nil => simp [fencN]
    | cons c r =>
      cases hh : slongest t (c :: r) with
      | none => simp only [fencN, hh]; have := ih r; simp; omega
      | some p =>
        obtain ⟨k, m⟩ := p
        simp only [fencN, hh]; have := ih ((c :: r).drop m); have h2 := slongest_pos t _ hh; simp at *; omega

set_option maxRecDepth 100000 in
set_option maxHeartbeats 800000 in
theorem encode_ok (w : World) (B : Nat) (v : Value) (t : List Str) (s : Str) (h : Rd kStr 9 w B v t) (hB : B ≤ w.heap.size) (hs : t.Pairwise (· < ·)) (hl : t.length ≤ 255) (hsl : s.length ≤ 1000000) :
    Calls Tryz.prog 108 #[v, .string ⟨s.toArray⟩] w (Fresh kByte 5 w (fenc t s)) := by
  obtain ⟨A, c, rfl, h1, h2⟩ := h.form
  have HS := Lib.hid hs; clear hs
  generalize hR : fenc t s = R
  have hRl : R.length ≤ 2 * s.length := by rw [← hR]; exact fencN_len _ _ _
  go_enter Tryz.func108, Tryz.ntmps108
  go_wp2_with fail
  go_loopw [1, 5] (fun sv ov wr => ∃ (n : Nat) (s' out : Str), sv = .string ⟨s'.toArray⟩ ∧ s'.length ≤ n ∧ out ++ fencN t n s' = R ∧ out.length + 2 * s'.length ≤ 2 * s.length ∧ Own kByte 5 wr w.heap.size 0 ov out ∧ Wr w.heap.size 5 w wr) (fun sv _ _ => strLen sv)
  case atStart => exact ⟨s.length, s, [], rfl, Nat.le_refl _, hR, by simp, Own.nil _ _ _ _ _, Wr.refl _ _ _⟩
  case round =>
    obtain ⟨n, s', out, rfl, hn, hr, hol, HO, HW⟩ := hrel
    have HRL := Lib.hid hRl; clear hRl
    cases s' with
    | nil =>
      have hr2 : out = R := by rw [← hr]; cases n <;> simp [fencN]
      have HR := Lib.hid hr2; clear hr hr2
      go_wp2_with fail
      go_ret
      exact ⟨_, rfl, by rw [← HR.out]; exact HO, HW.below (Below.refl _ _) (Nat.le_refl _) (Nat.le_refl _)⟩
    | cons x r =>
      cases n with
      | zero => simp at hn
      | succ n =>
        have HLO := longest_ok (B := B) (v := .slice A t.length c) (t := t) (s := x :: r) (hs := HS.out) (hl := by omega) (hsl := by omega)
        have hRr := h.mono (HW.keep hB (by decide))
        obtain ⟨Ao, co, rfl, _, _⟩ := HO.form
        cases hh : slongest t (x :: r) with
        | none =>
          have hr2 : (out ++ [255, x]) ++ fencN t n r = R := by rw [← hr]; simp [fencN, hh]
          have HR := Lib.hid hr2; clear hr hr2
          rw [hh] at HLO
          have hnl : ((x :: r : Str).length : Int) = (r.length : Int) + 1 := by simp
          generalize hsx : x :: r = sx at *
          have hx0 : 0 < sx.length := by rw [← hsx]; simp
          have hs1 := strRunL (P := Tryz.prog) (t := 9) (xs := sx) (kl := .i64) (lo := 1) Tryz.underlying9 (by decide) (by omega)
          have hdr : sx.drop 1 = r := by rw [← hsx]; rfl
          have hsz : (⟨sx.toArray⟩ : ByteArray).size = sx.length := by simp [ByteArray.size]
          have hgx : (⟨sx.toArray⟩ : ByteArray)[0]'(by rw [hsz]; exact hx0) = x := by subst hsx; rfl
          have HSX := Lib.hid hsx; clear hsx hh
          go_wp2_with (go_at_call 165; refine (HLO _ hRr).mono ?_; rintro e w1 ⟨rfl, rfl⟩; simp only [longEnd])
          have hbq : Below wr.heap.size wr ((wr.alloc (Obj.cells #[Value.int IntKind.u8 255, Value.int IntKind.u8 ↑x.toNat] 5)).drew) := (below_alloc _).drew
          have HOq := HO.below hbq
          have HRq := (own_lit (d := kByte) (e := 5) (W := wr) (b := 0) (B := 0) (n := 2) (xs := [255, x]) (cells := #[Value.int IntKind.u8 255, Value.int IntKind.u8 ↑x.toNat]) rfl ⟨_, _, rfl, rfl, _, _, rfl, rfl, rfl⟩ (Nat.zero_le _) (by decide)).rd.below (below_drew _)
          go_region_law (refine step_list rfl fun Q' hQ => ?_; refine appRow (d := kByte) (e := 5) (b := w.heap.size) (B := 0) (B' := 0) (xs := out) (ys := [255, x]) Tryz.underlying36 Tryz.i5 HOq HRq (fun _ _ _ h => h) (Nat.le_trans HW.size hbq.size) (by simp; omega) ?_; intro v1 w1 HO1 hw1; refine hQ _ _ ?_; clear hQ; clear Q')
          go_simp
          go_wp2
          go_roundw
          case rel => exact ⟨n, r, out ++ [255, x], rfl, by omega, HR.out, by simp at hol ⊢; omega, HO1, (HW.trans (Wr.of_below hbq)).trans hw1⟩
          case measure => rw [strLen_eq, strLen_eq]; first | omega | (simp; omega)
        | some p =>
          obtain ⟨k, m⟩ := p
          have hpos := slongest_pos t _ hh
          have hr2 : (out ++ [UInt8.ofNat k]) ++ fencN t n ((x :: r).drop m) = R := by rw [← hr]; simp [fencN, hh]
          have HR := Lib.hid hr2; clear hr hr2
          rw [hh] at HLO
          generalize hsx : x :: r = sx at *
          have hx0 : 0 < sx.length := by rw [← hsx]; simp
          have HSX := Lib.hid hsx; clear hsx hh
          have hs1 := strRunL (P := Tryz.prog) (t := 9) (xs := sx) (kl := .i64) (lo := (m : Int)) Tryz.underlying9 (by omega) (by omega)
          have hsz : (⟨sx.toArray⟩ : ByteArray).size = sx.length := by simp [ByteArray.size]
          have hk8 : ((UInt8.ofNat k).toNat : Int) = IntKind.u8.wrap (k : Int) := by rw [IntKind.wrap_u8]; simp
          go_wp2_with (go_at_call 165; refine (HLO _ hRr).mono ?_; rintro e w1 ⟨rfl, rfl⟩; simp only [longEnd])
          have hbq : Below wr.heap.size wr ((wr.alloc (Obj.cells #[Value.int IntKind.u8 (IntKind.u8.wrap (k : Int))] 5)).drew) := (below_alloc _).drew
          have HOq := HO.below hbq
          have HRq := (own_lit (d := kByte) (e := 5) (W := wr) (b := 0) (B := 0) (n := 1) (xs := [UInt8.ofNat k]) (cells := #[Value.int IntKind.u8 (IntKind.u8.wrap (k : Int))]) rfl ⟨[Value.int IntKind.u8 (IntKind.u8.wrap (k : Int))], [], rfl, by rw [← hk8]; rfl, rfl⟩ (Nat.zero_le _) (by decide)).rd.below (below_drew _)
          go_region_law (refine step_list rfl fun Q' hQ => ?_; refine appRow (d := kByte) (e := 5) (b := w.heap.size) (B := 0) (B' := 0) (xs := out) (ys := [UInt8.ofNat k]) Tryz.underlying36 Tryz.i5 HOq HRq (fun _ _ _ h => h) (Nat.le_trans HW.size hbq.size) (by simp; omega) ?_; intro v1 w1 HO1 hw1; refine hQ _ _ ?_; clear hQ; clear Q')
          go_simp
          go_wp2
          go_roundw
          case rel => exact ⟨n, sx.drop m, out ++ [UInt8.ofNat k], rfl, by simp at hn ⊢; omega, HR.out, by simp at hol ⊢; omega, HO1, (HW.trans (Wr.of_below hbq)).trans hw1⟩
          case measure => rw [strLen_eq, strLen_eq]; first | omega | (simp; omega)
end Go.Proofs.YtpjbibcjefkcaaaGreat
