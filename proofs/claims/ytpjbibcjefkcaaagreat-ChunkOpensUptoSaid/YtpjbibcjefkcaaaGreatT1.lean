import Derived.Test.YtpjbibcjefkcaaaGreatProg
import Derived.Test.YtpjbibcjefkcaaaGreatBase
import Derived.Laws.BitsLemmas
namespace Go.Proofs.YtpjbibcjefkcaaaGreat
open Go.RowKit

def vput (n : Nat) : List UInt8 := if n < 128 then [UInt8.ofNat n] else UInt8.ofNat (n % 128 + 128) :: vput (n / 128)

theorem Tryz.i5 : (Tryz.prog.info? 5).map (fun i => (i.zero, i.size, i.bytes)) = some (some (.int .u8 0), 1, 1) := by kernel_rfl

theorem or128 (k : Int) (h : 0 ≤ k) : bits .or .u8 (k % 256) 128 = ((UInt8.ofNat (k.toNat % 128 + 128)).toNat : Int) := by
  obtain ⟨a, rfl⟩ := Int.eq_ofNat_of_zero_le h
  have e : ((a : Int) % 256) = ((a % 256 : Nat) : Int) := by omega
  rw [e, show (128 : Int) = ((128 : Nat) : Int) from rfl, (bits_nat .u8 8 (by decide) wraps_u8 _ _ (by omega) (by decide)).2]
  have : a % 256 ||| 128 = a % 128 + 128 := by
    by_cases hc : a % 256 < 128
    · have e2 : a % 256 = a % 128 := by omega
      have := Nat.two_pow_add_eq_or_of_lt (b := a % 128) (i := 7) (by omega) 1
      rw [e2, Nat.or_comm]; simpa [Nat.add_comm] using this.symm
    · have e2 : a % 256 = 128 + a % 128 := by omega
      have := Nat.two_pow_add_eq_or_of_lt (b := a % 128) (i := 7) (by omega) 1
      have e3 : 128 + a % 128 = 128 ||| (a % 128) := by simpa using this
      rw [e2, e3, Nat.or_comm, ← Nat.or_assoc, Nat.or_self, ← e3]; omega
  rw [this]
  simp [UInt8.toNat_ofNat']
  omega

theorem vput_len (m : Nat) : ∀ n : Nat, n < 128 ^ (m + 1) → (vput n).length ≤ m + 1 := by
  induction m with
  | zero => intro n h; rw [vput, if_pos (by omega)]; simp
  | succ m ih =>
    intro n h
    rw [vput]
    split
    · simp
    · have := ih (n / 128) (by rw [Nat.pow_succ] at h; omega)
      simp; omega
theorem vput_len9 {n : Nat} (h : n ≤ 9223372036854775807) : (vput n).length ≤ 9 := vput_len 8 n (by omega)

set_option maxRecDepth 100000 in
set_option maxHeartbeats 400000 in
theorem put_ok (n : Int) (w : World) (h0 : 0 ≤ n) (h1 : n ≤ 9223372036854775807) : Calls Tryz.prog 84 #[.int .i64 n] w (Fresh kByte 5 w (vput n.toNat)) := by
  have hlen := vput_len9 (n := n.toNat) (by omega)
  go_enter Tryz.func84, Tryz.ntmps84
  go_wp2
  go_loopw [0, 3] (fun m v wr => ∃ k : Int, 0 ≤ k ∧ k ≤ n ∧ m = .int .i64 k ∧ ∃ xs, Own kByte 5 wr w.heap.size 0 v xs ∧ xs ++ vput k.toNat = vput n.toNat ∧ Below w.heap.size w wr) (fun m _ _ => (intOf m).toNat)
  case atStart => exact ⟨n, h0, by omega, rfl, [], Own.nil _ _ _ _ _, rfl, Below.refl _ _⟩
  case round =>
    obtain ⟨k, hk0, hkn, rfl, xs, HO, he, HB⟩ := hrel
    have hl : xs.length ≤ 9 := by have := congrArg List.length he; simp at this; omega
    have He := Lib.hid he; clear he
    by_cases hc : 128 ≤ k
    · go_wp2_with (at_builtin; refine app1 Tryz.underlying36 Tryz.i5 HO (congrArg (fun z => [Value.int .u8 z]) (or128 k hk0)) HB.size (by omega) ?_)
      intro v1 w1 HO1 hw1
      go_wp2
      go_roundw
      case rel => 
        refine ⟨k / 128, by omega, by omega, rfl, _, HO1, ?_, hw1.below HB (Nat.le_refl _) HB.size⟩
        rw [← He.out, List.append_assoc]; congr 1; conv => rhs; rw [vput, if_neg (by omega)]
        simp; congr 1; omega
      case measure => simp [intOf]; omega
    · go_wp2_with (at_builtin; refine app1 (y := UInt8.ofNat k.toNat) Tryz.underlying36 Tryz.i5 HO (by simp [kByte]; omega) HB.size (by omega) ?_)
      intro v1 w1 HO1 hw1
      go_wp2
      go_ret
      have : xs ++ [UInt8.ofNat k.toNat] = vput n.toNat := by rw [← He.out]; congr 1; rw [vput, if_pos (by omega)]
      exact ⟨_, rfl, this ▸ HO1, hw1.below HB (Nat.le_refl _) HB.size⟩
end Go.Proofs.YtpjbibcjefkcaaaGreat
