import Derived.Test.YtpjbibcjefkcaaaGreatV2
namespace Go.Proofs.YtpjbibcjefkcaaaGreat
open Go.RowKit

/-- What the first code says, how many bytes it has, and an error. -/
def fnext (t : List Str) (b : Str) : Str × Nat × Nat :=
  if b.getD 0 0 = 255 then (if b.length = 1 then ([], 0, 2) else ((b.take 2).drop 1, 2, 0))
  else if t.length ≤ (b.getD 0 0).toNat then ([], 0, 3) else (t.getD (b.getD 0 0).toNat [], 1, 0)
def nextEnd (p : Str × Nat × Nat) : Ending := .returned (.tuple #[.string ⟨p.1.toArray⟩, .int .i64 (p.2.1 : Int), .int .i64 (p.2.2 : Int)])

set_option maxRecDepth 100000 in
set_option maxHeartbeats 400000 in
theorem next_ok (w : World) (B B2 : Nat) (v u : Value) (t : List Str) (b : Str) (h : Rd kStr 9 w B v t) (hb : Rd kByte 5 w B2 u b) (hl : t.length ≤ 1000000) (hp : 0 < b.length) :
    Calls Tryz.prog 242 #[v, u] w fun en w' => en = nextEnd (fnext t b) ∧ w = w' := by
  obtain ⟨A, c, rfl, h1, h2⟩ := h.form
  obtain ⟨A2, c2, rfl, h3, h4⟩ := hb.form
  obtain ⟨b0, off0, cs0, hA0, hk0, hc0⟩ := hb.at hp
  subst hA0
  obtain rfl := hk0
  have hx := hc0 0 _ rfl
  simp only [Nat.add_zero, show kByte.sz = 1 from rfl, Nat.mul_one] at hx
  generalize hR : fnext t b = R
  have hg : b.getD 0 0 = b[0] := by simp [List.getD, hp]
  unfold fnext at hR
  rw [hg] at hR
  clear hc0 hg
  have HR := Lib.hid hR; clear hR
  have h255 : b[0] = 255 ↔ b[0].toNat = 255 := by rw [← UInt8.toNat_inj]; rfl
  have hlt : b[0].toNat < 256 := UInt8.toNat_lt _
  by_cases he : b[0] = 255
  · have hv := h255.1 he
    have hr := HR.out
    rw [if_pos he] at hr
    clear h255 he HR
    generalize b[0].toNat = x at *
    subst hv
    by_cases h1 : b.length = 1
    · rw [if_pos h1] at hr
      subst hr
      rw [h1] at *
      go_enter Tryz.func242, Tryz.ntmps242
      go_wp2_with fail
      go_ret3
      exact ⟨rfl, rfl⟩
    · rw [if_neg h1] at hr
      subst hr
      have hb1 : decide (b.length = 1) = false := by simpa using h1
      have hb2 : decide ((b.length : Int) = 1) = false := by simp; omega
      have hlen : 1 < b.length := by omega
      have hd : ((b.take 2).drop 1).length ≤ 2 := by simp; omega
      go_enter Tryz.func242, Tryz.ntmps242
      go_wp2_with (first | (refine cutLH Tryz.underlying36 Tryz.i5 hb rfl rfl (by decide) (by decide) (by omega) ?_; intro v1 hv1) | (refine convStr Tryz.underlying36 Tryz.underlying5 Tryz.underlying9 hv1 ?_))
      go_ret3
      exact ⟨by simp [nextEnd], rfl⟩
  · have hv := mt h255.2 he
    have hr := HR.out
    rw [if_neg he] at hr
    clear h255 he HR
    generalize b[0].toNat = x at *
    have hx1 : decide ((x : Int) = 255) = false := by simp; omega
    have hx2 : decide (x = 255) = false := by simpa using hv
    by_cases hxt : t.length ≤ x
    · rw [if_pos hxt] at hr
      subst hr
      go_enter Tryz.func242, Tryz.ntmps242
      go_wp2_with fail
      go_ret3
      exact ⟨rfl, rfl⟩
    · rw [if_neg hxt] at hr
      subst hr
      have hlt2 : x < t.length := by omega
      obtain ⟨b1, off1, cs1, rfl, ⟨rfl, _⟩, hc⟩ := h.at hlt2
      have hc0 := hc 0 _ rfl
      simp only [Nat.add_zero, show kStr.sz = 1 from rfl, Nat.mul_one] at hc0
      have hg : t.getD x [] = t[x] := by simp [List.getD, hlt2]
      rw [hg]
      clear hc hg
      generalize t[x] = s at *
      go_enter Tryz.func242, Tryz.ntmps242
      go_wp2_with fail
      go_ret3
      exact ⟨rfl, rfl⟩
end Go.Proofs.YtpjbibcjefkcaaaGreat
