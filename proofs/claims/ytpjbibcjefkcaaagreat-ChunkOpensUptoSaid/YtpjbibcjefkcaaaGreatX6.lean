import Derived.Test.YtpjbibcjefkcaaaGreatX5
namespace Go.Proofs.YtpjbibcjefkcaaaGreat
open Go.RowKit

/-- A coding. -/
structure Cod where
  kind : Int
  block : Int
  rounds : Int
  draws : List Int
def Cod.val (o : Cod) (dv : Value) : Value := .agg #[.int .i64 o.kind, .int .i64 o.block, .int .i64 o.rounds, dv]
def CodRow (w : World) (g : Nat) (k b r : Int) (dv : Value) : Prop := w.heap[g]? = some (.cells #[.int .i64 k, .int .i64 b, .int .i64 r, dv] 58 (0, 0))
theorem CodRow.cells {w g k b r dv} (h : CodRow w g k b r dv) : w.cell? ⟨g, 0, none⟩ = some (.int .i64 k) ∧ w.cell? ⟨g, 1, none⟩ = some (.int .i64 b) ∧ w.cell? ⟨g, 2, none⟩ = some (.int .i64 r) ∧ w.cell? ⟨g, 3, none⟩ = some dv := by
  unfold CodRow at h
  exact ⟨by simp [World.cell?, h], by simp [World.cell?, h], by simp [World.cell?, h], by simp [World.cell?, h]⟩
theorem CodRow.free {w g k b r dv} (h : CodRow w g k b r dv) (i : Nat) : w.frozen? ⟨g, i, none⟩ = false := by
  unfold CodRow at h
  simp [World.frozen?, h]
theorem CodRow.below {w w' g k b r dv} (h : CodRow w g k b r dv) (hb : Below w.heap.size w w') : CodRow w' g k b r dv := (hb.block _ (lt_of_some h)).trans h
theorem CodRow.wr {w w' g k b r dv b' e} (h : CodRow w g k b r dv) (hw : Wr b' e w w') (he : e ≠ 58) : CodRow w' g k b r dv := hw.typed _ _ _ _ (fun k => he k.symm) h
theorem CodRow.new (w : World) (k b r : Int) (dv : Value) : CodRow (w.alloc (.cells #[.int .i64 k, .int .i64 b, .int .i64 r, dv] 58)) w.heap.size k b r dv := heap_alloc_new w _
theorem CodRow.set {w g k b r dv} (h : CodRow w g k b r dv) (k' : Int) : CodRow (w.setCell ⟨g, 0, none⟩ (.int .i64 k')) g k' b r dv ∧ Wr g 58 w (w.setCell ⟨g, 0, none⟩ (.int .i64 k')) := by
  unfold CodRow at h ⊢
  exact ⟨by rw [heap_set h]; simp, wr_set h⟩

def codOk (o : Cod) : Bool := decide (0 ≤ o.kind ∧ o.kind ≤ 3 ∧ 1 ≤ o.block ∧ o.block ≤ 64 ∧ 0 ≤ o.rounds ∧ o.rounds ≤ 8 ∧ o.draws.length ≤ 4096)
def cright (l : List (Bool × Str)) (o : Cod) : Bool := decide (l.length ≤ 4096) && (!(l.any wrongV) && codOk o)

theorem wrongP (w : World) : PredIs kVal w 146 #[] wrongV := by
  intro W B x cs _ hk
  obtain ⟨c1, c2, rfl, h1, h2⟩ := hk
  obtain ⟨b, s⟩ := x
  obtain rfl := h1
  obtain ⟨rfl, _⟩ := h2
  exact wrong_ok W b s

set_option maxRecDepth 100000 in
set_option maxHeartbeats 1600000 in
theorem cright_ok (w : World) (B B2 : Nat) (v dv : Value) (l : List (Bool × Str)) (o : Cod) (h : Rd kVal 74 w B v l) (hd : Rd (kInt .i64) 3 w B2 dv o.draws) :
    Calls Tryz.prog 91 #[v, o.val dv] w fun en w' => en = .returned (.bool (cright l o)) ∧ Below w.heap.size w w' := by
  obtain ⟨A, c, rfl, h1, h2⟩ := h.form
  obtain ⟨k, b, r, ds⟩ := o
  obtain ⟨A2, c2, rfl, h3, h4⟩ := hd.form
  unfold Cod.val
  simp only
  have hu := Tryz.underlying58
  have hR : cright l ⟨k, b, r, ds⟩ = (decide (l.length ≤ 4096) && (!(l.any wrongV) && codOk ⟨k, b, r, ds⟩)) := rfl
  have hC : codOk ⟨k, b, r, ds⟩ = decide (0 ≤ k ∧ k ≤ 3 ∧ 1 ≤ b ∧ b ≤ 64 ∧ 0 ≤ r ∧ r ≤ 8 ∧ ds.length ≤ 4096) := rfl
  rw [hC] at hR
  clear hC
  have hb0 := below_alloc (w := w) (.cells #[.int .i64 k, .int .i64 b, .int .i64 r, .slice A2 ds.length c2] 58)
  have hrow := CodRow.new w k b r (.slice A2 ds.length c2)
  generalize cright l ⟨k, b, r, ds⟩ = R at *
  by_cases c1 : 4096 < l.length
  · have hF : R = false := by rw [hR, decide_eq_false (by omega)]; rfl
    have HF := Lib.hid hF; clear hF hR
    go_enter Tryz.func91, Tryz.ntmps91
    go_wp2
    go_ret
    exact ⟨by rw [HF.out]; rfl, hb0⟩
  have d1 : decide (4096 < (l.length : Int)) = false := by simp; omega
  have HL := containsFunc_val_ok 146 #[] wrongV _ Tryz.call146 (wrongP _) B _ l (h.below hb0)
  cases ha : l.any wrongV
  all_goals
    rw [ha] at HL hR
    have HHL := Lib.hid HL; clear HL
    have HA := Lib.hid ha; clear ha
  · by_cases c3 : 4096 < ds.length
    · have hF : R = false := by rw [hR]; simp; omega
      have HF := Lib.hid hF; clear hF hR
      go_enter Tryz.func91, Tryz.ntmps91
      go_wp2_with fail
      refine HHL.out.mono ?_
      rintro e w1 ⟨rfl, HB⟩
      obtain ⟨q0, q1, q2, q3⟩ := (hrow.below HB).cells
      go_wp2_with fail
      go_ret
      exact ⟨by rw [HF.out]; rfl, below_step hb0 hb0.size HB⟩
    have d3 : decide (4096 < (ds.length : Int)) = false := by simp; omega
    by_cases k0 : 0 ≤ k
    rotate_left
    · have hF : R = false := by rw [hR]; simp; omega
      have HF := Lib.hid hF; clear hF hR
      have e1 : decide (0 ≤ k) = false := by simpa using k0
      go_enter Tryz.func91, Tryz.ntmps91
      go_wp2_with fail
      refine HHL.out.mono ?_
      rintro e w1 ⟨rfl, HB⟩
      obtain ⟨q0, q1, q2, q3⟩ := (hrow.below HB).cells
      go_wp2_with fail
      go_ret
      exact ⟨by rw [HF.out]; rfl, below_step hb0 hb0.size HB⟩
    by_cases k3 : k ≤ 3
    rotate_left
    · have hF : R = false := by rw [hR]; simp; omega
      have HF := Lib.hid hF; clear hF hR
      have e1 : decide (k ≤ 3) = false := by simpa using k3
      go_enter Tryz.func91, Tryz.ntmps91
      go_wp2_with fail
      refine HHL.out.mono ?_
      rintro e w1 ⟨rfl, HB⟩
      obtain ⟨q0, q1, q2, q3⟩ := (hrow.below HB).cells
      go_wp2_with fail
      go_ret
      exact ⟨by rw [HF.out]; rfl, below_step hb0 hb0.size HB⟩
    by_cases b1 : 1 ≤ b
    rotate_left
    · have hF : R = false := by rw [hR]; simp; omega
      have HF := Lib.hid hF; clear hF hR
      have e1 : decide (1 ≤ b) = false := by simpa using b1
      go_enter Tryz.func91, Tryz.ntmps91
      go_wp2_with fail
      refine HHL.out.mono ?_
      rintro e w1 ⟨rfl, HB⟩
      obtain ⟨q0, q1, q2, q3⟩ := (hrow.below HB).cells
      go_wp2_with fail
      go_ret
      exact ⟨by rw [HF.out]; rfl, below_step hb0 hb0.size HB⟩
    by_cases b64 : b ≤ 64
    rotate_left
    · have hF : R = false := by rw [hR]; simp; omega
      have HF := Lib.hid hF; clear hF hR
      have e1 : decide (b ≤ 64) = false := by simpa using b64
      go_enter Tryz.func91, Tryz.ntmps91
      go_wp2_with fail
      refine HHL.out.mono ?_
      rintro e w1 ⟨rfl, HB⟩
      obtain ⟨q0, q1, q2, q3⟩ := (hrow.below HB).cells
      go_wp2_with fail
      go_ret
      exact ⟨by rw [HF.out]; rfl, below_step hb0 hb0.size HB⟩
    by_cases r0 : 0 ≤ r
    rotate_left
    · have hF : R = false := by rw [hR]; simp; omega
      have HF := Lib.hid hF; clear hF hR
      have e1 : decide (0 ≤ r) = false := by simpa using r0
      go_enter Tryz.func91, Tryz.ntmps91
      go_wp2_with fail
      refine HHL.out.mono ?_
      rintro e w1 ⟨rfl, HB⟩
      obtain ⟨q0, q1, q2, q3⟩ := (hrow.below HB).cells
      go_wp2_with fail
      go_ret
      exact ⟨by rw [HF.out]; rfl, below_step hb0 hb0.size HB⟩
    have hF : R = decide (r ≤ 8) := by
      have hds : ds.length ≤ 4096 := by omega
      have hls : l.length ≤ 4096 := by omega
      rw [hR, Bool.eq_iff_iff]
      simp
      omega
    have HF := Lib.hid hF; clear hF hR
    go_enter Tryz.func91, Tryz.ntmps91
    go_wp2_with fail
    refine HHL.out.mono ?_
    rintro e w1 ⟨rfl, HB⟩
    obtain ⟨q0, q1, q2, q3⟩ := (hrow.below HB).cells
    go_wp2_with fail
    go_ret
    exact ⟨by rw [HF.out]; rfl, below_step hb0 hb0.size HB⟩
  · have hF : R = false := by rw [hR]; simp
    have HF := Lib.hid hF; clear hF hR
    go_enter Tryz.func91, Tryz.ntmps91
    go_wp2_with fail
    refine HHL.out.mono ?_
    rintro e w1 ⟨rfl, HB⟩
    obtain ⟨q0, q1, q2, q3⟩ := (hrow.below HB).cells
    go_wp2_with fail
    go_ret
    exact ⟨by rw [HF.out]; rfl, below_step hb0 hb0.size HB⟩
end Go.Proofs.YtpjbibcjefkcaaaGreat
