import Derived.OrdersHeld
import Derived.Deep.RegionLaw
import Derived.Deep.RegionHeld
/- A region that draws its order, with loads of cells that the region's own last stores write: the loads first. -/
set_option linter.unusedVariables false
namespace Go.Proofs.YtpjbibcjefkcaaaGreat

section
variable {P : Program} {ops : Array Oper} {Q : Exit → Act → World → Prop} {md : Region.Mode} {T : World → Prop} {st : List Nat}

/-- A store has come up, or T holds. -/
def TillStore (T : World → Prop) (st : List Nat) (L : Array Bool) (w : World) : Prop := (∃ s ∈ st, L.getD s false = true) ∨ T w
/-- Whatever order is picked; behind each operation a store has come up, or T holds. -/
def wpTill (P : Program) (md : Region.Mode) (ops : Array Oper) (Q : Exit → Act → World → Prop) (T : World → Prop) (st : List Nat) : Nat → Array Bool → Act → World → Prop
  | 0, L, a, w => Region.ready md ops L = [] ∧ Q .normal a w
  | n + 1, L, a, w => (Region.ready md ops L = [] → Q .normal a w) ∧
    ∀ i ∈ Region.ready md ops L, wpOp P ops Q i (fun a' w' => TillStore T st (L.setIfInBounds i true) w' ∧ wpTill P md ops Q T st n (L.setIfInBounds i true) a' w') a w

theorem wpTill.any : ∀ {n : Nat} {L : Array Bool} {a : Act} {w : World}, wpTill P md ops Q T st n L a w → wpAny P md ops Q n L a w
  | 0, _, _, _, h => h
  | _ + 1, _, _, _, h => ⟨h.1, fun i hi => wpOp_mono (fun _ _ h' => h'.2.any) (h.2 i hi)⟩

theorem wpTill.first {i : Nat} {oi : Oper} {v : Value} (hi : ops[i]? = some oi) (hsel : ∀ (j : Nat) (o : Oper) cs b, ops[j]? = some o → o.op ≠ .select cs b)
    (hQ : ∀ c a w, Q (.panic c) (a.put oi.dst v) w → Q (.panic c) a w) (hst : ∀ s ∈ st, s ≠ i ∧ ∃ os, ops[s]? = some os ∧ ∃ e ∈ os.after, Region.binds md e = true ∧ e.on = i) :
    ∀ {n : Nat} {L : Array Bool} {a : Act} {w : World},
      (∀ j oj, ops[j]? = some oj → j ≠ i → L.getD j true = false → (∀ e ∈ oj.after, Region.binds md e = true → e.on ≠ i) → oi.apart ops oj = true) →
      (∀ s ∈ st, L.getD s false = false) → i ∈ Region.ready md ops L → YieldsIf P ops T oi v a → T w →
      wpTill P md ops Q T st n (L.setIfInBounds i true) (a.put oi.dst v) w → wpTill P md ops Q T st (n + 1) L a w := by
  intro n
  induction n with
  | zero =>
    intro L a w _ _ hr hy hT H
    refine ⟨fun h => (by rw [h] at hr; cases hr), fun j hj => ?_⟩
    by_cases hji : j = i
    · subst hji; exact hy.wpOp hi hT ⟨.inr hT, H⟩
    · have h0 := ready_mono hj hji
      rw [H.1] at h0; cases h0
  | succ n ih =>
    intro L a w hfree hns hr hy hT H
    refine ⟨fun h => (by rw [h] at hr; cases hr), fun j hj => ?_⟩
    by_cases hji : j = i
    · subst hji; exact hy.wpOp hi hT ⟨.inr hT, H⟩
    · obtain ⟨hjun, oj, hoj, hall⟩ := mem_ready.1 hj
      have hnot : ∀ e ∈ oj.after, Region.binds md e = true → e.on ≠ i := fun e he hb heq => by
        have h1 := hall e he hb
        have h0 := (mem_ready.1 hr).1
        rw [heq] at h1
        rcases Nat.lt_or_ge i L.size with h' | h'
        · simp [h'] at h0 h1; rw [h0] at h1; cases h1
        · simp [Array.getElem?_eq_none h'] at h1
      have hjst : j ∉ st := fun hm => by
        obtain ⟨_, os, hos, e, he, hb, hon⟩ := hst j hm
        rw [hoj] at hos; injection hos with hos; subst hos
        exact hnot e he hb hon
      have hns2 : ∀ s ∈ st, (L.setIfInBounds j true).getD s false = false := fun s hs => by
        rw [getD_set_ne false (fun h : j = s => hjst (by rw [h]; exact hs))]; exact hns s hs
      have hns3 : ∀ s ∈ st, ((L.setIfInBounds i true).setIfInBounds j true).getD s false = false := fun s hs => by
        rw [getD_set_ne false (fun h : j = s => hjst (by rw [h]; exact hs)), getD_set_ne false (fun h => (hst s hs).1 h.symm)]; exact hns s hs
      refine wpOp_mono (fun a' w' h3 => ?_) (wpOp_putIf hoj (hfree j oj hoj hji hjun hnot) (fun cs b => hsel i oi cs b hi) (fun cs b => hsel j oj cs b hoj) hQ hy (H.2 j (ready_mono hj hji)))
      have hT' : T w' := by
        rcases h3.2.1 with ⟨s, hs, hl⟩ | h
        · rw [hns3 s hs] at hl; cases hl
        · exact h
      refine ⟨.inr hT', ih (L := L.setIfInBounds j true) ?_ hns2 (ready_mono hr (Ne.symm hji)) h3.1 hT' ?_⟩
      · intro k ok hk hki hun hno
        refine hfree k ok hk hki ?_ hno
        by_cases hjk : j = k
        · subst hjk; exact hjun
        · rw [getD_set_ne true hjk] at hun; exact hun
      · rw [Array.setIfInBounds_comm _ _ hji]; exact h3.2.2

theorem TillStore.grow {L : Array Bool} {w : World} {i : Nat} (h : TillStore T st L w) : TillStore T st (L.setIfInBounds i true) w := by
  rcases h with ⟨s, hs, hl⟩ | h
  · exact .inl ⟨s, hs, getD_set_true hl⟩
  · exact .inr h
theorem wpTill.first0 {i : Nat} {oi : Oper} {v : Value} (hi : ops[i]? = some oi) (hsel : ∀ (j : Nat) (o : Oper) cs b, ops[j]? = some o → o.op ≠ .select cs b)
    (hQ : ∀ c a w, Q (.panic c) (a.put oi.dst v) w → Q (.panic c) a w) (hst : i ∉ st) :
    ∀ {n : Nat} {L : Array Bool} {a : Act} {w : World},
      (∀ j oj, ops[j]? = some oj → j ≠ i → L.getD j true = false → (∀ e ∈ oj.after, Region.binds md e = true → e.on ≠ i) → oi.apart ops oj = true) →
      i ∈ Region.ready md ops L → YieldsIf P ops (fun _ => True) oi v a → TillStore T st L w →
      wpTill P md ops Q T st n (L.setIfInBounds i true) (a.put oi.dst v) w → wpTill P md ops Q T st (n + 1) L a w := by
  intro n
  induction n with
  | zero =>
    intro L a w _ hr hy hT H
    refine ⟨fun h => (by rw [h] at hr; cases hr), fun j hj => ?_⟩
    by_cases hji : j = i
    · subst hji; exact hy.wpOp hi trivial ⟨hT.grow, H⟩
    · have h0 := ready_mono hj hji
      rw [H.1] at h0; cases h0
  | succ n ih =>
    intro L a w hfree hr hy hT H
    refine ⟨fun h => (by rw [h] at hr; cases hr), fun j hj => ?_⟩
    by_cases hji : j = i
    · subst hji; exact hy.wpOp hi trivial ⟨hT.grow, H⟩
    · obtain ⟨hjun, oj, hoj, hall⟩ := mem_ready.1 hj
      have hnot : ∀ e ∈ oj.after, Region.binds md e = true → e.on ≠ i := fun e he hb heq => by
        have h1 := hall e he hb
        have h0 := (mem_ready.1 hr).1
        rw [heq] at h1
        rcases Nat.lt_or_ge i L.size with h' | h'
        · simp [h'] at h0 h1; rw [h0] at h1; cases h1
        · simp [Array.getElem?_eq_none h'] at h1
      refine wpOp_mono (fun a' w' h3 => ?_) (wpOp_putIf hoj (hfree j oj hoj hji hjun hnot) (fun cs b => hsel i oi cs b hi) (fun cs b => hsel j oj cs b hoj) hQ hy (H.2 j (ready_mono hj hji)))
      have hT' : TillStore T st (L.setIfInBounds j true) w' := by
        rcases h3.2.1 with ⟨s, hs, hl⟩ | h
        · refine .inl ⟨s, hs, ?_⟩
          rw [Array.setIfInBounds_comm _ _ (fun e : i = j => hji e.symm), getD_set_ne false (fun e : i = s => hst (by rw [e]; exact hs))] at hl
          exact hl
        · exact .inr h
      refine ⟨hT', ih (L := L.setIfInBounds j true) ?_ (ready_mono hr (Ne.symm hji)) h3.1 hT' ?_⟩
      · intro k ok hk hki hun hno
        refine hfree k ok hk hki ?_ hno
        by_cases hjk : j = k
        · subst hjk; exact hjun
        · rw [getD_set_ne true hjk] at hun; exact hun
      · rw [Array.setIfInBounds_comm _ _ hji]; exact h3.2.2

/-- Number i waits for number j. -/
def waits (md : Region.Mode) (ops : Array Oper) (s i : Nat) : Bool := s != i && match ops[s]? with
  | some os => os.after.any fun e => Region.binds md e && e.on == i
  | none => false
theorem waits_spec {s i : Nat} (h : waits md ops s i = true) : s ≠ i ∧ ∃ os, ops[s]? = some os ∧ ∃ e ∈ os.after, Region.binds md e = true ∧ e.on = i := by
  unfold waits at h
  rw [Bool.and_eq_true] at h
  refine ⟨by simpa using h.1, ?_⟩
  have h2 := h.2
  split at h2
  · next os ho =>
    obtain ⟨e, he, hb⟩ := Array.any_eq_true'.1 h2
    simp only [Bool.and_eq_true, beq_iff_eq] at hb
    exact ⟨os, ho, e, he, hb.1, hb.2⟩
  · cases h2
/-- Take number i first. -/
theorem wpTill.take {i : Nat} {oi : Oper} {v : Value} {n : Nat} {L : Array Bool} {a : Act} {w : World} (hi : ops[i]? = some oi)
    (hs : Region.noSelect ops = true) (hf : Region.free md ops L i = true) (hr : (Region.ready md ops L).contains i = true) (hw : (st.all fun s => waits md ops s i && !L.getD s false) = true)
    (hQ : ∀ c a w, Q (.panic c) (a.put oi.dst v) w → Q (.panic c) a w) (hy : YieldsIf P ops T oi v a) (hT : T w)
    (h : wpTill P md ops Q T st n (L.setIfInBounds i true) (a.put oi.dst v) w) : wpTill P md ops Q T st (n + 1) L a w := by
  rw [List.all_eq_true] at hw
  exact wpTill.first hi (Region.noSelect_spec hs) hQ (fun s hs => waits_spec (by have := hw s hs; rw [Bool.and_eq_true] at this; exact this.1)) (Region.free_spec hi hf)
    (fun s hs => by have := hw s hs; rw [Bool.and_eq_true] at this; simpa using this.2) (by simpa using hr) hy hT h
/-- .. its place named. -/
theorem wpTill.take1 (i d : Nat) {oi : Oper} {v : Value} {n : Nat} {L : Array Bool} {a : Act} {w : World} (hi : ops[i]? = some oi) (hd : oi.dst = some d)
    (hs : Region.noSelect ops = true) (hf : Region.free md ops L i = true) (hr : (Region.ready md ops L).contains i = true) (hw : (st.all fun s => waits md ops s i && !L.getD s false) = true)
    (hQ : ∀ c a w, Q (.panic c) (a.put (some d) v) w → Q (.panic c) a w) (hwn : Region.wanted oi (yielded ops a.tmps) = true) (hy : ∀ w, T w → (execOp a.eval oi).run P w = .ok (.value v) w) (hT : T w)
    (h : wpTill P md ops Q T st n (L.setIfInBounds i true) (a.put (some d) v) w) : wpTill P md ops Q T st (n + 1) L a w := by
  rw [← hd] at h hQ
  exact wpTill.take hi hs hf hr hw hQ (.inl ⟨hwn, hy⟩) hT h
/-- .. of one that yields in whatever world. -/
theorem wpTill.take0 (i d : Nat) {oi : Oper} {v : Value} {n : Nat} {L : Array Bool} {a : Act} {w : World} (hi : ops[i]? = some oi) (hd : oi.dst = some d)
    (hs : Region.noSelect ops = true) (hf : Region.free md ops L i = true) (hr : (Region.ready md ops L).contains i = true) (hw : st.contains i = false)
    (hQ : ∀ c a w, Q (.panic c) (a.put (some d) v) w → Q (.panic c) a w) (hwn : Region.wanted oi (yielded ops a.tmps) = true) (hy : ∀ w, (execOp a.eval oi).run P w = .ok (.value v) w) (hT : TillStore T st L w)
    (h : wpTill P md ops Q T st n (L.setIfInBounds i true) (a.put (some d) v) w) : wpTill P md ops Q T st (n + 1) L a w := by
  rw [← hd] at h hQ
  exact wpTill.first0 hi (Region.noSelect_spec hs) hQ (by simpa using hw) (Region.free_spec hi hf) (by simpa using hr) (.inl ⟨hwn, fun w _ => hy w⟩) hT h
theorem wpTill.all {rs : List Nat} {n : Nat} {L : Array Bool} {a : Act} {w : World} (hr : Region.ready md ops L = rs) (hne : rs ≠ [])
    (h : ∀ i ∈ rs, wpOp P ops Q i (fun a' w' => TillStore T st (L.setIfInBounds i true) w' ∧ wpTill P md ops Q T st n (L.setIfInBounds i true) a' w') a w) : wpTill P md ops Q T st (n + 1) L a w :=
  ⟨fun h0 => absurd (hr ▸ h0) hne, hr ▸ h⟩
theorem wpTill.step (i : Nat) {o : Oper} {n : Nat} {L : Array Bool} {a : Act} {w : World} (ho : ops[i]? = some o) (hwn : Region.wanted o (yielded ops a.tmps) = true)
    (h : ∀ K : Act → World → Prop, (∀ a w, TillStore T st (L.setIfInBounds i true) w → wpTill P md ops Q T st n (L.setIfInBounds i true) a w → K a w) → o.wp P a w K Q) :
    wpOp P ops Q i (fun a' w' => TillStore T st (L.setIfInBounds i true) w' ∧ wpTill P md ops Q T st n (L.setIfInBounds i true) a' w') a w :=
  wpOp_step ho fun K hK => by rw [if_pos hwn]; exact h K fun a w h1 h2 => hK a w ⟨h1, h2⟩
theorem wpTill.one (i : Nat) {o : Oper} {n : Nat} {L : Array Bool} {a : Act} {w : World} (hr : Region.ready md ops L = [i]) (ho : ops[i]? = some o) (hwn : Region.wanted o (yielded ops a.tmps) = true)
    (h : ∀ K : Act → World → Prop, (∀ a w, TillStore T st (L.setIfInBounds i true) w → wpTill P md ops Q T st n (L.setIfInBounds i true) a w → K a w) → o.wp P a w K Q) :
    wpTill P md ops Q T st (n + 1) L a w :=
  wpTill.all hr (by simp) fun j hj => by
    have : j = i := by simpa using hj
    subst this
    exact wpTill.step j ho hwn h
theorem wpTill.two (i j : Nat) {oi oj : Oper} {n : Nat} {L : Array Bool} {a : Act} {w : World} (hr : Region.ready md ops L = [i, j]) (hoi : ops[i]? = some oi) (hoj : ops[j]? = some oj)
    (hwi : Region.wanted oi (yielded ops a.tmps) = true) (hwj : Region.wanted oj (yielded ops a.tmps) = true)
    (h1 : ∀ K : Act → World → Prop, (∀ a w, TillStore T st (L.setIfInBounds i true) w → wpTill P md ops Q T st n (L.setIfInBounds i true) a w → K a w) → oi.wp P a w K Q)
    (h2 : ∀ K : Act → World → Prop, (∀ a w, TillStore T st (L.setIfInBounds j true) w → wpTill P md ops Q T st n (L.setIfInBounds j true) a w → K a w) → oj.wp P a w K Q) :
    wpTill P md ops Q T st (n + 1) L a w :=
  wpTill.all hr (by simp) fun k hk => by
    have : k = i ∨ k = j := by simpa using hk
    rcases this with rfl | rfl
    · exact wpTill.step k hoi hwi h1
    · exact wpTill.step k hoj hwj h2
theorem wpTill.done {L : Array Bool} {a : Act} {w : World} (hr : Region.ready md ops L = []) (h : Q .normal a w) : ∀ n, wpTill P md ops Q T st n L a w
  | 0 => ⟨hr, h⟩
  | _ + 1 => ⟨fun _ => h, by rw [hr]; simp⟩
theorem wpTill.begin {id : Nat} {a : Act} {w : World} (hm : P.follows .mixedOrders = true)
    (h : wpTill P .any ops Q T st ops.size (Array.replicate ops.size false) a w.drew) : (Code.region id ops true).wp P Q a w :=
  wp_region_any hm (wpTill.any h)
/-- A store has come up: no more is to be held. -/
theorem wpTill.stored {n : Nat} : ∀ {L : Array Bool} {a : Act} {w : World}, (∃ s ∈ st, L.getD s false = true) → wpAny P md ops Q n L a w → wpTill P md ops Q T st n L a w := by
  induction n with
  | zero => intro L a w _ h; exact h
  | succ n ih =>
    intro L a w ⟨s, hs, hl⟩ h
    refine ⟨h.1, fun i hi => wpOp_mono (fun a' w' h' => ?_) (h.2 i hi)⟩
    have : ∃ s ∈ st, (L.setIfInBounds i true).getD s false = true := by
      refine ⟨s, hs, ?_⟩
      by_cases e : i = s
      · subst e
        have hlt : i < L.size := by
          rcases Nat.lt_or_ge i L.size with h | h
          · exact h
          · simp [Array.getElem?_eq_none h] at hl
        simp [hlt]
      · rw [getD_set_ne false e]; exact hl
    exact ⟨.inl this, ih this h'⟩
end
end Go.Proofs.YtpjbibcjefkcaaaGreat
