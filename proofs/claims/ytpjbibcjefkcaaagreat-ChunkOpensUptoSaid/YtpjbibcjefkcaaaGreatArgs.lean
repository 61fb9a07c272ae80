/- What arguments read as, told by kinds of data; the bulk of what is read bounds it. No condition. -/
import Derived.Test.YtpjbibcjefkcaaaGreatBase
import Derived.Test.YtpjbibcjefkcaaaGreatRows
import Derived.ProofKit
import Derived.OpenShut
import Derived.JoinedCond
import Derived.Deep.CondSized
import Derived.Deep.Slices
import Derived.ChangeSame
namespace Go.Proofs.YtpjbibcjefkcaaaGreat
open Go.ChangeShapes Go.WideShapes Go.RowKit
set_option linter.unusedVariables false
set_option linter.unusedSectionVars false
set_option linter.unusedSimpArgs false

section
variable {H : Type}
theorem bulk_one (d : DataW H) : 1 ≤ Rows.uptoBulk d := by
  cases d with
  | lit l => cases l <;> simp [Rows.uptoBulk]
  | nil => simp [Rows.uptoBulk]
  | ptr d => simp [Rows.uptoBulk]
  | slice elems spare => simp [Rows.uptoBulk]
  | agg parts => simp [Rows.uptoBulk]
  | iface t d => simp [Rows.uptoBulk]
  | map entries => simp [Rows.uptoBulk]
  | held h => simp [Rows.uptoBulk]
theorem bulk_sum (l : List (DataW H)) : Rows.uptoBulkAll l = (l.map Rows.uptoBulk).sum := by
  induction l with
  | nil => rfl
  | cons d l ih => simp [Rows.uptoBulkAll, ih]
theorem sum_mem {l : List Nat} {n : Nat} (h : n ∈ l) : n ≤ l.sum := by
  induction l with
  | nil => cases h
  | cons m l ih =>
    rw [List.sum_cons]
    rcases List.mem_cons.1 h with rfl | h
    · omega
    · have := ih h; omega
theorem bulk_mem {d : DataW H} {l : List (DataW H)} (h : d ∈ l) : Rows.uptoBulk d ≤ Rows.uptoBulkAll l := by
  rw [bulk_sum]; exact sum_mem (List.mem_map_of_mem h)
end

/-- What reads as a datum of type t, of bulk at most 1048576, is of kind d; S tells no more than its bulk. -/
def Opn {α : Type} (P : Program) (d : Kd α) (t : TypeId) (S : α → Nat) : Prop :=
  ∀ {H : Type} (enc : TypeId × Value → H) (w : World) (fuel : Nat) (cs : List Value) (x : DataW H × List MemPlace), DataW.trod enc P w 0 (fun _ => true) true fuel t cs = some x → Rows.uptoBulk x.1 ≤ 1048576 →
    ∃ y, d.K w w.heap.size y cs ∧ S y ≤ Rows.uptoBulk x.1

theorem opn_bool {P : Program} {t : TypeId} (ht : P.underlying t = some .bool) : Opn P kBool t (fun _ => 1) := by
  intro H enc w fuel cs x h _
  obtain ⟨b, rfl, rfl⟩ := DataW.trod_bool ht h
  exact ⟨b, rfl, bulk_one _⟩
theorem opn_int {P : Program} {t : TypeId} {k : IntKind} (ht : P.underlying t = some (.int k)) : Opn P (kInt k) t (fun _ => 1) := by
  intro H enc w fuel cs x h _
  obtain ⟨n, rfl, rfl, hw⟩ := DataW.trod_int ht h
  exact ⟨n, ⟨rfl, hw⟩, bulk_one _⟩
theorem opn_byte {P : Program} {t : TypeId} (ht : P.underlying t = some (.int .u8)) : Opn P kByte t (fun _ => 1) := by
  intro H enc w fuel cs x h _
  obtain ⟨n, rfl, rfl, hw⟩ := DataW.trod_int ht h
  have hx : 0 ≤ n ∧ n ≤ 255 := by simpa [Lit.wf, IntKind.min, IntKind.max, IntKind.signed, IntKind.bits] using hw
  exact ⟨UInt8.ofNat n.toNat, by simp [kByte]; omega, bulk_one _⟩
theorem opn_str {P : Program} {t : TypeId} (ht : P.underlying t = some .string) : Opn P kStr t (fun s => s.length + 1) := by
  intro H enc w fuel cs x h hb
  obtain ⟨s, rfl, rfl, _⟩ := DataW.trod_string ht h
  have hl : s.data.toList.length + 1 ≤ 1048576 := by simpa [Rows.uptoBulk] using hb
  exact ⟨s.data.toList, ⟨by rw [← str_eq], by omega⟩, by simp [Rows.uptoBulk]⟩

/-- A row's cells, told by each element's. -/
theorem reps_index {α : Type} {K : α → List Value → Prop} (n : Nat) (Y : Nat → α) (C : Nat → List Value) (h : ∀ i, i < n → K (Y i) (C i)) : Reps K ((List.range n).map Y) ((List.range n).flatMap C) := by
  induction n with
  | zero => rfl
  | succ n ih =>
    rw [List.range_succ, List.map_append, List.flatMap_append]
    exact (ih fun i hi => h i (by omega)).append (by simpa using Reps.one (h n (by omega)))
theorem flat_at {C : Nat → List Value} {sz : Nat} (n : Nat) (hC : ∀ i, i < n → (C i).length = sz) {j : Nat} {u : Value} (h : ((List.range n).flatMap C)[j]? = some u) : ∃ i k, i < n ∧ k < sz ∧ j = i * sz + k ∧ (C i)[k]? = some u := by
  induction n with
  | zero => simp at h
  | succ n ih =>
    have hl : ((List.range n).flatMap C).length = n * sz := by
      have : ∀ m, m ≤ n → ((List.range m).flatMap C).length = m * sz := by
        intro m hm
        induction m with
        | zero => simp
        | succ m ih2 => rw [List.range_succ, List.flatMap_append, List.length_append, ih2 (by omega)]; simp [hC m (by omega), Nat.add_mul]
      exact this n (Nat.le_refl _)
    rw [List.range_succ, List.flatMap_append] at h
    by_cases hj : j < n * sz
    · rw [List.getElem?_append_left (by omega)] at h
      obtain ⟨i, k, h1, h2, h3, h4⟩ := ih (fun i hi => hC i (by omega)) h
      exact ⟨i, k, by omega, h2, h3, h4⟩
    · rw [List.getElem?_append_right (by omega), hl] at h
      simp only [List.flatMap_cons, List.flatMap_nil, List.append_nil] at h
      have hk := (List.getElem?_eq_some_iff.1 h).1
      rw [hC n (by omega)] at hk
      exact ⟨n, j - n * sz, by omega, hk, by omega, h⟩

def SL {α : Type} (S : α → Nat) (l : List α) : Nat := (l.map S).sum + 1
theorem SL_len {α : Type} {S : α → Nat} (h1 : ∀ y, 1 ≤ S y) (l : List α) : l.length + 1 ≤ SL S l := by
  unfold SL
  induction l with
  | nil => simp
  | cons x l ih => have := h1 x; simp; simp at ih; omega
theorem SL_mem {α : Type} {S : α → Nat} {l : List α} {x : α} (h : x ∈ l) : S x + 1 ≤ SL S l := by
  unfold SL
  have := sum_mem (List.mem_map_of_mem (f := S) h)
  omega

theorem opn_sl {α : Type} {P : Program} {d : Kd α} {t e : TypeId} {S : α → Nat} (ht : P.underlying t = some (.slice e)) (hc : P.cellsOf e = d.sz) (hz : 0 < d.sz) (hd : Opn P d e S) : Opn P (kSl e d) t (SL S) := by
  intro H enc w fuel cs x h hb
  rcases Go.Deep.open_slice ht h with ⟨rfl, rfl⟩ | ⟨a, len, cap, m, n, D, Pl, rfl, _, hl, hm, hmm, rfl, hx⟩
  · exact ⟨[], ⟨_, rfl, Rd.nil _ _ _ _⟩, by simp [SL, Rows.uptoBulk]⟩
  simp only [if_true] at hmm
  subst hmm
  have hbA : Rows.uptoBulkAll ((List.range len).map D) + 1 ≤ Rows.uptoBulk (.slice ((List.range len).map D) ((List.range (m - len)).map fun j => D (len + j))) := by simp only [Rows.uptoBulk]; omega
  have hel : ∀ i, i < len → ∃ y : α × List Value, w.cells? 0 (a.add (i * P.cellsOf e)) (P.cellsOf e) = some y.2 ∧ d.K w w.heap.size y.1 y.2 ∧ S y.1 ≤ Rows.uptoBulk (D i) := by
    intro i hi
    obtain ⟨cs', h1, h2⟩ := hx i (by omega)
    have hbi : Rows.uptoBulk (D i) ≤ 1048576 := by
      have := bulk_mem (l := (List.range len).map D) (List.mem_map_of_mem (f := D) (List.mem_range.2 hi))
      simp only at hb
      omega
    obtain ⟨y, hy, hS⟩ := hd enc w n cs' (D i, Pl i) h2 hbi
    exact ⟨(y, cs'), h1, hy, hS⟩
  by_cases h0 : len = 0
  · subst h0
    refine ⟨[], ⟨_, rfl, some a, m, [], rfl, by simp, by simp, rfl, by simp, fun h => absurd rfl h⟩, ?_⟩
    simp only [SL, Rows.uptoBulk, List.map_nil, List.sum_nil]; omega
  obtain ⟨y0, hy0, _⟩ := hel 0 (by omega)
  haveI : Inhabited (α × List Value) := ⟨y0⟩
  obtain ⟨F, hF⟩ := Go.Deep.choose_lt hel
  rw [hc] at hF
  have hC : ∀ i, i < len → (F i).2.length = d.sz := fun i hi => d.len (hF i hi).2.1
  have hcell : ∀ i k, i < len → k < d.sz → w.cell? (a.add (i * d.sz + k)) = (F i).2[k]? := by
    intro i k hi hk
    have := (World.cells?_some (hF i hi).1).2.2 k hk
    rw [Go.Deep.add_add] at this
    exact this
  have hsome : ∀ i k, i < len → k < d.sz → ∃ u, w.cell? (a.add (i * d.sz + k)) = some u := by
    intro i k hi hk
    rw [hcell i k hi hk]
    exact ⟨_, List.getElem?_eq_getElem (by rw [hC i hi]; exact hk)⟩
  have hspot : a.spot = none := by
    obtain ⟨u, hu⟩ := hsome 0 0 (by omega) hz
    simp only [Nat.zero_mul, Nat.add_zero] at hu
    cases hsp : a.spot with
    | none => rfl
    | some s =>
      simp only [Addr.add, World.cell?] at hu
      split at hu
      · simp [hsp] at hu
      · cases hu
  obtain ⟨b, off, sp⟩ := a
  simp only at hspot
  subst hspot
  have hadd : ∀ j, (⟨b, off, none⟩ : Addr).add j = ⟨b, off + j, none⟩ := by
    intro j; unfold Addr.add; split
    · next h => subst h; rfl
    · rfl
  refine ⟨(List.range len).map fun i => (F i).1, ⟨_, rfl, some ⟨b, off, none⟩, m, (List.range len).flatMap fun i => (F i).2, by simp, by simpa using hl, by simp; simp only [maxLen] at hm; omega, reps_index len _ _ fun i hi => (hF i hi).2.1, by simp, fun _ => ⟨b, off, rfl, fun j u hu => ?_, .inl ?_⟩⟩, ?_⟩
  · obtain ⟨i, k, hi, hk, rfl, hu2⟩ := flat_at len hC hu
    rw [← hadd, hcell i k hi hk]; exact hu2
  · obtain ⟨u, hu⟩ := hsome 0 0 (by omega) hz
    rw [hadd] at hu
    exact World.block_lt_of_cell? w ⟨b, _, none⟩ hu
  · refine Nat.le_trans ?_ hbA
    unfold SL
    rw [bulk_sum, List.map_map, List.map_map]
    refine Nat.succ_le_succ ?_
    have : ∀ k, k ≤ len → ((List.range k).map (S ∘ fun i => (F i).1)).sum ≤ ((List.range k).map (Rows.uptoBulk ∘ D)).sum := by
      intro k hk
      induction k with
      | zero => simp
      | succ k ih =>
        rw [List.range_succ, List.map_append, List.map_append, List.sum_append, List.sum_append]
        have h1 := ih (by omega)
        have h2 := (hF k (by omega)).2.2
        simp only [List.map_cons, List.map_nil, List.sum_cons, List.sum_nil, Function.comp_apply] at *
        omega
    exact this len (Nat.le_refl _)

/-- Fields from the i-th on, at off. -/
def OpnF {α : Type} (P : Program) (d : Kd α) (fs : Array Field) (i off : Nat) (S : α → Nat) : Prop :=
  ∀ {H : Type} (enc : TypeId × Value → H) (w : World) (n : Nat) (cs : List Value) (xs : List (DataW H × List MemPlace)), cs.length = off + d.sz → xs.length = fs.size →
    (∀ (j : Nat) (f : Field), fs[j]? = some f → DataW.trod enc P w 0 (fun _ => true) true n f.type ((cs.drop f.offset).take (P.cellsOf f.type)) = xs[j]?) →
    Rows.uptoBulkAll ((xs.drop i).map (·.1)) ≤ 1048576 →
    ∃ y, d.K w w.heap.size y (cs.drop off) ∧ S y ≤ Rows.uptoBulkAll ((xs.drop i).map (·.1))

theorem opnf_one {α : Type} {P : Program} {d : Kd α} {fs : Array Field} {i off : Nat} {S : α → Nat} {t : TypeId} (hf : fs[i]?.map (fun f => (f.type, f.offset)) = some (t, off)) (hc : P.cellsOf t = d.sz) (hi : i + 1 = fs.size) (hd : Opn P d t S) : OpnF P d fs i off S := by
  intro H enc w n cs xs hl hx hr hb
  obtain ⟨f, hf, he⟩ := Option.map_eq_some_iff.1 hf
  simp only [Prod.mk.injEq] at he
  have := hr i f hf
  rw [he.1, he.2, hc, List.take_of_length_le (by simp; omega), List.getElem?_eq_getElem (by omega)] at this
  have hxd : xs.drop i = [xs[i]'(by omega)] := by
    rw [← List.getElem_cons_drop (by omega), List.drop_of_length_le (by omega)]
  rw [hxd] at hb ⊢
  simp only [List.map_cons, List.map_nil, Rows.uptoBulkAll, Nat.add_zero] at hb ⊢
  exact hd enc w n _ _ this hb
theorem opnf_cons {α β : Type} {P : Program} {d : Kd α} {e : Kd β} {fs : Array Field} {i off off' : Nat} {S : α → Nat} {T : β → Nat} {t : TypeId} (hf : fs[i]?.map (fun f => (f.type, f.offset)) = some (t, off)) (hc : P.cellsOf t = d.sz) (ho : off + d.sz = off') (hd : Opn P d t S) (he : OpnF P e fs (i + 1) off' T) :
    OpnF P (d.prod e) fs i off (fun y => S y.1 + T y.2) := by
  intro H enc w n cs xs hl hx hr hb
  obtain ⟨f, hf, he'⟩ := Option.map_eq_some_iff.1 hf
  simp only [Prod.mk.injEq] at he'
  have hi : i < fs.size := (Array.getElem?_eq_some_iff.1 hf).1
  have h1 := hr i f hf
  rw [he'.1, he'.2, hc, List.getElem?_eq_getElem (by omega)] at h1
  have hxd : xs.drop i = xs[i]'(by omega) :: xs.drop (i + 1) := (List.getElem_cons_drop (by omega)).symm
  rw [hxd] at hb ⊢
  simp only [List.map_cons, Rows.uptoBulkAll] at hb ⊢
  obtain ⟨y, hy, hS⟩ := hd enc w n _ _ h1 (by omega)
  obtain ⟨z, hz, hT⟩ := he enc w n cs xs (by rw [hl, ← ho]; simp [Kd.prod]; omega) hx hr (by omega)
  refine ⟨(y, z), ⟨_, _, ?_, hy, hz⟩, by simp only; omega⟩
  rw [← ho, ← List.drop_drop, List.take_append_drop]

theorem opn_struct {α : Type} {P : Program} {d : Kd α} {t : TypeId} {fs : Array Field} {S : α → Nat} (ht : P.underlying t = some (.struct fs)) (hc : P.cellsOf t = d.sz) (hd : OpnF P d fs 0 0 S) : Opn P d t S := by
  intro H enc w fuel cs x h hb
  obtain ⟨xs, n, rfl, rfl, hl, hx, hr⟩ := DataW.trod_struct ht h
  simp only [Rows.uptoBulk] at hb ⊢
  obtain ⟨y, hy, hS⟩ := hd enc w n cs xs (by rw [hl, hc]; omega) hx hr (by simp; omega)
  exact ⟨y, by simpa using hy, by simp at hS; omega⟩

section
variable {P : Program} {H : Type} {enc : TypeId × Value → H} {W : World} {base : Nat}
/-- An argument that is a slice. -/
theorem arg_slice {α : Type} {d : Kd α} {t e : TypeId} {S : List α → Nat} {v : Value} {x : DataW H} {ps : List MemPlace} (ht : P.underlying t = some (.slice e)) (ho : Opn P (kSl e d) t S) (hv : Value.okWide P W .any base t v) (hd : DataW.Trod enc P W 0 (fun _ => true) true t v x ps) (hb : Rows.uptoBulk x ≤ 1048576) :
    ∃ xs, Rd d e W W.heap.size v xs ∧ S xs ≤ Rows.uptoBulk x := by
  obtain ⟨a, len, cap, rfl⟩ := okWide_slice ht hv
  obtain ⟨fuel, hf⟩ := hd
  obtain ⟨y, ⟨u, hu, hr⟩, hS⟩ := ho enc W fuel _ _ hf hb
  simp [Value.cells] at hu
  subst hu
  exact ⟨y, hr, hS⟩
theorem arg_str {t : TypeId} {v : Value} {x : DataW H} {ps : List MemPlace} (ht : P.underlying t = some .string) (hv : Value.okWide P W .any base t v) (hd : DataW.Trod enc P W 0 (fun _ => true) true t v x ps) (hb : Rows.uptoBulk x ≤ 1048576) :
    ∃ s : List UInt8, v = .string ⟨s.toArray⟩ ∧ s.length + 1 ≤ Rows.uptoBulk x := by
  obtain ⟨s, rfl⟩ := okWide_string ht hv
  obtain ⟨fuel, hf⟩ := hd
  obtain ⟨y, ⟨hu, _⟩, hS⟩ := opn_str ht enc W fuel _ _ hf hb
  simp [Value.cells] at hu
  exact ⟨y, by rw [hu], hS⟩
theorem arg_int {t : TypeId} {k : IntKind} {v : Value} {x : DataW H} {ps : List MemPlace} (ht : P.underlying t = some (.int k)) (hv : Value.okWide P W .any base t v) (hd : DataW.Trod enc P W 0 (fun _ => true) true t v x ps) (hb : Rows.uptoBulk x ≤ 1048576) :
    ∃ n : Int, v = .int k n ∧ (Lit.int k n).wf = true := by
  obtain ⟨s, rfl⟩ := okWide_int ht hv
  obtain ⟨fuel, hf⟩ := hd
  obtain ⟨y, ⟨hu, hw⟩, hS⟩ := opn_int ht enc W fuel _ _ hf hb
  simp [Value.cells] at hu
  subst hu
  exact ⟨_, rfl, hw⟩
theorem arg_bool {t : TypeId} {v : Value} {x : DataW H} {ps : List MemPlace} (ht : P.underlying t = some .bool) (hv : Value.okWide P W .any base t v) :
    ∃ n : Bool, v = .bool n := okWide_bool ht hv
/-- An argument that is a struct. -/
theorem arg_struct {α : Type} {d : Kd α} {t : TypeId} {fs : Array Field} {S : α → Nat} {v : Value} {x : DataW H} {ps : List MemPlace} (ht : P.underlying t = some (.struct fs)) (ho : Opn P d t S) (hv : Value.okWide P W .any base t v) (hd : DataW.Trod enc P W 0 (fun _ => true) true t v x ps) (hb : Rows.uptoBulk x ≤ 1048576) :
    ∃ y cs, v = .agg cs ∧ d.K W W.heap.size y cs.toList ∧ S y ≤ Rows.uptoBulk x := by
  obtain ⟨cs, rfl, _⟩ := okWide_struct ht hv
  obtain ⟨fuel, hf⟩ := hd
  obtain ⟨y, hu, hS⟩ := ho enc W fuel _ _ hf hb
  exact ⟨y, cs, rfl, by simpa [Value.cells] using hu, hS⟩

theorem trodAll_stays {W' : World} (hl : laidOutB P = true) : ∀ {ts : List TypeId} {vs : List Value} {ds : List (DataW H)} {ps : List MemPlace}, (∀ t ∈ ts, P.readableRec t = true ∧ t < P.types.size) → DataW.TrodAll enc P W 0 (fun _ => true) true ts vs ds ps →
    Below W.heap.size W W' → (∀ p ∈ ps, p.block < W.heap.size) → ∀ sp : Nat → Bool, (∀ p ∈ ps, sp p.block = true) → DataW.TrodAll enc P W' 0 sp true ts vs ds ps
  | [], [], [], _, _, h, _, _, _, _ => h
  | _ :: _, _ :: _, _ :: _, _, ht, ⟨p, q, h1, h2, e⟩, hb, hlt, sp, hsp => by
    subst e
    obtain ⟨k1, k2⟩ := ht _ (List.mem_cons_self ..)
    exact ⟨p, q, WideElems.Trod_stays hl k1 k2 h1 (fun x hx => hb.same (hlt x (List.mem_append_left _ hx))) (fun x hx => hsp x (List.mem_append_left _ hx)),
      trodAll_stays hl (fun t h => ht t (List.mem_cons_of_mem _ h)) h2 hb (fun x hx => hlt x (List.mem_append_right _ hx)) sp (fun x hx => hsp x (List.mem_append_right _ hx)), rfl⟩

/-- A law's row: it returns true, and what was there stays. -/
theorem law_post {W' : World} {s : ChangeSpec} {f : Func} {args : Array Value} {ds gs : List (DataW H)} {before : List MemPlace} (hl : laidOutB P = true) (ht : ∀ t ∈ f.params.toList, P.readableRec t = true ∧ t < P.types.size) (h4 : P.underlying 4 = some .bool)
    (hr : f.resultTypes = #[4]) (hv : s.vars = []) (hfn : s.fn H ds = { results := [.lit (.bool true)], args := ds }) (hW : DataW.Whole enc P f.params.toList s.vars false W args.toList ds gs before) (hb : Below W.heap.size W W') :
    s.post enc P f false true false false W args (.bool true) W' := by
  have hlt : ∀ p ∈ before, p.block < W.heap.size := fun p hp => hW.lt p hp
  obtain ⟨pa, pv, hA, hV, rfl, hfz, hnd⟩ := id hW
  rw [hv] at hV
  obtain ⟨rfl, rfl⟩ := trodVars_none hV
  have hds : ds ++ [] = ds := List.append_nil ds
  refine ⟨ds, [], pa ++ [], [], pa, [], hW, ?_, ?_, ?_, World.keptBut_mono (fun p hp => ⟨hp, by right; simpa using hp⟩) (hb.frame (· ∈ pa ++ [])), fun h => by cases h⟩
  · rw [hds, hfn, hr]
    exact trodAll_cons_mk (shut_bool h4 _) trodAll_mk0
  · rw [hds, hfn]
    exact trodAll_stays hl ht hA hb (fun p hp => hlt p (by simpa using hp)) _ (fun p hp => by simpa using hlt p (by simpa using hp))
  · rw [hv, hds, hfn]; rfl
end
end Go.Proofs.YtpjbibcjefkcaaaGreat
