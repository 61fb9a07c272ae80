/- What values stand for in memory: kinds of data, slices that are read, rows that a call owns; what each step leaves as it was. No condition. -/
import Derived.Maps.AppendAt
import Derived.Below
import Derived.WalkKit
import Derived.Lib.Hide
import Derived.Deep.LoopGhost
import Derived.OwnWalk
import Derived.Laws.MakeOwn
import Derived.Laws.OwnMore
import Derived.Outline
import Derived.Deep.AppendLies
import Derived.Laws.AppendOwnNone
import Derived.Lib.AppendStr
import Derived.Laws.Slices
import Derived.Lib.ConvBytes
import Derived.Laws.BytesArg
set_option linter.unusedVariables false
set_option linter.unusedSimpArgs false
namespace Go.Proofs.YtpjbibcjefkcaaaGreat
open Go.RowKit

/-! ### worlds -/
/-- What lies below B, and rows of the types E, stay. -/
structure Keep (B : Nat) (E : List TypeId) (w w' : World) : Prop where
  size : w.heap.size ≤ w'.heap.size
  low : ∀ g : Nat, g < B → g < w.heap.size → w'.heap[g]? = w.heap[g]?
  typed : ∀ (g : Nat) c t fr, t ∈ E → w.heap[g]? = some (Obj.cells c t fr) → w'.heap[g]? = some (Obj.cells c t fr)

/-- All stays but rows of type e from block b on. -/
structure Wr (b : Nat) (e : TypeId) (w w' : World) : Prop where
  os : w'.os = w.os
  tape : w'.tape = w.tape
  output : w'.output = w.output
  size : w.heap.size ≤ w'.heap.size
  low : ∀ g : Nat, g < b → g < w.heap.size → w'.heap[g]? = w.heap[g]?
  typed : ∀ (g : Nat) c t fr, t ≠ e → w.heap[g]? = some (Obj.cells c t fr) → w'.heap[g]? = some (Obj.cells c t fr)
  other : ∀ (g : Nat) (o : Obj), (∀ c t fr, o ≠ .cells c t fr) → w.heap[g]? = some o → w'.heap[g]? = some o

theorem lt_of_some {w : World} {g : Nat} {o : Obj} (h : w.heap[g]? = some o) : g < w.heap.size := (Array.getElem?_eq_some_iff.1 h).1

theorem Keep.refl (B E w) : Keep B E w w := ⟨Nat.le_refl _, fun _ _ _ => rfl, fun _ _ _ _ _ h => h⟩
theorem Keep.trans {B E a b c} (h : Keep B E a b) (k : Keep B E b c) : Keep B E a c :=
  ⟨Nat.le_trans h.size k.size, fun g hg hs => (k.low g hg (Nat.lt_of_lt_of_le hs h.size)).trans (h.low g hg hs), fun g c t fr ht hc => k.typed g c t fr ht (h.typed g c t fr ht hc)⟩
theorem Keep.sub {B E B' E' w w'} (h : Keep B E w w') (hB : B' ≤ B) (hE : ∀ t, t ∈ E' → t ∈ E) : Keep B' E' w w' :=
  ⟨h.size, fun g hg hs => h.low g (Nat.lt_of_lt_of_le hg hB) hs, fun g c t fr ht hc => h.typed g c t fr (hE t ht) hc⟩
theorem keep_below {B E w w'} (h : Below w.heap.size w w') : Keep B E w w' :=
  ⟨h.size, fun g _ hs => h.block g hs, fun g c t fr _ hc => (h.block g (lt_of_some hc)).trans hc⟩
theorem Wr.keep {b e B E w w'} (h : Wr b e w w') (hB : B ≤ b) (he : e ∉ E) : Keep B E w w' :=
  ⟨h.size, fun g hg hs => h.low g (Nat.lt_of_lt_of_le hg hB) hs, fun g c t fr ht hc => h.typed g c t fr (fun k => he (k ▸ ht)) hc⟩
theorem Wr.refl (b e w) : Wr b e w w := ⟨rfl, rfl, rfl, Nat.le_refl _, fun _ _ _ => rfl, fun _ _ _ _ _ h => h, fun _ _ _ h => h⟩
theorem Wr.trans {b e w w1 w2} (h : Wr b e w w1) (k : Wr b e w1 w2) : Wr b e w w2 :=
  ⟨k.os.trans h.os, k.tape.trans h.tape, k.output.trans h.output, Nat.le_trans h.size k.size, fun g hg hs => (k.low g hg (Nat.lt_of_lt_of_le hs h.size)).trans (h.low g hg hs),
    fun g c t fr ht hc => k.typed g c t fr ht (h.typed g c t fr ht hc), fun g o ho hc => k.other g o ho (h.other g o ho hc)⟩
theorem Wr.of_below {b e w w'} (h : Below w.heap.size w w') : Wr b e w w' :=
  ⟨h.os, h.tape, h.output, h.size, fun g _ hs => h.block g hs, fun g _ _ _ _ hc => (h.block g (lt_of_some hc)).trans hc, fun g _ _ hc => (h.block g (lt_of_some hc)).trans hc⟩
theorem Wr.below {b e B w0 w w'} (k : Below B w0 w) (h : Wr b e w w') (hB : B ≤ b) (hs : B ≤ w.heap.size) : Below B w0 w' :=
  k.trans ⟨h.os, h.tape, h.output, h.size, fun g hg => h.low g (Nat.lt_of_lt_of_le hg hB) (Nat.lt_of_lt_of_le hg hs)⟩
theorem Wr.mono {b b' e w w'} (h : Wr b e w w') (hb : b' ≤ b) : Wr b' e w w' :=
  ⟨h.os, h.tape, h.output, h.size, fun g hg hs => h.low g (Nat.lt_of_lt_of_le hg hb) hs, h.typed, h.other⟩
theorem below_step {B w0 w w'} (h : Below B w0 w) (hB : B ≤ w.heap.size) (k : Below w.heap.size w w') : Below B w0 w' :=
  h.trans (k.mono hB)
theorem below_alloc {w : World} (o : Obj) : Below w.heap.size w (w.alloc o) := (Below.refl _ _).alloc (Nat.le_refl _) o

/-! ### rows of elements -/
def Reps {α : Type} (K : α → List Value → Prop) : List α → List Value → Prop
  | [], cs => cs = []
  | x :: xs, cs => ∃ c d, cs = c ++ d ∧ K x c ∧ Reps K xs d

theorem Reps.append {α : Type} {K : α → List Value → Prop} {xs ys : List α} {cs ds : List Value} (h : Reps K xs cs) (k : Reps K ys ds) : Reps K (xs ++ ys) (cs ++ ds) := by
  induction xs generalizing cs with
  | nil => obtain rfl := h; exact k
  | cons x xs ih => obtain ⟨c, d, rfl, h1, h2⟩ := h; exact ⟨c, d ++ ds, by simp, h1, ih h2⟩
theorem Reps.one {α : Type} {K : α → List Value → Prop} {x : α} {c : List Value} (h : K x c) : Reps K [x] c := ⟨c, [], by simp, h, rfl⟩
theorem Reps.imp {α : Type} {K K' : α → List Value → Prop} {xs : List α} {cs : List Value} (h : Reps K xs cs) (hk : ∀ x c, x ∈ xs → K x c → K' x c) : Reps K' xs cs := by
  induction xs generalizing cs with
  | nil => exact h
  | cons x xs ih => obtain ⟨c, d, rfl, h1, h2⟩ := h; exact ⟨c, d, rfl, hk _ _ (List.mem_cons_self ..) h1, ih h2 fun y c hy => hk y c (List.mem_cons_of_mem _ hy)⟩
theorem Reps.len {α : Type} {K : α → List Value → Prop} {n : Nat} (hn : ∀ x c, K x c → c.length = n) {xs : List α} {cs : List Value} (h : Reps K xs cs) : cs.length = xs.length * n := by
  induction xs generalizing cs with
  | nil => obtain rfl := h; simp
  | cons x xs ih => obtain ⟨c, d, rfl, h1, h2⟩ := h; simp [ih h2, hn _ _ h1, Nat.add_mul]; omega
theorem Reps.split {α : Type} {K : α → List Value → Prop} {xs ys : List α} {cs : List Value} (h : Reps K (xs ++ ys) cs) : ∃ c d, cs = c ++ d ∧ Reps K xs c ∧ Reps K ys d := by
  induction xs generalizing cs with
  | nil => exact ⟨[], cs, rfl, rfl, h⟩
  | cons x xs ih => obtain ⟨c, d, rfl, h1, h2⟩ := h; obtain ⟨a, b, rfl, h3, h4⟩ := ih h2; exact ⟨c ++ a, b, by simp, ⟨c, a, rfl, h1, h3⟩, h4⟩
theorem Reps.at {α : Type} {K : α → List Value → Prop} {n : Nat} (hn : ∀ x c, K x c → c.length = n) {xs : List α} {cs : List Value} (h : Reps K xs cs) {i : Nat} (hi : i < xs.length) :
    ∃ c, K xs[i] c ∧ ∀ j u, c[j]? = some u → cs[i * n + j]? = some u := by
  have e : xs = xs.take i ++ (xs[i] :: xs.drop (i + 1)) := by rw [List.getElem_cons_drop, List.take_append_drop]
  have h' := h
  rw [e] at h'
  obtain ⟨c, d, rfl, h1, h2⟩ := h'.split
  obtain ⟨c', d', rfl, h3, _⟩ := h2
  have hl := h1.len hn
  have hc' := hn _ _ h3
  rw [List.length_take, Nat.min_eq_left (by omega)] at hl
  refine ⟨c', h3, fun j u hu => ?_⟩
  have hj : j < c'.length := (List.getElem?_eq_some_iff.1 hu).1
  rw [List.getElem?_append_right (by omega), List.getElem?_append_left (by omega), ← hu]
  congr 1
  omega

theorem Reps.set1 {α : Type} {K : α → List Value → Prop} (hn : ∀ x c, K x c → c.length = 1) {xs : List α} {cs : List Value} (h : Reps K xs cs) (i : Nat) {y : α} {u : Value} (hy : K y [u]) : Reps K (xs.set i y) (cs.set i u) := by
  induction xs generalizing cs i with
  | nil => obtain rfl := h; rfl
  | cons x xs ih =>
    obtain ⟨c, d', rfl, k1, k2⟩ := h
    obtain ⟨c0, rfl⟩ : ∃ c0, c = [c0] := List.length_eq_one_iff.1 (hn _ _ k1)
    cases i with
    | zero => exact ⟨[u], d', rfl, hy, k2⟩
    | succ i => exact ⟨[c0], _, rfl, k1, ih k2 i⟩

/-! ### kinds of data -/
structure Kd (α : Type) where
  sz : Nat
  E : List TypeId
  K : World → Nat → α → List Value → Prop
  len : ∀ {w B x cs}, K w B x cs → cs.length = sz
  one : ∀ {w B x cs}, K w B x cs → ∀ u ∈ cs, u.oneCell' = true
  mono : ∀ {w w' B x cs}, Keep B E w w' → K w B x cs → K w' B x cs
  up : ∀ {w B B' x cs}, B ≤ B' → K w B x cs → K w B' x cs

def kInt (k : IntKind) : Kd Int where
  sz := 1
  E := []
  K := fun _ _ n cs => cs = [.int k n] ∧ (Lit.int k n).wf = true
  len := fun h => by simp [h.1]
  one := fun h => by rw [h.1]; simp [Value.oneCell']
  mono := fun _ h => h
  up := fun _ h => h
def kByte : Kd UInt8 where
  sz := 1
  E := []
  K := fun _ _ n cs => cs = [.int .u8 (n.toNat : Int)]
  len := fun h => by simp [h]
  one := fun h => by rw [h]; simp [Value.oneCell']
  mono := fun _ h => h
  up := fun _ h => h
def kBool : Kd Bool where
  sz := 1
  E := []
  K := fun _ _ n cs => cs = [.bool n]
  len := fun h => by simp [h]
  one := fun h => by rw [h]; simp [Value.oneCell']
  mono := fun _ h => h
  up := fun _ h => h
/-- A string, told by its bytes. -/
def kStr : Kd (List UInt8) where
  sz := 1
  E := []
  K := fun _ _ n cs => cs = [.string ⟨n.toArray⟩] ∧ n.length ≤ 140737488355328
  len := fun h => by simp [h.1]
  one := fun h => by rw [h.1]; simp [Value.oneCell']
  mono := fun _ h => h
  up := fun _ h => h
theorem str_eq (s : ByteArray) : s = ⟨s.data.toList.toArray⟩ := by cases s; simp
def Kd.prod {α β : Type} (a : Kd α) (b : Kd β) : Kd (α × β) where
  sz := a.sz + b.sz
  E := a.E ++ b.E
  K := fun w B x cs => ∃ c d, cs = c ++ d ∧ a.K w B x.1 c ∧ b.K w B x.2 d
  len := fun ⟨c, d, e, h, k⟩ => by rw [e, List.length_append, a.len h, b.len k]
  one := fun ⟨c, d, e, h, k⟩ u hu => by
    rw [e, List.mem_append] at hu
    exact hu.elim (a.one h u) (b.one k u)
  mono := fun hk ⟨c, d, e, h, k⟩ => ⟨c, d, e, a.mono (hk.sub (Nat.le_refl _) (by simp +contextual)) h, b.mono (hk.sub (Nat.le_refl _) (by simp +contextual)) k⟩
  up := fun hB ⟨c, d, e, h, k⟩ => ⟨c, d, e, a.up hB h, b.up hB k⟩
def Kd.by {α β : Type} (a : Kd α) (f : β → α) : Kd β where
  sz := a.sz
  E := a.E
  K := fun w B x cs => a.K w B (f x) cs
  len := a.len
  one := a.one
  mono := a.mono
  up := a.up

/-- A slice that can be read: what it holds, of elements d, of element type e; its row lies below B, or bears its type. -/
def Rd {α : Type} (d : Kd α) (e : TypeId) (w : World) (B : Nat) (v : Value) (xs : List α) : Prop :=
  ∃ A c cs, v = .slice A xs.length c ∧ xs.length ≤ c ∧ xs.length ≤ 9223372036854775807 ∧ Reps (d.K w B) xs cs ∧ (A = none → c = 0) ∧
    (xs ≠ [] → ∃ b off, A = some ⟨b, off, none⟩ ∧ (∀ j u, cs[j]? = some u → w.cell? ⟨b, off + j, none⟩ = some u) ∧ (b < B ∨ ∃ cells fr, w.heap[b]? = some (.cells cells e fr)))

theorem cell_keep {w w' : World} {B : Nat} {E : List TypeId} {e : TypeId} (hk : Keep B E w w') (he : e ∈ E) {b o : Nat} {u : Value} (hc : w.cell? ⟨b, o, none⟩ = some u)
    (hb : b < B ∨ ∃ cells fr, w.heap[b]? = some (.cells cells e fr)) : w'.cell? ⟨b, o, none⟩ = some u := by
  have hs : b < w.heap.size := World.block_lt_of_cell? w ⟨b, o, none⟩ hc
  rcases hb with hb | ⟨cells, fr, hb⟩
  · rw [World.cell?_of_block (w := w) (w' := w') (a := ⟨b, o, none⟩) (hk.low b hb hs)]; exact hc
  · rw [World.cell?_of_block (w := w) (w' := w') (a := ⟨b, o, none⟩) ((hk.typed b _ _ _ he hb).trans hb.symm)]; exact hc

theorem Rd.mono {α : Type} {d : Kd α} {e : TypeId} {w w' : World} {B : Nat} {v : Value} {xs : List α} (hk : Keep B (e :: d.E) w w') (h : Rd d e w B v xs) : Rd d e w' B v xs := by
  obtain ⟨A, c, cs, rfl, h1, h2, h3, h0, h4⟩ := h
  refine ⟨A, c, cs, rfl, h1, h2, h3.imp fun x c _ => d.mono (hk.sub (Nat.le_refl _) fun t ht => List.mem_cons_of_mem _ ht), h0, fun hx => ?_⟩
  obtain ⟨b, off, hA, hc, hb⟩ := h4 hx
  refine ⟨b, off, hA, fun j u hu => cell_keep hk (List.mem_cons_self ..) (hc j u hu) hb, ?_⟩
  rcases hb with hb | ⟨cells, fr, hb⟩
  · exact .inl hb
  · exact .inr ⟨cells, fr, hk.typed b _ _ _ (List.mem_cons_self ..) hb⟩
theorem Rd.below {α : Type} {d : Kd α} {e : TypeId} {w w' : World} {B : Nat} {v : Value} {xs : List α} (h : Rd d e w B v xs) (hb : Below w.heap.size w w') : Rd d e w' B v xs := h.mono (keep_below hb)
theorem Rd.up {α : Type} {d : Kd α} {e : TypeId} {w : World} {B B' : Nat} {v : Value} {xs : List α} (h : Rd d e w B v xs) (hB : B ≤ B') : Rd d e w B' v xs := by
  obtain ⟨A, c, cs, rfl, h1, h2, h3, h0, h4⟩ := h
  refine ⟨A, c, cs, rfl, h1, h2, h3.imp fun x c _ => d.up hB, h0, fun hx => ?_⟩
  obtain ⟨b, off, hA, hc, hb⟩ := h4 hx
  exact ⟨b, off, hA, hc, hb.imp (fun h => Nat.lt_of_lt_of_le h hB) id⟩
theorem Rd.nil {α : Type} (d : Kd α) (e : TypeId) (w : World) (B : Nat) : Rd d e w B (.slice none 0 0) [] := ⟨none, 0, [], rfl, Nat.le_refl _, by simp, rfl, fun _ => rfl, fun h => absurd rfl h⟩
/-- Its form. -/
theorem Rd.form {α : Type} {d : Kd α} {e : TypeId} {w : World} {B : Nat} {v : Value} {xs : List α} (h : Rd d e w B v xs) : ∃ A c, v = .slice A xs.length c ∧ xs.length ≤ c ∧ xs.length ≤ 9223372036854775807 := by
  obtain ⟨A, c, cs, rfl, h1, h2, _⟩ := h; exact ⟨A, c, rfl, h1, h2⟩
/-- An element of it. -/
theorem Rd.at {α : Type} {d : Kd α} {e : TypeId} {w : World} {B : Nat} {A : Option Addr} {n c : Nat} {xs : List α} (h : Rd d e w B (.slice A n c) xs) {i : Nat} (hi : i < xs.length) :
    ∃ b off cs, A = some ⟨b, off, none⟩ ∧ d.K w B xs[i] cs ∧ ∀ j u, cs[j]? = some u → w.cell? ⟨b, off + i * d.sz + j, none⟩ = some u := by
  obtain ⟨A', c', cs, hv, h1, h2, h3, _, h4⟩ := h
  injection hv with e1 e2 e3
  subst e1
  obtain ⟨b, off, hA, hc, _⟩ := h4 (fun h => by rw [h] at hi; simp at hi)
  obtain ⟨cs', hk, hcell⟩ := h3.at (fun x c h => d.len h) hi
  exact ⟨b, off, cs', hA, hk, fun j u hu => by rw [Nat.add_assoc]; exact hc _ _ (hcell j u hu)⟩

def kSl {α : Type} (e : TypeId) (d : Kd α) : Kd (List α) where
  sz := 1
  E := e :: d.E
  K := fun w B xs cs => ∃ v, cs = [v] ∧ Rd d e w B v xs
  len := fun ⟨v, h, _⟩ => by simp [h]
  one := fun ⟨v, h, A, c, cs, hv, _⟩ => by rw [h, hv]; simp [Value.oneCell']
  mono := fun hk ⟨v, h, hr⟩ => ⟨v, h, hr.mono hk⟩
  up := fun hB ⟨v, h, hr⟩ => ⟨v, h, hr.up hB⟩

/-- A row of the call's own. -/
def Own {α : Type} (d : Kd α) (e : TypeId) (w : World) (b B : Nat) (v : Value) (xs : List α) : Prop :=
  ∃ cells, w.ownsRow b e d.sz v xs.length cells ∧ Reps (d.K w B) xs cells

theorem Own.nil {α : Type} (d : Kd α) (e : TypeId) (w : World) (b B : Nat) : Own d e w b B (.slice none 0 0) [] := ⟨[], World.ownsRow_nil _ _ _ _, rfl⟩
theorem ownsRow_len {w : World} {b n sz : Nat} {e : TypeId} {v : Value} {xs : List Value} (h : w.ownsRow b e sz v n xs) : ∃ A c, v = .slice A n c ∧ n ≤ c ∧ n ≤ 9223372036854775807 ∧ (A = none → c = 0) := by
  rcases h.2 with ⟨rfl, rfl⟩ | ⟨g, cap, cur, rfl, _, _, h1, h2, _⟩
  · exact ⟨none, 0, rfl, Nat.le_refl _, by simp, fun _ => rfl⟩
  · exact ⟨_, cap, rfl, h1, by simp only [maxLen] at h2; omega, fun h => by cases h⟩
theorem Own.form {α : Type} {d : Kd α} {e : TypeId} {w : World} {b B : Nat} {v : Value} {xs : List α} (h : Own d e w b B v xs) : ∃ A c, v = .slice A xs.length c ∧ xs.length ≤ c ∧ xs.length ≤ 9223372036854775807 := by
  obtain ⟨cells, h, _⟩ := h; obtain ⟨A, c, h1, h2, h3, _⟩ := ownsRow_len h; exact ⟨A, c, h1, h2, h3⟩
theorem Own.rd {α : Type} {d : Kd α} {e : TypeId} {w : World} {b B : Nat} {v : Value} {xs : List α} (h : Own d e w b B v xs) : Rd d e w B v xs := by
  obtain ⟨cells, h, hr⟩ := h
  obtain ⟨A, c, hv, h1, h2, h0⟩ := ownsRow_len h
  refine ⟨A, c, cells, hv, h1, h2, hr, h0, fun hx => ?_⟩
  rcases h.2 with ⟨_, h3⟩ | ⟨g, cap, cur, h3, _, hh, _⟩
  · exact absurd (List.eq_nil_of_length_eq_zero h3) hx
  · rw [hv] at h3
    injection h3 with e1 e2 e3
    refine ⟨g, 0, e1, fun j u hu => ?_, .inr ⟨cur, _, hh⟩⟩
    have := h.cells (g := g) (by rw [hv, e1]; rfl) j u hu
    unfold Addr.add at this
    split at this <;> simp_all
theorem Own.weaken {α : Type} {d : Kd α} {e : TypeId} {w : World} {b b' B B' : Nat} {v : Value} {xs : List α} (h : Own d e w b B v xs) (hb : b' ≤ b) (hB : B ≤ B') : Own d e w b' B' v xs := by
  obtain ⟨cells, h, hr⟩ := h
  refine ⟨cells, ⟨h.1, ?_⟩, hr.imp fun x c _ => d.up hB⟩
  rcases h.2 with h2 | ⟨g, cap, cur, h2, h3, h4⟩
  · exact .inl h2
  · exact .inr ⟨g, cap, cur, h2, Nat.le_trans hb h3, h4⟩
theorem Own.below {α : Type} {d : Kd α} {e : TypeId} {w w' : World} {b B : Nat} {v : Value} {xs : List α} (h : Own d e w b B v xs) (hb : Below w.heap.size w w') : Own d e w' b B v xs := by
  obtain ⟨cells, h, hr⟩ := h
  exact ⟨cells, h.kept (row := none) ⟨hb.os, hb.tape, hb.output, hb.size, fun k hk _ => hb.block k hk⟩ (by cases v.ownBlock <;> simp), hr.imp fun x c _ => d.mono (keep_below hb)⟩
/-- Rows of another type have been written. -/
theorem Own.wr {α : Type} {d : Kd α} {e e' : TypeId} {w w' : World} {b b' B : Nat} {v : Value} {xs : List α} (h : Own d e w b B v xs) (hw : Wr b' e' w w') (hne : e ≠ e') (hE : e' ∉ d.E) (hB : B ≤ b') : Own d e w' b B v xs := by
  obtain ⟨cells, h, hr⟩ := h
  refine ⟨cells, ⟨h.1, ?_⟩, hr.imp fun x c _ => d.mono (hw.keep hB hE)⟩
  rcases h.2 with h2 | ⟨g, cap, cur, h2, h3, h4, h5⟩
  · exact .inl h2
  · exact .inr ⟨g, cap, cur, h2, h3, hw.typed _ _ _ _ hne h4, h5⟩

theorem wr_grown {w w' : World} {b e n sz : Nat} {v : Value} {xs : List Value} (h : w.ownsRow b e sz v n xs) (hg : w.grownBy w' v.ownBlock) : Wr b e w w' := by
  have key : ∀ g, v.ownBlock = some g → b ≤ g ∧ ∃ c, w.heap[g]? = some (.cells c e (0, 0)) := by
    intro g hb
    rcases h.2 with ⟨rfl, _⟩ | ⟨g', cap, cur, rfl, h3, h4, _⟩
    · simp [Value.ownBlock] at hb
    · simp [Value.ownBlock] at hb; subst hb; exact ⟨h3, _, h4⟩
  refine ⟨hg.os, hg.tape, hg.output, hg.size, fun g hlt hs => hg.block g hs fun hk => ?_, fun g c t fr ht hc => ?_, fun g o ho hc => ?_⟩
  · have := (key g hk.symm).1; omega
  · rw [hg.block g (lt_of_some hc) fun hk => ?_]; exact hc
    obtain ⟨c', h'⟩ := (key g hk.symm).2
    rw [hc] at h'; injection h' with h'; injection h' with _ h' _; exact ht h'
  · rw [hg.block g (lt_of_some hc) fun hk => ?_]; exact hc
    obtain ⟨c', h'⟩ := (key g hk.symm).2
    rw [hc] at h'; injection h' with h'; exact ho _ _ _ h'

/-- What a call that makes memory answers: a row of its own. -/
def Fresh {α : Type} (d : Kd α) (e : TypeId) (w : World) (xs : List α) : Ending → World → Prop := fun en w' => ∃ v, en = .returned v ∧ Own d e w' w.heap.size 0 v xs ∧ Below w.heap.size w w'

section
variable {P : Program} {ops : Array Oper} {rest : List Oper} {o : Oper} {a : Act} {Q : Exit → Act → World → Prop}
/-- append(v, y). -/
theorem app1 {α : Type} {d : Kd α} {W : World} {b B : Nat} {dst : Option Tmp} {s x : Operand} {t e ty : TypeId} {pos : String} {aft : Array Edge} {z : Value} {bytes : Nat} {xs : List α} {y : α} {ys : Array Value}
    (ht : P.underlying t = some (.slice e)) (hinfo : (P.info? e).map (fun i => (i.zero, i.size, i.bytes)) = some (some z, d.sz, bytes))
    (HO : Own d e W b B (a.eval s) xs) (hy : d.K W B y ys.toList) (hb : b ≤ W.heap.size) (hl : (xs.length + 1) * bytes ≤ 140737488355328)
    (h : ∀ v1 w1, Own d e w1 b B v1 (xs ++ [y]) → Wr b e W w1 → wpList P ops Q rest (a.put dst v1) w1)
    (hx : a.eval x = .slice (some ⟨W.heap.size, 0, none⟩) 1 1 := by rfl) (hz : z.cells.size = d.sz := by rfl) (hs0 : 0 < d.sz ∧ 0 < bytes := by decide) (he : e ∉ d.E := by decide) (hB : B ≤ b := by first | exact Nat.zero_le _ | omega) :
    wpList P ops Q ({ dst := dst, op := .call { callee := .builtin .append, args := #[s, x], argTypes := #[t, t] }, type := ty, pos := pos, after := aft, guard := none } :: rest) a (W.alloc (.cells ys e)) := by
  obtain ⟨i0, hi, hzz⟩ := Option.map_eq_some_iff.1 hinfo
  simp only [Prod.mk.injEq] at hzz
  obtain ⟨hz0, hz1, hz2⟩ := hzz
  obtain ⟨hs0, hb0⟩ := hs0
  obtain ⟨cells, hown, hreps⟩ := HO
  have hlen : xs.length + 1 ≤ 140737488355328 := Nat.le_trans (Nat.le_mul_of_pos_right _ hb0) hl
  have hw0 : Wr b e W (W.alloc (.cells ys e)) := Wr.of_below (below_alloc _)
  refine wpList_append_own_at (W.alloc (.cells ys e)) rfl s x t rfl b e i0 z d.sz bytes ht hi hz0 hz1 hz2 hz hs0 _ xs.length cells rfl (hown.alloc _) ⟨W.heap.size, 0, none⟩ 1 1 ys.toList hx (by rw [d.len hy]; simp)
    (World.news_of_block (cs := ys) (t := e) (fr := (0, 0)) (heap_alloc_new W (.cells ys e))) (d.one hy) (by simp only [maxLen]; omega) hl (by simp; omega) ?_
  intro v1 w1 hown1 hg _ _
  have hw1 := hw0.trans (wr_grown (hown.alloc _) hg)
  have hk := hw1.keep (B := B) hB he
  refine h v1 w1 ⟨cells ++ ys.toList, by simpa using hown1, ?_⟩ hw1
  exact (hreps.imp fun x c _ => d.mono hk).append (Reps.one (d.mono hk hy))

/-- append(v, ys...). -/
theorem appRow {α : Type} {d : Kd α} {W : World} {b B B' : Nat} {dst : Option Tmp} {s x : Operand} {t e ty : TypeId} {pos : String} {aft : Array Edge} {z : Value} {bytes : Nat} {xs ys : List α}
    (ht : P.underlying t = some (.slice e)) (hinfo : (P.info? e).map (fun i => (i.zero, i.size, i.bytes)) = some (some z, d.sz, bytes))
    (HO : Own d e W b B (a.eval s) xs) (HR : Rd d e W B' (a.eval x) ys) (hK : ∀ y c, y ∈ ys → d.K W B' y c → d.K W B y c) (hb : b ≤ W.heap.size) (hl : (xs.length + ys.length) * bytes ≤ 140737488355328)
    (h : ∀ v1 w1, Own d e w1 b B v1 (xs ++ ys) → Wr b e W w1 → wpList P ops Q rest (a.put dst v1) w1)
    (hz : z.cells.size = d.sz := by rfl) (hs0 : 0 < d.sz ∧ 0 < bytes := by decide) (he : e ∉ d.E := by decide) (hB : B ≤ b := by first | exact Nat.zero_le _ | omega) :
    wpList P ops Q ({ dst := dst, op := .call { callee := .builtin .append, args := #[s, x], argTypes := #[t, t] }, type := ty, pos := pos, after := aft, guard := none } :: rest) a W := by
  obtain ⟨i0, hi, hzz⟩ := Option.map_eq_some_iff.1 hinfo
  simp only [Prod.mk.injEq] at hzz
  obtain ⟨hz0, hz1, hz2⟩ := hzz
  obtain ⟨hs0, hb0⟩ := hs0
  obtain ⟨cells, hown, hreps⟩ := HO
  obtain ⟨A, c, cs, hv, h1, h2, h3, h0, h4⟩ := HR
  have h3' : Reps (d.K W B) ys cs := h3.imp hK
  have hlen : xs.length + ys.length ≤ 140737488355328 := Nat.le_trans (Nat.le_mul_of_pos_right _ hb0) hl
  cases A with
  | none =>
    obtain rfl := h0 rfl
    have hy : ys = [] := List.eq_nil_of_length_eq_zero (by omega)
    subst hy
    refine wpList_append_own_none rfl s x t rfl b e i0 d.sz ht hi _ xs.length cells rfl hown hv ?_
    exact h _ _ (by rw [List.append_nil]; exact ⟨cells, hown, hreps⟩) (Wr.refl _ _ _)
  | some ad =>
    have hone : ∀ u ∈ cs, u.oneCell' = true := by
      clear h4 hlen hl h h1 h2 hv h0
      induction ys generalizing cs with
      | nil => obtain rfl := h3; simp
      | cons y ys ih =>
        obtain ⟨c, d', rfl, k1, k2⟩ := h3
        obtain ⟨c', d'', e', k1', k2'⟩ := h3'
        intro u hu
        rw [List.mem_append] at hu
        rcases hu with hu | hu
        · exact d.one k1 u hu
        · refine ih (fun y c hy => hK y c (List.mem_cons_of_mem _ hy)) d' k2 (k2.imp fun y c hy => hK y c (List.mem_cons_of_mem _ hy)) u hu
    refine wpList_append_own_at W rfl s x t rfl b e i0 z d.sz bytes ht hi hz0 hz1 hz2 hz hs0 _ xs.length cells rfl hown ad ys.length c cs hv (h3.len fun x c h => d.len h) ?_ hone (by simp only [maxLen]; omega) hl hb ?_
    · intro j u hu
      have hne : ys ≠ [] := fun hy => by subst hy; obtain rfl := h3; simp at hu
      obtain ⟨g, off, hA, hc, _⟩ := h4 hne
      injection hA with hA
      subst hA
      have := hc j u hu
      unfold Addr.add
      split
      · next hj => subst hj; exact this
      · exact this
    · intro v1 w1 hown1 hg _ _
      have hw1 := wr_grown hown hg
      have hk := hw1.keep (B := B) hB he
      exact h v1 w1 ⟨cells ++ cs, by simpa using hown1, (hreps.imp fun x c _ => d.mono hk).append (h3'.imp fun x c _ => d.mono hk)⟩ hw1

/-- append(v, s...), s a string. -/
theorem appStr {W : World} {b B : Nat} {dst : Option Tmp} {s x : Operand} {t u e ty : TypeId} {pos : String} {aft : Array Edge} {xs : List UInt8} {str : ByteArray}
    (ht : P.underlying t = some (.slice e)) (hu : P.underlying u = some .string) (hinfo : (P.info? e).map (fun i => (i.zero, i.size, i.bytes)) = some (some (.int .u8 0), 1, 1))
    (HO : Own kByte e W b B (a.eval s) xs) (hx : a.eval x = .string str) (hb : b ≤ W.heap.size) (hl : xs.length + str.size ≤ 140737488355328)
    (h : ∀ v1 w1, Own kByte e w1 b B v1 (xs ++ str.data.toList) → Wr b e W w1 → wpList P ops Q rest (a.put dst v1) w1) :
    wpList P ops Q ({ dst := dst, op := .call { callee := .builtin .append, args := #[s, x], argTypes := #[t, u] }, type := ty, pos := pos, after := aft, guard := none } :: rest) a W := by
  obtain ⟨i0, hi, hzz⟩ := Option.map_eq_some_iff.1 hinfo
  simp only [Prod.mk.injEq] at hzz
  obtain ⟨hz0, hz1, hz2⟩ := hzz
  obtain ⟨cells, hown, hreps⟩ := HO
  refine Lib.wpList_append_own_string W rfl s x t u rfl b e i0 ht hu hi hz0 hz1 hz2 _ xs.length cells rfl hown str hx (by simp only [maxLen]; omega) hl hb ?_
  intro v1 w1 hown1 hg _
  have hlen : str.data.toList.length = str.size := by rw [Array.length_toList]; rfl
  refine h v1 w1 ⟨cells ++ Lib.strCells str, by rw [List.length_append, hlen]; exact hown1, hreps.append ?_⟩ (wr_grown hown hg)
  unfold Lib.strCells
  generalize str.data.toList = l
  induction l with
  | nil => rfl
  | cons c l ih => exact ⟨_, _, rfl, rfl, ih⟩

/-- What a cut of what is read reads as. -/
theorem Reps.take {α : Type} {K : α → List Value → Prop} {n : Nat} (hn : ∀ x c, K x c → c.length = n) {xs : List α} {cs : List Value} (h : Reps K xs cs) (k : Nat) : Reps K (xs.take k) (cs.take (k * n)) := by
  rcases Nat.lt_or_ge k xs.length with hk | hk
  · have h' := h
    rw [← List.take_append_drop k xs] at h'
    obtain ⟨c, d, rfl, h1, h2⟩ := h'.split
    have := h1.len hn
    rw [List.length_take, Nat.min_eq_left (by omega)] at this
    rw [← this, List.take_left]; exact h1
  · rw [List.take_of_length_le hk, List.take_of_length_le (by rw [h.len hn]; exact Nat.mul_le_mul_right _ hk)]; exact h
theorem Reps.drop {α : Type} {K : α → List Value → Prop} {n : Nat} (hn : ∀ x c, K x c → c.length = n) {xs : List α} {cs : List Value} (h : Reps K xs cs) (k : Nat) : Reps K (xs.drop k) (cs.drop (k * n)) := by
  rcases Nat.lt_or_ge k xs.length with hk | hk
  · have h' := h
    rw [← List.take_append_drop k xs] at h'
    obtain ⟨c, d, rfl, h1, h2⟩ := h'.split
    have := h1.len hn
    rw [List.length_take, Nat.min_eq_left (by omega)] at this
    rw [← this, List.drop_left]; exact h2
  · rw [List.drop_of_length_le hk, List.drop_of_length_le (by rw [h.len hn]; exact Nat.mul_le_mul_right _ hk)]; rfl

theorem Rd.sliced {α : Type} {d : Kd α} {e : TypeId} {w : World} {B : Nat} {A : Option Addr} {n c : Nat} {xs : List α} (h : Rd d e w B (.slice A n c) xs) (lo hi : Nat) (h1 : lo ≤ hi) (h2 : hi ≤ xs.length) :
    Rd d e w B (Go.sliced A lo hi c d.sz) ((xs.take hi).drop lo) := by
  obtain ⟨A', c', cs, hv, k1, k2, k3, k0, k4⟩ := h
  injection hv with e1 e2 e3
  subst e1 e2 e3
  refine ⟨_, c - lo, (cs.take (hi * d.sz)).drop (lo * d.sz), by unfold Go.sliced; congr 1; simp; omega, by simp; omega, by simp; omega, (k3.take (fun x c h => d.len h) hi).drop (fun x c h => d.len h) lo, ?_, ?_⟩
  · intro hA
    split at hA
    · omega
    · cases A with
      | none => have := k0 rfl; omega
      | some ad => simp at hA
  · intro hne
    have hlo : lo < hi := by
      rcases Nat.lt_or_ge lo hi with h | h
      · exact h
      · exact absurd (List.eq_nil_of_length_eq_zero (by simp; omega)) hne
    obtain ⟨b, off, hA, hc, hb⟩ := k4 (fun h => by rw [h] at h2; simp at h2; omega)
    subst hA
    refine ⟨b, off + lo * d.sz, ?_, fun j u hu => ?_, hb⟩
    · rw [if_neg (by omega)]
      simp [Addr.add]
    · rw [Nat.add_assoc]
      refine hc _ _ ?_
      rw [List.getElem?_drop] at hu
      rw [List.getElem?_take] at hu
      split at hu
      · exact hu
      · cases hu

/-- xs[lo:hi], xs read. -/
theorem cutLH {α : Type} {d : Kd α} {W : World} {B : Nat} {dst : Option Tmp} {x l r : Operand} {t e ty : TypeId} {pos : String} {aft : Array Edge} {z : Value} {bytes : Nat} {xs : List α} {kl kh : IntKind} {lo hi : Int}
    (ht : P.underlying t = some (.slice e)) (hinfo : (P.info? e).map (fun i => (i.zero, i.size, i.bytes)) = some (some z, d.sz, bytes))
    (HR : Rd d e W B (a.eval x) xs) (hlo : a.eval l = .int kl lo) (hhi : a.eval r = .int kh hi) (h0 : 0 ≤ lo) (h1 : lo ≤ hi) (h2 : hi ≤ xs.length)
    (h : ∀ v', Rd d e W B v' ((xs.take hi.toNat).drop lo.toNat) → wpList P ops Q rest (a.put dst v') W) :
    wpList P ops Q ({ dst := dst, op := .slice t x (some l) (some r) none, type := ty, pos := pos, after := aft, guard := none } :: rest) a W := by
  obtain ⟨i0, hi0, hzz⟩ := Option.map_eq_some_iff.1 hinfo
  simp only [Prod.mk.injEq] at hzz
  obtain ⟨A, c, hv, hc, _⟩ := HR.form
  rw [hv] at HR
  have hel : P.elem t = e := by simp [Program.elem, ht]
  have hu : P.underlying t = some (.slice (P.elem t)) := by rw [hel]; exact ht
  refine wpList_plain rfl fun K hK => ?_
  unfold Oper.wp execOp
  simp only [Option.map_some, Option.map_none, hv, hlo, hhi, run_sliceAt_slice _ _ _ _ _ _ hu, Sem.run_bind, Sem.run_pure, run_slice_lh W t A _ c hu kl kh lo hi h0 h1 (by omega), hel, sizeOf, typeInfo]
  simp [Result.andThen, Oper.upon, hi0, hzz]
  exact hK _ _ (h _ (HR.sliced lo.toNat hi.toNat (by omega) (by omega)))

/-- xs[lo:], xs read. -/
theorem cutL {α : Type} {d : Kd α} {W : World} {B : Nat} {dst : Option Tmp} {x l : Operand} {t e ty : TypeId} {pos : String} {aft : Array Edge} {z : Value} {bytes : Nat} {xs : List α} {kl : IntKind} {lo : Int}
    (ht : P.underlying t = some (.slice e)) (hinfo : (P.info? e).map (fun i => (i.zero, i.size, i.bytes)) = some (some z, d.sz, bytes))
    (HR : Rd d e W B (a.eval x) xs) (hlo : a.eval l = .int kl lo) (h0 : 0 ≤ lo) (h1 : lo ≤ xs.length)
    (h : ∀ v', Rd d e W B v' (xs.drop lo.toNat) → wpList P ops Q rest (a.put dst v') W) :
    wpList P ops Q ({ dst := dst, op := .slice t x (some l) none none, type := ty, pos := pos, after := aft, guard := none } :: rest) a W := by
  obtain ⟨i0, hi0, hzz⟩ := Option.map_eq_some_iff.1 hinfo
  simp only [Prod.mk.injEq] at hzz
  obtain ⟨A, c, hv, hc, _⟩ := HR.form
  rw [hv] at HR
  have hel : P.elem t = e := by simp [Program.elem, ht]
  have hu : P.underlying t = some (.slice (P.elem t)) := by rw [hel]; exact ht
  refine wpList_plain rfl fun K hK => ?_
  unfold Oper.wp execOp
  simp only [Option.map_some, Option.map_none, hv, hlo, run_sliceAt_slice _ _ _ _ _ _ hu, Sem.run_bind, Sem.run_pure, run_slice_l W t A _ c hu kl lo h0 h1, hel, sizeOf, typeInfo]
  simp [Result.andThen, Oper.upon, hi0, hzz]
  have := HR.sliced lo.toNat xs.length (by omega) (Nat.le_refl _)
  rw [List.take_length] at this
  exact hK _ _ (h _ this)

/-- xs[:hi], xs read. -/
theorem cutH {α : Type} {d : Kd α} {W : World} {B : Nat} {dst : Option Tmp} {x r : Operand} {t e ty : TypeId} {pos : String} {aft : Array Edge} {z : Value} {bytes : Nat} {xs : List α} {kh : IntKind} {hi : Int}
    (ht : P.underlying t = some (.slice e)) (hinfo : (P.info? e).map (fun i => (i.zero, i.size, i.bytes)) = some (some z, d.sz, bytes))
    (HR : Rd d e W B (a.eval x) xs) (hhi : a.eval r = .int kh hi) (h0 : 0 ≤ hi) (h1 : hi ≤ xs.length)
    (h : ∀ v', Rd d e W B v' (xs.take hi.toNat) → wpList P ops Q rest (a.put dst v') W) :
    wpList P ops Q ({ dst := dst, op := .slice t x none (some r) none, type := ty, pos := pos, after := aft, guard := none } :: rest) a W := by
  obtain ⟨i0, hi0, hzz⟩ := Option.map_eq_some_iff.1 hinfo
  simp only [Prod.mk.injEq] at hzz
  obtain ⟨A, c, hv, hc, _⟩ := HR.form
  rw [hv] at HR
  have hel : P.elem t = e := by simp [Program.elem, ht]
  have hu : P.underlying t = some (.slice (P.elem t)) := by rw [hel]; exact ht
  refine wpList_plain rfl fun K hK => ?_
  unfold Oper.wp execOp
  simp only [Option.map_some, Option.map_none, hv, hhi, run_sliceAt_slice _ _ _ _ _ _ hu, Sem.run_bind, Sem.run_pure, run_slice_h W t A _ c hu kh hi h0 (by omega), hel, sizeOf, typeInfo]
  simp [Result.andThen, Oper.upon, hi0, hzz]
  exact hK _ _ (h _ (HR.sliced 0 hi.toNat (Nat.zero_le _) (by omega)))

/-- xs[:hi], xs a row of the call's own: it stays one. -/
theorem cutOwn {α : Type} {d : Kd α} {W : World} {b B : Nat} {dst : Option Tmp} {x r : Operand} {t e ty : TypeId} {pos : String} {aft : Array Edge} {z : Value} {bytes : Nat} {xs : List α} {kh : IntKind} {hi : Int}
    (ht : P.underlying t = some (.slice e)) (hinfo : (P.info? e).map (fun i => (i.zero, i.size, i.bytes)) = some (some z, d.sz, bytes))
    (HO : Own d e W b B (a.eval x) xs) (hhi : a.eval r = .int kh hi) (h0 : 0 ≤ hi) (h1 : hi ≤ xs.length)
    (h : ∀ v', Own d e W b B v' (xs.take hi.toNat) → wpList P ops Q rest (a.put dst v') W) :
    wpList P ops Q ({ dst := dst, op := .slice t x none (some r) none, type := ty, pos := pos, after := aft, guard := none } :: rest) a W := by
  obtain ⟨i0, hi0, hzz⟩ := Option.map_eq_some_iff.1 hinfo
  simp only [Prod.mk.injEq] at hzz
  obtain ⟨A, c, hv, hc, _⟩ := HO.form
  rw [hv] at HO
  have hel : P.elem t = e := by simp [Program.elem, ht]
  have hu : P.underlying t = some (.slice (P.elem t)) := by rw [hel]; exact ht
  refine wpList_plain rfl fun K hK => ?_
  unfold Oper.wp execOp
  simp only [Option.map_some, Option.map_none, hv, hhi, run_sliceAt_slice _ _ _ _ _ _ hu, Sem.run_bind, Sem.run_pure, run_slice_h W t A _ c hu kh hi h0 (by omega), hel, sizeOf, typeInfo]
  simp [Result.andThen, Oper.upon, hi0, hzz]
  refine hK _ _ (h _ ?_)
  obtain ⟨cells, ho, hr⟩ := HO
  have hl : hi.toNat ≤ xs.length := by omega
  refine ⟨cells.take (hi.toNat * d.sz), ⟨?_, ?_⟩, hr.take (fun x c h => d.len h) _⟩
  · rw [List.length_take, ho.1, List.length_take, Nat.min_eq_left hl, Nat.min_eq_left (Nat.mul_le_mul_right _ hl)]
  · rw [List.length_take, Nat.min_eq_left hl]
    rcases ho.2 with ⟨h2, h3⟩ | ⟨g, cap, cur, h2, h3, h4, h5, h6, h7, h8⟩
    · injection h2 with e1 e2 e3
      subst e1 e3
      have : hi.toNat = 0 := by omega
      exact .inl ⟨by simp [this, Go.sliced], this⟩
    · injection h2 with e1 e2 e3
      subst e1 e3
      refine .inr ⟨g, c, cur, by simp [Go.sliced, Addr.add], h3, h4, by omega, h6, h7, ?_⟩
      rw [← h8, List.take_take, Nat.min_eq_left (Nat.mul_le_mul_right _ hl)]

/-- string(b), b read. -/
theorem convStr {W : World} {B : Nat} {dst : Option Tmp} {x : Operand} {src dt e ty : TypeId} {pos : String} {aft : Array Edge} {xs : List UInt8}
    (hs : P.underlying src = some (.slice e)) (he : P.underlying e = some (.int .u8)) (hd : P.underlying dt = some .string) (HR : Rd kByte e W B (a.eval x) xs)
    (h : wpList P ops Q rest (a.put dst (.string ⟨xs.toArray⟩)) W) :
    wpList P ops Q ({ dst := dst, op := .convert src dt x, type := ty, pos := pos, after := aft, guard := none } :: rest) a W := by
  refine wpList_plain rfl fun K hK => ?_
  obtain ⟨A, c, cs, hv, h1, h2, h3, h0, h4⟩ := HR
  have hcs : cs = xs.map fun y => Value.int .u8 (y.toNat : Int) := by
    clear h4 h0 h1 h2 hv h
    induction xs generalizing cs with
    | nil => exact h3
    | cons y ys ih => obtain ⟨c, d', rfl, k1, k2⟩ := h3; rw [k1, ih d' k2]; rfl
  have hrun : (convert src dt (.slice A xs.length c)).run P W = .ok (.string ⟨xs.toArray⟩) W := by
    by_cases hx : xs = []
    · subst hx
      cases A with
      | none => exact run_convert_bytes_nil W src e hs he _ _ dt hd
      | some ad =>
        rw [run_convert_bytes_string W src dt e _ _ c hs he hd, run_bytesToString W ad _ c [] (by simp [loadCells, loadCellsFrom])]
        simp [ByteArray.empty, ByteArray.emptyWithCapacity]
        rfl
    · obtain ⟨b, off, rfl, hc, _⟩ := h4 hx
      have := run_convert_bytes_arg W src e hs he b off xs.length c (xs.map fun y => (y.toNat : Int)) (by simp) (fun i hi => by
        rw [hc i (Value.int .u8 (xs[i].toNat : Int)) (by rw [hcs]; simp [hi])]
        simp [List.getD, hi]) dt hd
      rw [this]
      have hf : ((fun n : Int => UInt8.ofNat n.toNat) ∘ fun y : UInt8 => (y.toNat : Int)) = id := by funext y; simp
      simp [strOfNums, hf]
  unfold Oper.wp execOp
  simp only [hv, hrun, Sem.run_bind, Sem.run_pure]
  simp [Result.andThen, Oper.upon]
  exact hK _ _ h

theorem data_len (s : ByteArray) : s.data.toList.length = s.size := by rw [Array.length_toList]; rfl

/-- []byte(s). -/
theorem convBytes {W : World} {dst : Option Tmp} {x : Operand} {src dt e ty : TypeId} {pos : String} {aft : Array Edge} {str : ByteArray}
    (hs : P.underlying src = some .string) (hd : P.underlying dt = some (.slice e)) (he : P.underlying e = some (.int .u8)) (hx : a.eval x = .string str) (hl : str.size ≤ 140737488355328)
    (h : ∀ v w1, Rd kByte e w1 0 v str.data.toList → Below W.heap.size W w1 → wpList P ops Q rest (a.put dst v) w1) :
    wpList P ops Q ({ dst := dst, op := .convert src dt x, type := ty, pos := pos, after := aft, guard := none } :: rest) a W := by
  refine wpList_plain rfl fun K hK => ?_
  unfold Oper.wp execOp
  simp only [hx, Lib.run_convert_string_bytes W src dt e str hs hd he, Sem.run_bind, Sem.run_pure]
  simp [Result.andThen, Oper.upon]
  refine hK _ _ (h _ _ ?_ ⟨rfl, rfl, rfl, by rw [Lib.bytesWorld_size]; omega, fun k hk => Lib.bytesWorld_at_old W e str k hk⟩)
  refine ⟨_, _, str.data.toList.map fun y => Value.int .u8 (y.toNat : Int), by rw [data_len], by rw [data_len]; exact grownCap_ge W str.size 0 e, by rw [data_len]; omega, ?_, fun h => by simp at h, fun _ => ⟨_, _, rfl, fun j u hu => ?_, .inr ⟨_, _, Lib.bytesWorld_at_new W e str⟩⟩⟩
  · generalize str.data.toList = l
    induction l with
    | nil => rfl
    | cons c l ih => exact ⟨_, _, rfl, rfl, ih⟩
  · have hj : j < str.size := by
      have := (List.getElem?_eq_some_iff.1 hu).1
      rw [List.length_map, data_len] at this; exact this
    rw [Nat.zero_add, Lib.bytesWorld_cell W e str j hj, ← hu, List.getElem?_map, List.getElem?_eq_getElem (by rw [data_len]; exact hj)]
    simp [List.getD, hj]
end

/-- A literal. -/
theorem own_lit {α : Type} {d : Kd α} {e : TypeId} {W : World} {b B n : Nat} {xs : List α} {cells : Array Value} (hn : xs.length = n) (hr : Reps (d.K W B) xs cells.toList) (hb : b ≤ W.heap.size) (hl : n ≤ 9223372036854775807) :
    Own d e (W.alloc (.cells cells e)) b B (.slice (some ⟨W.heap.size, 0, none⟩) n n) xs := by
  subst hn
  have hk : Keep B d.E W (W.alloc (.cells cells e)) := keep_below (below_alloc _)
  have hs := hr.len fun x c h => d.len h
  refine ⟨cells.toList, ⟨hs, .inr ⟨_, _, cells, rfl, hb, heap_alloc_new W _, Nat.le_refl _, by simp only [maxLen]; omega, by simpa using hs, ?_⟩⟩, hr.imp fun x c _ => d.mono hk⟩
  rw [← hs, List.take_length]

section
variable {P : Program} {ops : Array Oper} {rest : List Oper} {o : Oper} {a : Act} {Q : Exit → Act → World → Prop}
/-- make([]T, n), elements of one cell. -/
theorem makeOwn {α : Type} {d : Kd α} {W : World} {dst : Option Tmp} {l c : Operand} {t e ty : TypeId} {pos : String} {aft : Array Edge} {z : Value} {bytes : Nat} {n : Int} {y : α}
    (ht : P.underlying t = some (.slice e)) (hinfo : (P.info? e).map (fun i => (i.zero, i.size, i.bytes)) = some (some z, 1, bytes)) (hl : a.eval l = .int .i64 n) (hc : a.eval c = .int .i64 n) (h0 : 0 ≤ n) (hn : n * bytes ≤ 281474976710656) (hb : 0 < bytes)
    (hz : z.cells = #[z]) (hd : d.sz = 1) (hy : ∀ w B, d.K w B y [z])
    (h : ∀ W', Own d e W' W.heap.size 0 (.slice (some ⟨W.heap.size, 0, none⟩) n.toNat n.toNat) (List.replicate n.toNat y) → Below W.heap.size W W' → W.heap.size < W'.heap.size → wpList P ops Q rest (a.put dst (.slice (some ⟨W.heap.size, 0, none⟩) n.toNat n.toNat)) W') :
    wpList P ops Q ({ dst := dst, op := .makeSlice t l c, type := ty, pos := pos, after := aft, guard := none } :: rest) a W := by
  obtain ⟨i0, hi, hzz⟩ := Option.map_eq_some_iff.1 hinfo
  simp only [Prod.mk.injEq] at hzz
  obtain ⟨hz0, hz1, hz2⟩ := hzz
  have hnb : (i0.bytes : Int) * n ≤ 281474976710656 := by rw [hz2, Int.mul_comm]; exact hn
  have hn1 : n ≤ 281474976710656 := by
    have : n * 1 ≤ n * bytes := Int.mul_le_mul_of_nonneg_left (by omega) h0
    omega
  have hr := run_make (P := P) W t e i0 z ht hi hz0 .i64 .i64 n n h0 (Int.le_refl _) hnb (by omega)
  refine wpList_plain rfl fun K hK => ?_
  unfold Oper.wp execOp
  simp only [hl, hc, hr, Sem.run_bind, Sem.run_pure]
  simp [Result.andThen, Oper.upon]
  refine hK _ _ (h _ ?_ (by simpa using below_alloc (w := W) (.cells (madeCells z.cells (n.toNat * i0.size)) e)) (by simp))
  have hcells : madeCells z.cells (n.toNat * i0.size) = Array.replicate n.toNat z := by
    rw [hz1, Nat.mul_one, hz]
    apply Array.ext
    · simp [madeCells]
    · intro i h1 h2; simp [madeCells, Nat.mod_one]
  rw [hcells]
  have := own_lit (d := d) (e := e) (W := W) (b := W.heap.size) (B := 0) (n := n.toNat) (xs := List.replicate n.toNat y) (cells := Array.replicate n.toNat z) (by simp) ?_ (Nat.le_refl _) (by omega)
  · simpa using this
  · rw [Array.toList_replicate]
    generalize n.toNat = m
    induction m with
    | zero => rfl
    | succ m ih => rw [List.replicate_succ, List.replicate_succ]; exact ⟨[z], _, rfl, hy _ _, ih⟩
end

/-- A row of the call's own of one cell or more: where it lies. -/
theorem Own.block {α : Type} {d : Kd α} {e : TypeId} {w : World} {b B : Nat} {A : Option Addr} {n c : Nat} {xs : List α} (h : Own d e w b B (.slice A n c) xs) (hx : 0 < xs.length) : ∃ g, A = some ⟨g, 0, none⟩ ∧ n = xs.length ∧ b ≤ g ∧ (∀ i, w.frozen? ⟨g, i, none⟩ = false) := by
  obtain ⟨cells, ho, hr⟩ := h
  rcases ho.2 with ⟨h1, h2⟩ | ⟨g, cap, cur, h1, h2, h3, _⟩
  · omega
  · injection h1 with e1 e2 e3
    exact ⟨g, e1, e2, h2, fun i => by simp [World.frozen?, h3]⟩

section
variable {P : Program} {ops : Array Oper} {rest : List Oper} {a : Act} {Q : Exit → Act → World → Prop}
theorem ext_str (xs : List UInt8) (i j : Nat) : (⟨xs.toArray⟩ : ByteArray).extract i j = ⟨((xs.take j).drop i).toArray⟩ := by
  apply ByteArray.ext
  rw [ByteArray.data_extract]
  simp [List.drop_take]
/-- s[lo:], s a string. -/
theorem strL {W : World} {dst : Option Tmp} {x l : Operand} {t ty : TypeId} {pos : String} {aft : Array Edge} {xs : List UInt8} {kl : IntKind} {lo : Int}
    (ht : P.underlying t = some .string) (hx : a.eval x = .string ⟨xs.toArray⟩) (hlo : a.eval l = .int kl lo) (h0 : 0 ≤ lo) (h1 : lo ≤ xs.length)
    (h : wpList P ops Q rest (a.put dst (.string ⟨(xs.drop lo.toNat).toArray⟩)) W) :
    wpList P ops Q ({ dst := dst, op := .slice t x (some l) none none, type := ty, pos := pos, after := aft, guard := none } :: rest) a W := by
  refine wpList_plain rfl fun K hK => ?_
  unfold Oper.wp execOp
  have hs : (⟨xs.toArray⟩ : ByteArray).size = xs.length := by simp [ByteArray.size]
  simp only [Option.map_some, Option.map_none, hx, hlo, run_sliceAt_string _ _ _ _ _ _ ht, Sem.run_bind, Sem.run_pure, run_slice_string_l W t _ ht kl lo h0 (by rw [hs]; exact h1)]
  simp [Result.andThen, Oper.upon]
  rw [hs, ext_str, List.take_length]
  exact hK _ _ h
/-- s[:hi], s a string. -/
theorem strH {W : World} {dst : Option Tmp} {x r : Operand} {t ty : TypeId} {pos : String} {aft : Array Edge} {xs : List UInt8} {kh : IntKind} {hi : Int}
    (ht : P.underlying t = some .string) (hx : a.eval x = .string ⟨xs.toArray⟩) (hhi : a.eval r = .int kh hi) (h0 : 0 ≤ hi) (h1 : hi ≤ xs.length)
    (h : wpList P ops Q rest (a.put dst (.string ⟨(xs.take hi.toNat).toArray⟩)) W) :
    wpList P ops Q ({ dst := dst, op := .slice t x none (some r) none, type := ty, pos := pos, after := aft, guard := none } :: rest) a W := by
  refine wpList_plain rfl fun K hK => ?_
  unfold Oper.wp execOp
  have hs : (⟨xs.toArray⟩ : ByteArray).size = xs.length := by simp [ByteArray.size]
  simp only [Option.map_some, Option.map_none, hx, hhi, run_sliceAt_string _ _ _ _ _ _ ht, Sem.run_bind, Sem.run_pure, run_slice_string_h W t _ ht kh hi h0 (by rw [hs]; exact h1)]
  simp [Result.andThen, Oper.upon]
  rw [ext_str, List.drop_zero]
  exact hK _ _ h
end

/-- A cut as an equation that a walk takes. -/
theorem Rd.runLH {α : Type} {d : Kd α} {e : TypeId} {w : World} {B : Nat} {A : Option Addr} {n c : Nat} {xs : List α} {P : Program} {t : TypeId} {z : Value} {bytes : Nat} (h : Rd d e w B (.slice A n c) xs)
    (ht : P.underlying t = some (.slice e)) (hinfo : (P.info? e).map (fun i => (i.zero, i.size, i.bytes)) = some (some z, d.sz, bytes)) (kl kh : IntKind) (lo hi : Int) (h0 : 0 ≤ lo) (h1 : lo ≤ hi) (h2 : hi ≤ xs.length) :
    ∃ v', (∀ W, (Instr.slice t (.slice A n c) (some (.int kl lo)) (some (.int kh hi)) none).run P W = .ok v' W) ∧ Rd d e w B v' ((xs.take hi.toNat).drop lo.toNat) := by
  obtain ⟨i0, hi0, hzz⟩ := Option.map_eq_some_iff.1 hinfo
  simp only [Prod.mk.injEq] at hzz
  obtain ⟨A', c', hv, hc, _⟩ := h.form
  injection hv with e1 e2 e3
  subst e1 e2 e3
  have hel : P.elem t = e := by simp [Program.elem, ht]
  have hu : P.underlying t = some (.slice (P.elem t)) := by rw [hel]; exact ht
  refine ⟨_, fun W => ?_, h.sliced lo.toNat hi.toNat (by omega) (by omega)⟩
  rw [run_slice_lh W t A _ c hu kl kh lo hi h0 h1 (by omega), hel]
  simp [sizeOf, typeInfo, hi0, hzz, Result.andThen]
theorem Rd.runL {α : Type} {d : Kd α} {e : TypeId} {w : World} {B : Nat} {A : Option Addr} {n c : Nat} {xs : List α} {P : Program} {t : TypeId} {z : Value} {bytes : Nat} (h : Rd d e w B (.slice A n c) xs)
    (ht : P.underlying t = some (.slice e)) (hinfo : (P.info? e).map (fun i => (i.zero, i.size, i.bytes)) = some (some z, d.sz, bytes)) (kl : IntKind) (lo : Int) (h0 : 0 ≤ lo) (h1 : lo ≤ xs.length) :
    ∃ v', (∀ W, (Instr.slice t (.slice A n c) (some (.int kl lo)) none none).run P W = .ok v' W) ∧ Rd d e w B v' (xs.drop lo.toNat) := by
  obtain ⟨i0, hi0, hzz⟩ := Option.map_eq_some_iff.1 hinfo
  simp only [Prod.mk.injEq] at hzz
  obtain ⟨A', c', hv, hc, _⟩ := h.form
  injection hv with e1 e2 e3
  subst e1 e2 e3
  have hel : P.elem t = e := by simp [Program.elem, ht]
  have hu : P.underlying t = some (.slice (P.elem t)) := by rw [hel]; exact ht
  have := h.sliced lo.toNat xs.length (by omega) (Nat.le_refl _)
  rw [List.take_length] at this
  refine ⟨_, fun W => ?_, this⟩
  rw [run_slice_l W t A _ c hu kl lo h0 h1, hel]
  simp [sizeOf, typeInfo, hi0, hzz, Result.andThen]
theorem Rd.runH {α : Type} {d : Kd α} {e : TypeId} {w : World} {B : Nat} {A : Option Addr} {n c : Nat} {xs : List α} {P : Program} {t : TypeId} {z : Value} {bytes : Nat} (h : Rd d e w B (.slice A n c) xs)
    (ht : P.underlying t = some (.slice e)) (hinfo : (P.info? e).map (fun i => (i.zero, i.size, i.bytes)) = some (some z, d.sz, bytes)) (kh : IntKind) (hi : Int) (h0 : 0 ≤ hi) (h1 : hi ≤ xs.length) :
    ∃ v', (∀ W, (Instr.slice t (.slice A n c) none (some (.int kh hi)) none).run P W = .ok v' W) ∧ Rd d e w B v' (xs.take hi.toNat) := by
  obtain ⟨i0, hi0, hzz⟩ := Option.map_eq_some_iff.1 hinfo
  simp only [Prod.mk.injEq] at hzz
  obtain ⟨A', c', hv, hc, _⟩ := h.form
  injection hv with e1 e2 e3
  subst e1 e2 e3
  have hel : P.elem t = e := by simp [Program.elem, ht]
  have hu : P.underlying t = some (.slice (P.elem t)) := by rw [hel]; exact ht
  refine ⟨_, fun W => ?_, h.sliced 0 hi.toNat (Nat.zero_le _) (by omega)⟩
  rw [run_slice_h W t A _ c hu kh hi h0 (by omega), hel]
  simp [sizeOf, typeInfo, hi0, hzz, Result.andThen]

/-- A store into a row of the call's own, of one cell. -/
theorem Own.set {α : Type} {d : Kd α} {e : TypeId} {w : World} {b B g n c : Nat} {xs : List α} (h : Own d e w b B (.slice (some ⟨g, 0, none⟩) n c) xs) (i : Nat) {y : α} {u : Value} (hs : d.sz = 1) (hy : d.K w B y [u]) (hE : e ∉ d.E) (hB : B ≤ b) :
    Own d e (w.setCell ⟨g, i, none⟩ u) b B (.slice (some ⟨g, 0, none⟩) n c) (xs.set i y) ∧ Wr b e w (w.setCell ⟨g, i, none⟩ u) := by
  obtain ⟨cells, ho, hr⟩ := h
  obtain ⟨_, _, hv, _⟩ := ownsRow_len ho
  injection hv with _ hn _
  subst hn
  have hst := ho.stored i u
  have hw := wr_grown ho hst.2
  have hk := hw.keep (B := B) hB hE
  refine ⟨⟨cells.set i u, by simpa using hst.1, ?_⟩, hw⟩
  exact (hr.imp (fun x c _ => d.mono hk)).set1 (fun x c h => (d.len h).trans hs) i (d.mono hk hy)

end Go.Proofs.YtpjbibcjefkcaaaGreat
