/- ChunkOpens: for every input of bulk at most 1048576 the law returns true, and its input reads as it did. Conditions: the bound on the bulk alone. -/
import Derived.Test.YtpjbibcjefkcaaaGreatArgs
import Derived.Test.YtpjbibcjefkcaaaGreatXf
namespace Go.Proofs.YtpjbibcjefkcaaaGreat
open Go.ChangeShapes Go.WideShapes Go.ChangeAt Go.RowKit
set_option linter.unusedVariables false
namespace chunkOpens
theorem own : ownKnob Tryz.prog.godebug = none := by kernel_rfl
theorem laid : laidOutB Tryz.prog = true := by kernel_rfl
theorem pars : ∀ t ∈ Tryz.f6.params.toList, Tryz.prog.readableRec t = true ∧ t < Tryz.prog.types.size := by
  rw [Tryz.params6]
  intro t ht
  simp only [List.mem_cons, List.not_mem_nil, or_false] at ht
  subst ht; exact ⟨by kernel_rfl, of_decide_eq_true (by kernel_rfl)⟩
set_option maxRecDepth 100000 in
theorem lifted (os : Os) (started : os.Started) (H : Type) (enc : TypeId × Value → H) (F : Stop.Interp) :
    ReturnsInHanded {} Tryz.checked os 6 .any ((Rows.OpenSpec.upto Rows.chunkOpensSpec).pre6 enc Tryz.prog Tryz.f6 Rows.chunkOpensUptoRow.domain false) (((Rows.OpenSpec.upto Rows.chunkOpensSpec).at F).post enc Tryz.prog Tryz.f6 false true false false) := by
  refine returnsInHanded_of_cond (C := Tryz.checked) (s := Rows.OpenSpec.upto Rows.chunkOpensSpec) (k := Rows.uptoSmall) rfl own started (by kernel_rfl) Tryz.func6
    (OpenSpec.witness (enc := enc) (C := Tryz.checked) (s := Rows.OpenSpec.upto Rows.chunkOpensSpec) (k := Rows.uptoSmall) rfl false ⟨#[], #[.slice none 0 0], []⟩ 8 (by kernel_rfl) (by kernel_rfl) (by kernel_rfl)
      (x := ([.nil], [], [])) (by kernel_rfl) rfl (by kernel_rfl)) ?_
  intro W base args ds gs before hval hW _ hk _
  have hW0 := hW
  obtain ⟨p, q, hA0, hV, rfl, hfz, hnd⟩ := hW
  have hA : DataW.TrodAll enc Tryz.prog W 0 (fun _ => true) true Tryz.f6.params.toList args.toList ds p := hA0
  have hval' : ∀ (j : Nat) t v, Tryz.f6.params[j]? = some t → args[j]? = some v → Value.okWide Tryz.prog W .any base t v := hval
  rw [Tryz.params6] at hA hval'
  have hbulk : Rows.uptoBulkAll (ds ++ gs) ≤ 1048576 := of_decide_eq_true hk
  obtain ⟨v0, vs0, d0, ds0, p0, q0, hargs0, rfl, rfl, h0, r0⟩ := trodAll_cons hA
  obtain ⟨hvn, rfl, rfl⟩ := trodAll_nil r0
  obtain rfl : args = #[v0] := by
    apply Array.toList_inj.1
    rw [hargs0, hvn]
  obtain ⟨rfl, rfl⟩ := trodVars_none hV
  simp only [Rows.uptoBulkAll, List.append_nil] at hbulk
  clear hval
  have hval := hval'
  obtain ⟨x0, hx0, hs0⟩ := arg_slice Tryz.underlying36 (opn_sl Tryz.underlying36 (by kernel_rfl) (by decide) (opn_byte Tryz.underlying5)) (hval 0 36 v0 rfl rfl) h0 (by omega)
  have hcon : Calls Tryz.prog 6 #[v0] W fun e W' => e = .returned (.bool true) ∧ Below W.heap.size W W' := opens_ok W _ _ x0 hx0
  refine hcon.mono fun e W' ⟨he, hb⟩ => ⟨_, he, ?_⟩
  exact law_post laid pars Tryz.underlying4 rfl rfl rfl hW0 hb
set_option maxRecDepth 100000 in
set_option maxHeartbeats 4000000 in
theorem closed : joinedFacts Tryz.prog 6 Tryz.f6 (Rows.OpenSpec.upto Rows.chunkOpensSpec).bare Rows.chunkOpensUptoRow = true := by
  unfold joinedFacts
  simp only [Bool.and_eq_true]
  repeat' apply And.intro
  all_goals (as_aux_lemma => kernel_rfl)
theorem named : Tryz.prog.funcNamed Rows.chunkOpensUptoRow.func = some 6 := by kernel_rfl
theorem wrapped : Tryz.f6.isWrapper Tryz.prog Rows.chunkOpensUptoRow.wrapper Rows.chunkOpensUptoRow.mainSum := by
  unfold Func.isWrapper; rw [if_neg (by decide +kernel)]; exact ⟨rfl, rfl⟩
theorem inst : Tryz.f6.isInstance Tryz.prog Rows.chunkOpensUptoRow.origin Rows.chunkOpensUptoRow.targs := of_decide_eq_true (by kernel_rfl)
theorem holds : Rows.ChunkOpensUptoSaid :=
  OpenClaim.holds_of_cond 6 Tryz.f6 rfl rfl rfl rfl rfl rfl rfl ⟨rfl, rfl, rfl, rfl, rfl⟩ rfl rfl rfl rfl rfl named Tryz.func6 closed inst wrapped
    (fun os started H enc _ F => lifted os started H enc F)
end chunkOpens
theorem chunkOpens_holds : Rows.ChunkOpensUptoSaid := chunkOpens.holds
end Go.Proofs.YtpjbibcjefkcaaaGreat
