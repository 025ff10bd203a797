/- PageRoots answers true at every input, and leaves its arguments as they were. No condition. -/
import Derived.Test.YtckopikeegegkaaPageRoots
import Derived.Test.YtckopikeegegkaaOpens
namespace Go.Proofs.Ytckopikeegegkaa
open Go.ChangeShapes Go.WideShapes Go.ChangeAt Go.RowKit Go.Joins
set_option maxRecDepth 100000 in
theorem pageRoots_lifted (os : Os) (started : os.Started) (H : Type) (enc : TypeId × Value → H) :
    ReturnsInHanded {} Try.checked os 3 .any (Rows.pageRootsSpec.pre6 enc Try.prog Try.f3 Rows.pageRootsRow.domain false) (Rows.pageRootsSpec.post enc Try.prog Try.f3 false true false false) := by
  refine returnsInHanded_of_change (C := Try.checked) Try.own started (by kernel_rfl) Try.func3
    (ChangeSpec.witness6 (enc := enc) (C := Try.checked) false ⟨#[], #[.agg #[.bool false, .int .i64 0, .int .i64 0], .agg #[.bool false, .int .i64 0, .int .i64 0], .int .u8 0], []⟩ 8 (by kernel_rfl) (by kernel_rfl) (by kernel_rfl) (by kernel_rfl)) ?_
  intro W base args ds gs before hval0 hW hcnd _
  have hval : ∀ (j : Nat) t v, Try.f3.params[j]? = some t → args[j]? = some v → Value.okWide Try.prog W .any base t v := hval0
  have hW' := hW
  obtain ⟨p, q, hA0, hV, rfl, hfz, hnd⟩ := hW
  have hA : DataW.TrodAll enc Try.prog W 0 (fun _ => true) true Try.f3.params.toList args.toList ds p := hA0
  obtain ⟨rfl, rfl⟩ := trodVars_none hV
  rw [Try.params3] at hA hval
  obtain ⟨v0, v1, v2, d0, d1, d2, p0, p1, p2, rfl, rfl, rfl, h0, h1, h2⟩ := trodAll_three hA
  obtain ⟨m, rfl⟩ := open_mark (hval 0 23 v0 rfl rfl) h0
  obtain ⟨n, rfl⟩ := open_mark (hval 1 23 v1 rfl rfl) h1
  obtain ⟨k, rfl, rfl, rfl, wk⟩ := open_int Try.underlying5 (hval 2 5 v2 rfl rfl) h2
  have hk : 0 ≤ k ∧ k ≤ 255 := u8_bounds wk
  have hwalk : Calls Try.prog 3 #[.agg #[.bool m.on, .int .i64 m.epoch, .int .i64 m.page], .agg #[.bool n.on, .int .i64 n.epoch, .int .i64 n.page], .int .u8 k] W fun e W' => e = .returned (.bool true) ∧ Keeps noB W W' := by
    by_cases hp : k % 2 = 0
    · exact pageRoots_walk m n k 0 1 hk (by simpa using hp) (by decide) (by decide) W
    · exact pageRoots_walk m n k 1 0 hk (by omega) (by decide) (by decide) W
  refine hwalk.mono fun e W' ⟨he, hk⟩ => ?_
  subst he
  exact ⟨_, rfl, law_post Try.laidOut hk hW' rfl rfl Try.underlying4 rfl (by kernel_rfl)⟩
theorem pageRoots_holds : Rows.PageRootsSaid :=
  OpenClaim.holds_of_wide 3 Try.f3 rfl rfl rfl rfl rfl rfl rfl ⟨rfl, rfl, rfl, rfl, rfl⟩ rfl rfl rfl rfl rfl (by kernel_rfl) Try.func3 (by kernel_rfl)
    (of_decide_eq_true (by kernel_rfl)) (by unfold Func.isWrapper; first | (rw [if_pos (by decide +kernel)]; kernel_rfl) | (rw [if_neg (by decide +kernel)]; exact ⟨rfl, rfl⟩))
    (fun os started H enc _ => pageRoots_lifted os started H enc)
#print axioms pageRoots_holds
end Go.Proofs.Ytckopikeegegkaa
