/- PageTorn answers true at every input, and leaves its arguments as they were. No condition. -/
import Derived.Test.YtckopikeegegkaaPageTorn
import Derived.Test.YtckopikeegegkaaOpens2
namespace Go.Proofs.Ytckopikeegegkaa
open Go.ChangeShapes Go.WideShapes Go.ChangeAt Go.RowKit Go.Joins
set_option maxRecDepth 100000 in
theorem pageTorn_lifted (os : Os) (started : os.Started) (H : Type) (enc : TypeId × Value → H) :
    ReturnsInHanded {} Try.checked os 12 .any (Rows.pageTornSpec.pre6 enc Try.prog Try.f12 Rows.pageTornRow.domain false) (Rows.pageTornSpec.post enc Try.prog Try.f12 false true false false) := by
  refine returnsInHanded_of_change (C := Try.checked) Try.own started (by kernel_rfl) Try.func12
    (ChangeSpec.witness6 (enc := enc) (C := Try.checked) false ⟨#[], #[.agg #[.bool false, .int .i64 0, .int .i64 0], .agg #[.bool false, .int .i64 0, .int .i64 0], .agg #[.bool false, .int .i64 0, .int .i64 0], .int .u8 0, .slice none 0 0, .int .i64 0, .int .i64 0], []⟩ 8 (by kernel_rfl) (by kernel_rfl) (by kernel_rfl) (by kernel_rfl)) ?_
  intro W base args ds gs before hval0 hW hcnd _
  have hval : ∀ (j : Nat) t v, Try.f12.params[j]? = some t → args[j]? = some v → Value.okWide Try.prog W .any base t v := hval0
  have hW' := hW
  obtain ⟨p, q, hA0, hV, rfl, hfz, hnd⟩ := hW
  have hA : DataW.TrodAll enc Try.prog W 0 (fun _ => true) true Try.f12.params.toList args.toList ds p := hA0
  obtain ⟨rfl, rfl⟩ := trodVars_none hV
  rw [Try.params12] at hA hval
  obtain ⟨v0, vs, d0, ds0, p0, q0, ea, rfl, rfl, h0, hA⟩ := trodAll_cons hA
  obtain ⟨v1, vs, d1, ds1, p1, q1, rfl, rfl, rfl, h1, hA⟩ := trodAll_cons hA
  obtain ⟨v2, vs, d2, ds2, p2, q2, rfl, rfl, rfl, h2, hA⟩ := trodAll_cons hA
  obtain ⟨v3, vs, d3, ds3, p3, q3, rfl, rfl, rfl, h3, hA⟩ := trodAll_cons hA
  obtain ⟨v4, vs, d4, ds4, p4, q4, rfl, rfl, rfl, h4, hA⟩ := trodAll_cons hA
  obtain ⟨v5, vs, d5, ds5, p5, q5, rfl, rfl, rfl, h5, hA⟩ := trodAll_cons hA
  obtain ⟨v6, vs, d6, ds6, p6, q6, rfl, rfl, rfl, h6, hA⟩ := trodAll_cons hA
  obtain ⟨rfl, rfl, rfl⟩ := trodAll_nil hA
  obtain rfl : args = #[v0, v1, v2, v3, v4, v5, v6] := by cases args; simpa using ea
  obtain ⟨m, rfl⟩ := open_mark (hval 0 23 v0 rfl rfl) h0
  obtain ⟨n, rfl⟩ := open_mark (hval 1 23 v1 rfl rfl) h1
  obtain ⟨o, rfl⟩ := open_mark (hval 2 23 v2 rfl rfl) h2
  obtain ⟨k, rfl, rfl, rfl, wk⟩ := open_int Try.underlying5 (hval 3 5 v3 rfl rfl) h3
  obtain ⟨keep, hkeep, hkl⟩ := open_boolsAt (hval 4 40 v4 rfl rfl) h4
  obtain ⟨torn, rfl, rfl, rfl, wt⟩ := open_int Try.underlying3 (hval 5 3 v5 rfl rfl) h5
  obtain ⟨cut, rfl, rfl, rfl, wc⟩ := open_int Try.underlying3 (hval 6 3 v6 rfl rfl) h6
  have hk : 0 ≤ k ∧ k ≤ 255 := u8_bounds wk
  have hwalk : Calls Try.prog 12 #[.agg (mkCells m).toArray, .agg (mkCells n).toArray, .agg (mkCells o).toArray, .int .u8 k, v4, .int .i64 torn, .int .i64 cut] W fun e W' => e = .returned (.bool true) ∧ Keeps noB W W' := by
    by_cases hp : k % 2 = 0
    · exact pageTorn_walk m n o k 0 1 hk (by simpa using hp) (by decide) (by decide) v4 keep torn cut W hkeep
    · exact pageTorn_walk m n o k 1 0 hk (by omega) (by decide) (by decide) v4 keep torn cut W hkeep
  refine hwalk.mono fun e W' ⟨he, hk⟩ => ?_
  subst he
  exact ⟨_, rfl, law_post Try.laidOut hk hW' rfl rfl Try.underlying4 rfl (by kernel_rfl)⟩
theorem pageTorn_holds : Rows.PageTornSaid :=
  OpenClaim.holds_of_wide 12 Try.f12 rfl rfl rfl rfl rfl rfl rfl ⟨rfl, rfl, rfl, rfl, rfl⟩ rfl rfl rfl rfl rfl (by kernel_rfl) Try.func12 (by kernel_rfl)
    (of_decide_eq_true (by kernel_rfl)) (by unfold Func.isWrapper; first | (rw [if_pos (by decide +kernel)]; kernel_rfl) | (rw [if_neg (by decide +kernel)]; exact ⟨rfl, rfl⟩))
    (fun os started H enc _ => pageTorn_lifted os started H enc)
#print axioms pageTorn_holds
end Go.Proofs.Ytckopikeegegkaa
