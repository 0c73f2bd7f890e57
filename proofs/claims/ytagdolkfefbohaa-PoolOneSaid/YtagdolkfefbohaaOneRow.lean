/- PROVED: 'stevedorelaw17.PoolOne' returns true at every input, and each argument reads behind the call as it read before. No condition. -/
import Derived.Test.YtagdolkfefbohaaRows
import Derived.Test.YtagdolkfefbohaaOne2
import Derived.Test.YtagdolkfefbohaaOpen2
namespace Go.Proofs.Ytagdolkfefbohaa
open Go.ChangeShapes Go.WideShapes Go.ChangeAt Go.RowKit Stv

theorem One.own : ownKnob Try.prog.godebug = none := by kernel_rfl
theorem One.laidOut : laidOutB Try.prog = true := by kernel_rfl

set_option maxRecDepth 100000 in
theorem one_lifted (os : Os) (started : os.Started) (H : Type) (enc : TypeId × Value → H) :
    ReturnsInHanded {} Try.checked os 5 .any (Rows.poolOneSpec.pre6 enc Try.prog Try.f5 Rows.poolOneRow.domain false) (Rows.poolOneSpec.post enc Try.prog Try.f5 false true false false) := by
  refine returnsInHanded_of_change_sized (C := Try.checked) One.own started (by kernel_rfl) Try.func5
    (ChangeSpec.witness6 (enc := enc) (C := Try.checked) false ⟨#[], #[.int .u8 0, .slice none 0 0], []⟩ 8 (by kernel_rfl) (by kernel_rfl) (by kernel_rfl) (by kernel_rfl)) ?_
  intro W base args ds gs before hval0 hW hcnd hsz0 _
  have hval : ∀ (j : Nat) t v, Try.f5.params[j]? = some t → args[j]? = some v → Value.okWide Try.prog W .any base t v := hval0
  have hW' := hW
  obtain ⟨p, q, hA0, hV, rfl, hfz, hnd⟩ := hW
  have hA : DataW.TrodAll enc Try.prog W 0 (fun _ => true) true Try.f5.params.toList args.toList ds p := hA0
  have hsz : (DataW.weightsEach Try.prog (Try.f5.params.toList ++ Rows.poolOneSpec.plain.varTypes Try.prog) (ds ++ gs)).all (· ≤ reachBytes) = true := hsz0
  rw [Try.params5] at hA hval hsz
  obtain ⟨v0, vs0, d0, ds0, p0, q0, hargs, rfl, rfl, h0, r0⟩ := trodAll_cons hA
  obtain ⟨v3, vs3, d3, ds3, p3, q3, rfl, rfl, rfl, h3, r3⟩ := trodAll_cons r0
  obtain ⟨rfl, rfl, rfl⟩ := trodAll_nil r3
  obtain rfl : args = #[v0, v3] := by cases args; simp_all
  obtain ⟨rfl, rfl⟩ := trodVars_none hV
  obtain ⟨a0, len0, cap0, rfl⟩ := okWide_slice Try.underlying22 (hval 1 22 v3 rfl rfl)
  have lt0 : ∀ x ∈ p3, x.block < W.heap.size := by obtain ⟨m, hm⟩ := h3; exact DataW.trod_lt m _ _ _ hm
  have w3 : InReach Try.prog 22 d3 := InReach.of_each hsz (j := 1) rfl rfl
  obtain ⟨n, rfl, rfl, rfl, wn⟩ := open_int Try.underlying5 (hval 0 5 v0 rfl rfl) h0
  obtain ⟨l, hl, hl2, hl3⟩ : ∃ l, ScriptAt W (.slice a0 len0 cap0) l ∧ l.length ≤ 9223372036854775807 ∧ ∀ x ∈ l, x.who.size ≤ maxLen ∧ x.to.size ≤ maxLen := by
    obtain ⟨fuel, hf⟩ := h3
    exact script_of2 (by simpa [Value.cells] using hf) w3
  clear hA0 hval0 hsz0
  have hn8 : 0 ≤ n ∧ n ≤ 255 := by
    have h1 : IntKind.u8.min ≤ n ∧ n ≤ IntKind.u8.max := by simpa [Lit.wf] using wn
    have e1 : IntKind.u8.min = 0 := by decide
    have e2 : IntKind.u8.max = 255 := by decide
    omega
  refine (one_any hl hl2 hl3 n hn8.1 hn8.2).mono fun e W' ⟨he, hg⟩ => ?_
  have bel : Below W.heap.size W W' := hg.below (Nat.le_refl _) fun _ h => h.elim
  subst he
  exact ⟨_, rfl, _, _, _, [], _, [], hW', trodAll_mk1 (shut_bool Try.underlying4 _), (trodAll_cons_mk (shut_int Try.underlying5 wn)
    (trodAll_cons_mk (Below.trod One.laidOut (by kernel_rfl) (of_decide_eq_true (by kernel_rfl)) h3 bel lt0) trodAll_mk0)), rfl, bel.frame _, fun h => by cases h⟩

theorem PoolOne_holds : Rows.PoolOneSaid :=
  OpenClaim.holds_of_wide 5 Try.f5 rfl rfl rfl rfl rfl rfl rfl ⟨rfl, rfl, rfl, rfl, rfl⟩ rfl rfl rfl rfl rfl (by kernel_rfl) Try.func5 (by kernel_rfl)
    (of_decide_eq_true (by kernel_rfl)) (by unfold Func.isWrapper; first | (rw [if_pos (by decide +kernel)]; kernel_rfl) | (rw [if_neg (by decide +kernel)]; exact ⟨rfl, rfl⟩))
    (fun os started H enc _ => one_lifted os started H enc)

#print axioms PoolOne_holds
end Go.Proofs.Ytagdolkfefbohaa
