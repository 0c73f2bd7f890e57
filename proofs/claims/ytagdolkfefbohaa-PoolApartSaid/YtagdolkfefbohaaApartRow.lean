/- PROVED: 'stevedorelaw17.PoolApart' returns true at every input, and each argument reads behind the call as it read before. No condition. -/
import Derived.Test.YtagdolkfefbohaaRows
import Derived.Test.YtagdolkfefbohaaApart
import Derived.Test.YtagdolkfefbohaaOpen
namespace Go.Proofs.Ytagdolkfefbohaa
open Go.ChangeShapes Go.WideShapes Go.ChangeAt Go.RowKit Stv
open Go.ChangeMaps (open_string shut_string)

theorem Try.own : ownKnob Try.prog.godebug = none := by kernel_rfl
theorem Try.laidOut : laidOutB Try.prog = true := by kernel_rfl

theorem grew_below {w w' : World} (h : Grew w w') : Below w.heap.size w w' := h.below (Nat.le_refl _) fun _ h => h.elim

set_option maxRecDepth 100000 in
theorem apart_lifted (os : Os) (started : os.Started) (H : Type) (enc : TypeId × Value → H) :
    ReturnsInHanded {} Try.checked os 4 .any (Rows.poolApartSpec.pre6 enc Try.prog Try.f4 Rows.poolApartRow.domain false) (Rows.poolApartSpec.post enc Try.prog Try.f4 false true false false) := by
  refine returnsInHanded_of_change_sized (C := Try.checked) Try.own started (by kernel_rfl) Try.func4
    (ChangeSpec.witness6 (enc := enc) (C := Try.checked) false ⟨#[], #[.string ⟨#[]⟩, .string ⟨#[]⟩, .string ⟨#[]⟩, .slice none 0 0], []⟩ 8 (by kernel_rfl) (by kernel_rfl) (by kernel_rfl) (by kernel_rfl)) ?_
  intro W base args ds gs before hval0 hW hcnd hsz0 _
  have hval : ∀ (j : Nat) t v, Try.f4.params[j]? = some t → args[j]? = some v → Value.okWide Try.prog W .any base t v := hval0
  have hW' := hW
  obtain ⟨p, q, hA0, hV, rfl, hfz, hnd⟩ := hW
  have hA : DataW.TrodAll enc Try.prog W 0 (fun _ => true) true Try.f4.params.toList args.toList ds p := hA0
  have hsz : (DataW.weightsEach Try.prog (Try.f4.params.toList ++ Rows.poolApartSpec.plain.varTypes Try.prog) (ds ++ gs)).all (· ≤ reachBytes) = true := hsz0
  rw [Try.params4] at hA hval hsz
  obtain ⟨v0, vs0, d0, ds0, p0, q0, hargs, rfl, rfl, h0, r0⟩ := trodAll_cons hA
  obtain ⟨v1, vs1, d1, ds1, p1, q1, rfl, rfl, rfl, h1, r1⟩ := trodAll_cons r0
  obtain ⟨v2, vs2, d2, ds2, p2, q2, rfl, rfl, rfl, h2, r2⟩ := trodAll_cons r1
  obtain ⟨v3, vs3, d3, ds3, p3, q3, rfl, rfl, rfl, h3, r3⟩ := trodAll_cons r2
  obtain ⟨rfl, rfl, rfl⟩ := trodAll_nil r3
  obtain rfl : args = #[v0, v1, v2, v3] := by cases args; simp_all
  obtain ⟨rfl, rfl⟩ := trodVars_none hV
  obtain ⟨a0, len0, cap0, rfl⟩ := okWide_slice Try.underlying22 (hval 3 22 v3 rfl rfl)
  have lt0 : ∀ x ∈ p3, x.block < W.heap.size := by obtain ⟨m, hm⟩ := h3; exact DataW.trod_lt m _ _ _ hm
  have w0 : InReach Try.prog 9 d0 := InReach.of_each hsz (j := 0) rfl rfl
  have w1 : InReach Try.prog 9 d1 := InReach.of_each hsz (j := 1) rfl rfl
  have w2 : InReach Try.prog 9 d2 := InReach.of_each hsz (j := 2) rfl rfl
  have w3 : InReach Try.prog 22 d3 := InReach.of_each hsz (j := 3) rfl rfl
  obtain ⟨s0, rfl, rfl, rfl, x0⟩ := open_string Try.underlying9 (hval 0 9 v0 rfl rfl) h0
  obtain ⟨s1, rfl, rfl, rfl, x1⟩ := open_string Try.underlying9 (hval 1 9 v1 rfl rfl) h1
  obtain ⟨s2, rfl, rfl, rfl, x2⟩ := open_string Try.underlying9 (hval 2 9 v2 rfl rfl) h2
  have e : reachBytes ≤ 140737488355328 := by decide
  have y0 : s0.size ≤ reachBytes := by simpa using w0 s0.data.toList.length (by simp [DataW.weights])
  have y1 : s1.size ≤ reachBytes := by simpa using w1 s1.data.toList.length (by simp [DataW.weights])
  have y2 : s2.size ≤ reachBytes := by simpa using w2 s2.data.toList.length (by simp [DataW.weights])
  obtain ⟨l, hl, hl2⟩ : ∃ l, ScriptAt W (.slice a0 len0 cap0) l ∧ l.length ≤ 9223372036854775807 := by
    obtain ⟨fuel, hf⟩ := h3
    exact script_of (by simpa [Value.cells] using hf) w3
  clear hA0 hval0 hsz0
  refine (apart_any hl hl2 s0 s1 s2 (by omega) (by omega) (by omega)).mono fun e W' ⟨he, hg⟩ => ?_
  have bel := grew_below hg
  subst he
  exact ⟨_, rfl, _, _, _, [], _, [], hW', trodAll_mk1 (shut_bool Try.underlying4 _), (trodAll_cons_mk (shut_string Try.underlying9 x0) (trodAll_cons_mk (shut_string Try.underlying9 x1) (trodAll_cons_mk (shut_string Try.underlying9 x2)
    (trodAll_cons_mk (Below.trod Try.laidOut (by kernel_rfl) (of_decide_eq_true (by kernel_rfl)) h3 bel lt0) trodAll_mk0)))), rfl, bel.frame _, fun h => by cases h⟩

theorem PoolApart_holds : Rows.PoolApartSaid :=
  OpenClaim.holds_of_wide 4 Try.f4 rfl rfl rfl rfl rfl rfl rfl ⟨rfl, rfl, rfl, rfl, rfl⟩ rfl rfl rfl rfl rfl (by kernel_rfl) Try.func4 (by kernel_rfl)
    (of_decide_eq_true (by kernel_rfl)) (by unfold Func.isWrapper; first | (rw [if_pos (by decide +kernel)]; kernel_rfl) | (rw [if_neg (by decide +kernel)]; exact ⟨rfl, rfl⟩))
    (fun os started H enc _ => apart_lifted os started H enc)

#print axioms PoolApart_holds
end Go.Proofs.Ytagdolkfefbohaa
