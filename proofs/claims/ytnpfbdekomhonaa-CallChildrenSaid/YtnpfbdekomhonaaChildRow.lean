/- PROVED: 'stevedorelaw29.CallChildren' returns true at every input, and each argument reads behind the call as it read before. No condition. -/
import Derived.Test.YtnpfbdekomhonaaRows
import Derived.Test.YtnpfbdekomhonaaChild2
import Derived.Test.YtnpfbdekomhonaaBase3
import Derived.Lib.SmallJoins
namespace Go.Proofs.Ytnpfbdekomhonaa
open Go.ChangeShapes Go.WideShapes Go.ChangeAt Go.RowKit Stv Go.Joins

theorem Child.own : ownKnob Try.prog.godebug = none := by kernel_rfl
theorem Child.laidOut : laidOutB Try.prog = true := by kernel_rfl

set_option maxRecDepth 100000 in
theorem children_lifted (os : Os) (started : os.Started) (H : Type) (enc : TypeId × Value → H) :
    ReturnsInHanded {} Try.checked os 3 .any (Rows.callChildrenSpec.pre6 enc Try.prog Try.f3 Rows.callChildrenRow.domain false) (Rows.callChildrenSpec.post enc Try.prog Try.f3 false true false false) := by
  refine returnsInHanded_of_change_sized (C := Try.checked) Child.own started (by kernel_rfl) Try.func3
    (ChangeSpec.witness6 (enc := enc) (C := Try.checked) false ⟨#[], #[.agg #[.int .u32 0, .int .u16 0], .int .u8 0], []⟩ 8 (by kernel_rfl) (by kernel_rfl) (by kernel_rfl) (by kernel_rfl)) ?_
  intro W base args ds gs before hval0 hW hcnd hsz0 _
  have hval : ∀ (j : Nat) t v, Try.f3.params[j]? = some t → args[j]? = some v → Value.okWide Try.prog W .any base t v := hval0
  have hW' := hW
  obtain ⟨p, q, hA0, hV, rfl, hfz, hnd⟩ := hW
  have hA : DataW.TrodAll enc Try.prog W 0 (fun _ => true) true Try.f3.params.toList args.toList ds p := hA0
  rw [Try.params3] at hA hval
  obtain ⟨v0, vs0, d0, ds0, p0, q0, hargs, rfl, rfl, h0, r0⟩ := trodAll_cons hA
  obtain ⟨v3, vs3, d3, ds3, p3, q3, rfl, rfl, rfl, h3, r3⟩ := trodAll_cons r0
  obtain ⟨rfl, rfl, rfl⟩ := trodAll_nil r3
  obtain rfl : args = #[v0, v3] := by cases args; simp_all
  obtain ⟨rfl, rfl⟩ := trodVars_none hV
  have lt0 : ∀ x ∈ p0, x.block < W.heap.size := by obtain ⟨m, hm⟩ := h0; exact DataW.trod_lt m _ _ _ hm
  obtain ⟨c0, c1, y0, y1, n0, rfl, _, _, hy0, hy1⟩ := open_agg2 Try.underlying25 (by kernel_rfl) (by kernel_rfl) (hval 0 25 v0 rfl rfl) h0
  obtain ⟨ip, hip, _⟩ := DataW.trod_int Try.underlying22 hy0
  obtain ⟨port, hport, _⟩ := DataW.trod_int Try.underlying23 hy1
  obtain rfl : c0 = .int .u32 ip := by simpa using hip
  obtain rfl : c1 = .int .u16 port := by simpa using hport
  obtain ⟨n, rfl, rfl, rfl, wn⟩ := open_int Try.underlying5 (hval 1 5 v3 rfl rfl) h3
  clear hA0 hval0 hsz0
  have hn8 : 0 ≤ n ∧ n ≤ 255 := by
    have h1 : IntKind.u8.min ≤ n ∧ n ≤ IntKind.u8.max := by simpa [Lit.wf] using wn
    have e1 : IntKind.u8.min = 0 := by decide
    have e2 : IntKind.u8.max = 255 := by decide
    omega
  refine (children_any W ip port n hn8.1 hn8.2).mono fun e W' ⟨he, hg⟩ => ?_
  have bel : Below W.heap.size W W' := hg.below (Nat.le_refl _) fun _ h => h.elim
  subst he
  exact ⟨_, rfl, _, _, _, [], _, [], hW', trodAll_mk1 (shut_bool Try.underlying4 _), (trodAll_cons_mk (Below.trod Child.laidOut (by kernel_rfl) (of_decide_eq_true (by kernel_rfl)) h0 bel lt0)
    (trodAll_cons_mk (shut_int Try.underlying5 wn) trodAll_mk0)), rfl, bel.frame _, fun h => by cases h⟩

theorem CallChildren_holds : Rows.CallChildrenSaid :=
  OpenClaim.holds_of_wide 3 Try.f3 rfl rfl rfl rfl rfl rfl rfl ⟨rfl, rfl, rfl, rfl, rfl⟩ rfl rfl rfl rfl rfl (by kernel_rfl) Try.func3 (by kernel_rfl)
    (of_decide_eq_true (by kernel_rfl)) (by unfold Func.isWrapper; first | (rw [if_pos (by decide +kernel)]; kernel_rfl) | (rw [if_neg (by decide +kernel)]; exact ⟨rfl, rfl⟩))
    (fun os started H enc _ => children_lifted os started H enc)

#print axioms CallChildren_holds
end Go.Proofs.Ytnpfbdekomhonaa
