/- a range over a map, inside a fence. -/
import Derived.Test.YtnpfbdekomhonaaBase5
import Derived.Sort.MapsRangeIn
namespace Stv
open Go Go.RowKit
section
variable {P : Program} {kt : TypeId} {κ : Type} (C : KeyC P kt κ) {F : Fence} {n : Nat}
theorem wpListIn_mrange (w : World) {ops : Array Oper} {rest : List Oper} {o : Oper} {a : Act} {Q : Exit → Act → World → Prop}
    (hg : o.guard = none) (m : Operand) (t : TypeId) (hop : o.op = Op.range t m) (e : TypeId) (ht : P.underlying t = some (.map kt e)) (b : Nat) (l : List (κ × Value))
    (hm : a.eval m = .map (some b)) (h : MapIs C w b l)
    (hK : ∀ x : Obj, Ranging C (w.alloc x) b w.heap.size l [] → wpListIn F n P ops Q rest (a.put o.dst (.pointer (some ⟨w.heap.size, 0, none⟩))) (w.alloc x)) :
    wpListIn F n P ops Q (o :: rest) a w := by
  refine wpListIn_plain hg fun K' hK' => ?_
  obtain ⟨x, hrun, hr⟩ := Ranging.start h ht
  unfold Oper.wpIn
  refine ⟨?_, ?_⟩
  · simp [Oper.about, hop]
  · rw [Oper.semAt_plain F _ _ (by rw [hop]; intro c hc'; cases hc')]
    simp [execOp, hop, hm, hrun, Result.andThen]
    exact hK' _ _ (hK x hr)

theorem wpListIn_mnext (w : World) {ops : Array Oper} {rest : List Oper} {o : Oper} {a : Act} {Q : Exit → Act → World → Prop}
    (hg : o.guard = none) (it : Operand) (hop : o.op = Op.next it false) (b r : Nat) (l : List (κ × Value)) (done : List κ)
    (hit : a.eval it = .pointer (some ⟨r, 0, none⟩)) (h : Ranging C w b r l done)
    (hDone : (∀ p ∈ l, p.1 ∈ done) → wpListIn F n P ops Q rest (a.put o.dst (.tuple #[.bool false])) w)
    (hMore : ∀ (k : κ) (v : Value) (w' : World), (k, v) ∈ l → k ∉ done → Ranging C w' b r l (done ++ [k]) → Off (fun i => i = r) w w' → w'.heap.size = w.heap.size →
      (Instr.entry (.pointer (some ⟨r, 0, none⟩))).run P w' = .ok (.tuple #[C.enc k, v]) w' → wpListIn F n P ops Q rest (a.put o.dst (.tuple #[.bool true, C.enc k, v])) w') :
    wpListIn F n P ops Q (o :: rest) a w := by
  refine wpListIn_plain hg fun K' hK' => ?_
  unfold Oper.wpIn
  refine ⟨?_, ?_⟩
  · simp [Oper.about, hop]
  · rw [Oper.semAt_plain F _ _ (by rw [hop]; intro c hc'; cases hc')]
    rcases h.next o.type with ⟨h0, hrun⟩ | ⟨k, v, w', h1, h2, hrun, h3, h4, h5, h6⟩
    · simp [execOp, hop, hit, hrun, Result.andThen]
      exact hK' _ _ (hDone h0)
    · simp [execOp, hop, hit, hrun, Result.andThen]
      exact hK' _ _ (hMore k v w' h1 h2 h3 h4 h5 h6)
end
end Stv
