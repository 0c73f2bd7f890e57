/- 'PoolOne': facts for its loops. -/
import Derived.Test.YtagdolkfefbohaaOne1
namespace Go.Proofs.Ytagdolkfefbohaa
open Go.RowKit Stv

theorem vheld_at {V : List Buf} {h : ByteArray} {j : Nat} (hj : j < (vheld V h).length) : ∃ b, vget V (vheld V h)[j] = some b ∧ b.holder = h ∧ b.id = (vheld V h)[j] := by
  obtain ⟨x, hx, hh⟩ := mem_vheld.1 (List.getElem_mem hj)
  exact ⟨x, hx, hh, (vget_mem hx).2⟩

/-- the number at j is not seen yet -/
theorem new_at {V : List Buf} (hu : (V.map (·.id)).Nodup) {d : List ByteArray} {h : ByteArray} (hd : h ∉ d) {j : Nat} (hj : j < (vheld V h).length) : (vheld V h)[j] ∉ helds V d ++ (vheld V h).take j := by
  intro hm
  rcases List.mem_append.1 hm with hm | hm
  · obtain ⟨g, hg, hi⟩ := mem_helds.1 hm
    have := vheld_apart hi (List.getElem_mem hj)
    subst this
    exact hd hg
  · obtain ⟨i, hi, he⟩ := List.mem_iff_getElem.1 hm
    rw [List.getElem_take] at he
    simp at hi
    have := List.pairwise_iff_getElem.1 (vheld_asc hu h) i j (by omega) hj (by omega)
    omega

theorem asc_at {V : List Buf} (hu : (V.map (·.id)).Nodup) {h : ByteArray} {i j : Nat} (hij : i < j) (hj : j < (vheld V h).length) : (vheld V h)[i]'(by omega) < (vheld V h)[j] :=
  List.pairwise_iff_getElem.1 (vheld_asc hu h) i j (by omega) hj hij

theorem helds_snoc (V : List Buf) (d : List ByteArray) (h : ByteArray) : helds V (d ++ [h]) = helds V d ++ vheld V h := by simp [helds]

theorem helds_le {V : List Buf} (hu : (V.map (·.id)).Nodup) {d : List ByteArray} (hd : d.Nodup) : (helds V d).length ≤ V.length := by
  have := nodup_len (helds V d) (V.map (·.id)) (helds_nodup hu hd) fun i hi => by
    obtain ⟨h, _, hi⟩ := mem_helds.1 hi
    obtain ⟨x, hx, _⟩ := mem_vheld.1 hi
    obtain ⟨hm, he⟩ := vget_mem hx
    exact List.mem_map.2 ⟨x, hm, he⟩
  simpa using this

theorem onesS_mem {W : List ByteArray} {k : ByteArray} {v : Value} (h : (k, v) ∈ onesS W) : k ∈ W := by
  obtain ⟨x, hx, e⟩ := List.mem_map.1 h
  cases e; exact hx

theorem onesS_all {W d : List ByteArray} (h : ∀ p ∈ onesS W, p.1 ∈ d) : ∀ k ∈ W, k ∈ d := fun k hk => h (k, .int .i64 1) (List.mem_map.2 ⟨k, hk, rfl⟩)

end Go.Proofs.Ytagdolkfefbohaa
