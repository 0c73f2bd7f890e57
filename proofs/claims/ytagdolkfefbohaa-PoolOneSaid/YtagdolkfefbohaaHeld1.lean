/- Whose buffers: the numbers, ascending; no program in sight. -/
import Derived.Test.YtagdolkfefbohaaPoolV
import Derived.Test.YtagdolkfefbohaaKey3
namespace Go.Proofs.Ytagdolkfefbohaa
open Go.RowKit Stv

/-- does that buffer have that holder? -/
def vhas (V : List Buf) (h : ByteArray) (i : Int) : Bool := match vget V i with
  | some x => decide (x.holder = h)
  | none => false
def vheld (V : List Buf) (h : ByteArray) : List Int := (sorted (V.map (·.id))).filter (vhas V h)

theorem sorted_perm (l : List Int) : (sorted l).Perm l := List.mergeSort_perm l _
theorem sorted_pair (l : List Int) : (sorted l).Pairwise (· ≤ ·) := by
  have tr : ∀ a b c : Int, (!ltI b a) = true → (!ltI c b) = true → (!ltI c a) = true := fun a b c => by simp [ltI]; omega
  have tot : ∀ a b : Int, ((!ltI b a) || (!ltI a b)) = true := fun a b => by simp [ltI]; omega
  exact (List.pairwise_mergeSort tr tot l).imp fun h => by simp [ltI] at h; omega
theorem sorted_asc {l : List Int} (h : l.Nodup) : (sorted l).Pairwise (· < ·) := by
  have h1 := sorted_pair l
  have h2 : (sorted l).Nodup := (sorted_perm l).symm.nodup h
  exact (h1.and h2).imp fun ⟨a, b⟩ => by omega
theorem sorted_len (l : List Int) : (sorted l).length = l.length := (sorted_perm l).length_eq

theorem vget_of_mem {V : List Buf} (hu : (V.map (·.id)).Nodup) {x : Buf} (hx : x ∈ V) : vget V x.id = some x := by
  induction V with
  | nil => cases hx
  | cons e r ih =>
    simp only [List.map_cons, List.nodup_cons] at hu
    simp only [vget]
    rcases List.mem_cons.1 hx with rfl | hx
    · rw [if_pos rfl]
    · rw [if_neg (fun e1 => hu.1 (List.mem_map.2 ⟨x, hx, e1.symm⟩))]
      exact ih hu.2 hx

theorem mem_vheld {V : List Buf} {h : ByteArray} {i : Int} : i ∈ vheld V h ↔ ∃ x, vget V i = some x ∧ x.holder = h := by
  unfold vheld vhas
  rw [List.mem_filter, (sorted_perm _).mem_iff]
  constructor
  · rintro ⟨_, h2⟩
    split at h2
    · rename_i x hx; exact ⟨x, hx, by simpa using h2⟩
    · cases h2
  · rintro ⟨x, hx, hh⟩
    obtain ⟨hm, hi⟩ := vget_mem hx
    exact ⟨List.mem_map.2 ⟨x, hm, hi⟩, by rw [hx]; simpa using hh⟩

theorem vheld_asc {V : List Buf} (hu : (V.map (·.id)).Nodup) (h : ByteArray) : (vheld V h).Pairwise (· < ·) := (sorted_asc hu).filter _
theorem vheld_len (V : List Buf) (h : ByteArray) : (vheld V h).length ≤ V.length := by
  have := List.length_filter_le (vhas V h) (sorted (V.map (·.id)))
  rw [sorted_len, List.length_map] at this
  exact this

/-- in two holders' lists there is no number twice -/
theorem vheld_apart {V : List Buf} {g h : ByteArray} {i : Int} (h1 : i ∈ vheld V g) (h2 : i ∈ vheld V h) : g = h := by
  obtain ⟨x, hx, rfl⟩ := mem_vheld.1 h1
  obtain ⟨y, hy, rfl⟩ := mem_vheld.1 h2
  rw [hx] at hy; cases hy; rfl

/-- all holders' lists, one behind the other -/
def helds (V : List Buf) (d : List ByteArray) : List Int := d.flatMap (vheld V)

theorem helds_nodup {V : List Buf} (hu : (V.map (·.id)).Nodup) {d : List ByteArray} (hd : d.Nodup) : (helds V d).Nodup := by
  unfold helds List.Nodup
  rw [List.pairwise_flatMap]
  refine ⟨fun h _ => (vheld_asc hu h).imp fun h => by omega, hd.imp fun {a b} hab => ?_⟩
  intro i hi j hj e
  subst e
  exact hab (vheld_apart hi hj)

theorem mem_helds {V : List Buf} {d : List ByteArray} {i : Int} : i ∈ helds V d ↔ ∃ h ∈ d, i ∈ vheld V h := by
  unfold helds; exact List.mem_flatMap

theorem perm_of_nodup {l m : List Int} (hl : l.Nodup) (hm : m.Nodup) (h : ∀ i, i ∈ l ↔ i ∈ m) : l.Perm m := (List.perm_ext_iff_of_nodup hl hm).2 h

/-- whoever holds is among them: then all numbers come -/
theorem helds_all {V : List Buf} (hu : (V.map (·.id)).Nodup) {d : List ByteArray} (hd : d.Nodup) (ha : ∀ x ∈ V, x.holder ∈ d) : (helds V d).length = V.length := by
  have hp : (helds V d).Perm (V.map (·.id)) := perm_of_nodup (helds_nodup hu hd) hu fun i => by
    rw [mem_helds]
    constructor
    · rintro ⟨h, _, hi⟩
      obtain ⟨x, hx, _⟩ := mem_vheld.1 hi
      obtain ⟨hm, he⟩ := vget_mem hx
      exact List.mem_map.2 ⟨x, hm, he⟩
    · intro hi
      obtain ⟨x, hm, rfl⟩ := List.mem_map.1 hi
      exact ⟨x.holder, ha x hm, mem_vheld.2 ⟨x, vget_of_mem hu hm, rfl⟩⟩
  rw [hp.length_eq, List.length_map]

/-- each buffer has a holder, and each holder is among those that the steps name -/
def Owned (s : PS) (W : List ByteArray) : Prop := ∀ x ∈ s.V, x.holder.size ≠ 0 ∧ x.holder ∈ W

theorem Owned.mono {s : PS} {W W' : List ByteArray} (h : Owned s W) (hW : ∀ x ∈ W, x ∈ W') : Owned s W' := fun x hx => ⟨(h x hx).1, hW _ (h x hx).2⟩

theorem Owned.step {most : Int} {s : PS} {W : List ByteArray} {x : StepV} (h : Owned s W) (h1 : x.who ∈ W) (h2 : x.to ∈ W) : Owned (psStep most s x).2 W := by
  unfold psStep
  split
  · unfold psTake
    split
    · exact h
    · rename_i hh
      split
      · exact h
      · split
        · exact h
        · intro y hy
          rcases List.mem_append.1 hy with hy | hy
          · exact h y hy
          · simp only [List.mem_singleton] at hy
            subst hy
            exact ⟨hh, h1⟩
  · split
    · unfold psGive
      simp only
      split
      · exact fun y hy => h y ((vdels_sub x.ids s.V).subset hy)
      · exact h
    · split
      · unfold psMove
        split
        · exact h
        · rename_i ht
          split
          · exact h
          · split
            · intro y hy
              obtain ⟨z, hz, rfl⟩ := List.mem_map.1 hy
              split
              · exact ⟨ht, h2⟩
              · exact h z hz
            · exact h
      · split
        · unfold psSet
          split
          · exact h
          · split
            · split
              · exact h
              · intro y hy
                obtain ⟨z, hz, rfl⟩ := List.mem_map.1 hy
                split
                · exact h z hz
                · exact h z hz
            · exact h
        · exact h
end Go.Proofs.Ytagdolkfefbohaa
