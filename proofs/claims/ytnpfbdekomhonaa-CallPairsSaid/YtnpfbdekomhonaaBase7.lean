/- lists of entries whose values are mapped. -/
import Derived.Test.YtnpfbdekomhonaaBase1
namespace Stv
open Go
section
variable {κ α β : Type} [DecidableEq κ]

def vmap (f : α → β) (l : List (κ × α)) : List (κ × β) := l.map fun p => (p.1, f p.2)

theorem vmap_get (f : α → β) (l : List (κ × α)) (k : κ) : mget (vmap f l) k = (mget l k).map f := by
  induction l with
  | nil => rfl
  | cons p r ih => obtain ⟨a, x⟩ := p; simp only [vmap, List.map_cons, mget] at ih ⊢; split <;> simp_all
theorem vmap_put (f : α → β) (l : List (κ × α)) (k : κ) (v : α) : mput (vmap f l) k (f v) = vmap f (mput l k v) := by
  induction l with
  | nil => rfl
  | cons p r ih => obtain ⟨a, x⟩ := p; simp only [vmap, List.map_cons, mput] at ih ⊢; split <;> simp_all
theorem vmap_del (f : α → β) (l : List (κ × α)) (k : κ) : mdel (vmap f l) k = vmap f (mdel l k) := by
  induction l with
  | nil => rfl
  | cons p r ih => obtain ⟨a, x⟩ := p; simp only [vmap, List.map_cons, mdel] at ih ⊢; split <;> simp_all
omit [DecidableEq κ] in
theorem vmap_keys (f : α → β) (l : List (κ × α)) : (vmap f l).map (·.1) = l.map (·.1) := by
  unfold vmap; rw [List.map_map]; rfl
omit [DecidableEq κ] in
theorem vmap_len (f : α → β) (l : List (κ × α)) : (vmap f l).length = l.length := by simp [vmap]
omit [DecidableEq κ] in
theorem vmap_uniq {f : α → β} {l : List (κ × α)} (h : Uniq (vmap f l)) : Uniq l := by
  unfold Uniq at h ⊢
  rwa [vmap_keys] at h

theorem mput_mem_self {l : List (κ × α)} {k : κ} {v : α} : (k, v) ∈ mput l k v := by
  induction l with
  | nil => simp [mput]
  | cons p r ih => obtain ⟨a, x⟩ := p; simp only [mput]; split <;> simp_all
/-- what is in a list with one put: that one, or one with another key -/
theorem mem_mput_uniq {l : List (κ × α)} (hu : Uniq l) {k : κ} {v : α} {p : κ × α} (h : p ∈ mput l k v) : p = (k, v) ∨ (p ∈ l ∧ p.1 ≠ k) := by
  induction l with
  | nil => simp [mput] at h; exact .inl h
  | cons q r ih =>
    obtain ⟨a, x⟩ := q
    have hu' := hu
    unfold Uniq at hu
    simp only [List.map_cons, List.nodup_cons] at hu
    simp only [mput] at h
    split at h
    · rename_i e
      rcases List.mem_cons.1 h with rfl | h
      · exact .inl rfl
      · refine .inr ⟨List.mem_cons_of_mem _ h, fun e2 => hu.1 (List.mem_map.2 ⟨p, h, ?_⟩)⟩
        rw [e2, e]
    · rename_i hne
      rcases List.mem_cons.1 h with rfl | h
      · exact .inr ⟨by simp, hne⟩
      · rcases ih hu.2 h with h | h
        · exact .inl h
        · exact .inr ⟨List.mem_cons_of_mem _ h.1, h.2⟩
theorem mdel_ne {l : List (κ × α)} (hu : Uniq l) {k : κ} {p : κ × α} (h : p ∈ mdel l k) : p.1 ≠ k := by
  intro e
  have := mget_mdel hu k k
  rw [if_pos rfl] at this
  exact mget_none_iff.1 this p h e
theorem map_mput_same {γ : Type} (g : α → γ) {l : List (κ × α)} {k : κ} {v0 v : α} (h : mget l k = some v0) (hg : g v = g v0) : (mput l k v).map (fun p => g p.2) = l.map (fun p => g p.2) := by
  induction l with
  | nil => cases h
  | cons p r ih =>
    obtain ⟨a, x⟩ := p
    simp only [mget] at h
    simp only [mput]
    split at h
    · rename_i e
      cases h
      rw [if_pos e]; simp [hg]
    · rename_i e
      rw [if_neg e]; simp [ih h]
theorem length_mput_none {l : List (κ × α)} {k : κ} (h : mget l k = none) (v : α) : (mput l k v).length = l.length + 1 := by
  rw [mput_none (mget_none_iff.1 h)]; simp
theorem length_mput_le (l : List (κ × α)) (k : κ) (v : α) : (mput l k v).length ≤ l.length + 1 := by
  cases h : mget l k with
  | none => rw [length_mput_none h]; exact Nat.le_refl _
  | some x => rw [length_mput_some h]; omega
end
end Stv
