/- Shared words: a row of elements that the call itself owns, and append onto it: in which block the new row lies. -/
import Derived.Test.YtnpfbdekomhonaaBase2
namespace Stv
open Go

/-- v is nil, or leads to the head of a row that may be written: n elements of type e, 'size' cells each: the cells xs. -/
def OwnRow (w : World) (e : TypeId) (size : Nat) (v : Value) (n : Nat) (xs : List Value) : Prop := w.ownsRow 0 e size v n xs

/-- what an append takes its elements from -/
def SrcRow (w : World) (v : Value) (m : Nat) (news : List Value) : Prop :=
  (v = .slice none 0 0 ∧ m = 0 ∧ news = []) ∨ ∃ a c, v = .slice (some a) m c ∧ ∀ j u, news[j]? = some u → w.cell? (a.add j) = some u

section
variable {P : Program} {w : World} {e : TypeId} {size : Nat} {v : Value} {n : Nat} {xs : List Value}

theorem OwnRow.nil (w : World) (e : TypeId) (size : Nat) : OwnRow w e size (.slice none 0 0) 0 [] := World.ownsRow_nil w 0 e size
theorem OwnRow.lt (h : OwnRow w e size v n xs) {k : Nat} (hk : v.ownBlock = some k) : k < w.heap.size := (World.ownsRow.lt h k hk).2
theorem OwnRow.len (h : OwnRow w e size v n xs) : xs.length = n * size := h.1
theorem OwnRow.off {S : Nat → Prop} {w' : World} (h : OwnRow w e size v n xs) (ho : Off S w w') (hS : ∀ k, v.ownBlock = some k → ¬ S k) : OwnRow w' e size v n xs := by
  refine ⟨h.1, ?_⟩
  rcases h.2 with hn | ⟨g, cap, cur, rfl, hb, hgg, rest⟩
  · exact .inl hn
  · exact .inr ⟨g, cap, cur, rfl, hb, (ho.block g (Array.getElem?_eq_some_iff.1 hgg).1 (hS g rfl)).trans hgg, rest⟩

/-- the value's parts; each cell -/
theorem OwnRow.form (h : OwnRow w e size v n xs) : ∃ a cap, v = .slice a n cap ∧ n ≤ cap ∧ cap ≤ maxLen ∧ (a = none → n = 0 ∧ cap = 0) ∧ ∀ b, a = some b → ∃ g, b = ⟨g, 0, none⟩ ∧ g < w.heap.size ∧ v.ownBlock = some g ∧ ∀ j u, xs[j]? = some u → w.cell? ⟨g, j, none⟩ = some u ∧ w.frozen? ⟨g, j, none⟩ = false := by
  have hc := fun g hg => World.ownsRow.cells h (g := g) hg
  rcases h.2 with ⟨rfl, rfl⟩ | ⟨g, cap, cur, rfl, _, hg, hnc, hcm, _⟩
  · exact ⟨none, 0, rfl, Nat.le_refl _, Nat.zero_le _, fun _ => ⟨rfl, rfl⟩, fun b hb => nomatch hb⟩
  · refine ⟨_, cap, rfl, hnc, hcm, (fun h => nomatch h), fun b hb => ?_⟩
    cases hb
    refine ⟨g, rfl, (Array.getElem?_eq_some_iff.1 hg).1, rfl, fun j u hu => ⟨?_, by simp [World.frozen?, hg]⟩⟩
    have := hc g rfl j u hu
    have hadd : (⟨g, 0, none⟩ : Addr).add j = ⟨g, j, none⟩ := by unfold Addr.add; split <;> simp_all
    rwa [hadd] at this

theorem SrcRow.grew {w' : World} {m : Nat} {news : List Value} (h : SrcRow w v m news) (hg : Grew w w') : SrcRow w' v m news := by
  rcases h with h | ⟨a, c, hv, hc⟩
  · exact .inl h
  · refine .inr ⟨a, c, hv, fun j u hu => ?_⟩
    have := hc j u hu
    rw [hg.cell (World.block_lt_of_cell? _ _ this) fun h => h]
    exact this

theorem OwnRow.src (h : OwnRow w e size v n xs) : SrcRow w v n xs := by
  have hc := fun g hg => World.ownsRow.cells h (g := g) hg
  have hl := h.1
  rcases h.2 with ⟨rfl, rfl⟩ | ⟨g, cap, cur, rfl, _⟩
  · exact .inl ⟨rfl, rfl, List.eq_nil_of_length_eq_zero (by simpa using hl)⟩
  · exact .inr ⟨_, cap, rfl, hc g rfl⟩

theorem OwnRow.set (h : OwnRow w e size v n xs) {g : Nat} (hg : v.ownBlock = some g) {i : Nat} (_hi : i < xs.length) (u : Value) : OwnRow (w.setCell ⟨g, i, none⟩ u) e size v n (xs.set i u) := by
  refine ⟨by rw [List.length_set]; exact h.1, ?_⟩
  have hl := h.1
  rcases h.2 with ⟨rfl, _⟩ | ⟨g', cap, cur, rfl, hb, hgg, hnc, hcm, hcs, htake⟩
  · cases hg
  · obtain rfl : g' = g := by simpa [Value.ownBlock] using hg
    refine .inr ⟨g', cap, cur.setIfInBounds i u, rfl, hb, ?_, hnc, hcm, by simpa using hcs, ?_⟩
    · simp only [World.setCell, Array.getElem?_modify, if_true, hgg]
      simp
    · rw [← htake, Array.toList_setIfInBounds, List.take_set]

/-- 'append(v, sv...)' -/
theorem run_append_row (t ty : TypeId) {i : TypeInfo} {z : Value} {bytes : Nat} (ht : P.underlying t = some (.slice e)) (hi : P.info? e = some i) (hz : i.zero = some z)
    (hsize : i.size = size) (hby : i.bytes = bytes) (hzs : z.cells.size = size) (hsz : 0 < size) (h : OwnRow w e size v n xs)
    {sv : Value} {m : Nat} {news : List Value} (hs : SrcRow w sv m news) (hl : news.length = m * size) (h1 : ∀ u ∈ news, u.oneCell' = true) (h63 : n + m ≤ maxLen) (hbytes : (n + m) * bytes ≤ 140737488355328) :
    ∃ v' w', (Builtin.append_ #[t, t] ty #[v, sv]).run P w = .ok v' w' ∧ OwnRow w' e size v' (n + m) (xs ++ news) ∧ Off (fun k => v.ownBlock = some k) w w' ∧
      (∀ k, v'.ownBlock = some k → v.ownBlock = some k ∨ w.heap.size ≤ k) ∧ (v' = .slice none 0 0 ↔ v = .slice none 0 0 ∧ m = 0) := by
  rcases hs with ⟨rfl, rfl, rfl⟩ | ⟨a, c, rfl, hc⟩
  · refine ⟨v, w, run_append_owned_none (P := P) (w := w) 0 t ty e i size ht hi v n xs h, by simpa using h, Off.refl _ _, fun k hk => .inl hk, by simp⟩
  · obtain ⟨v', w', hr, hown, hgr, hnil⟩ := run_append_own (P := P) w 0 t ty e i z size bytes ht hi hz hsize hby hzs hsz v n xs h a m c news hl hc h1 h63 hbytes (Nat.zero_le _)
    refine ⟨v', w', hr, hown, (Off.refl _ _).grown hgr (fun b hb => .inl hb), ?_, hnil⟩
    subst hsize; subst hby
    rcases h.2 with ⟨rfl, rfl⟩ | ⟨g, cap, cur, rfl, hbg, hg, hnc, hcm, hcs, htake⟩
    · have hx : xs = [] := List.eq_nil_of_length_eq_zero (by simpa using h.1)
      subst hx
      by_cases hm : m = 0
      · have := hnil.2 ⟨rfl, hm⟩
        subst this
        intro k hk; cases hk
      · have hr' := run_append_nil (P := P) w t ty e i z ht hi hz a m c news hl hc (by omega) (by simp only [maxLen] at h63; omega) (by have hb := hbytes; simp only [Nat.zero_add] at hb; omega)
        rw [hr] at hr'
        simp only [Result.ok.injEq] at hr'
        intro k hk
        rw [hr'.1] at hk
        cases hk
        exact .inr (Nat.le_refl _)
    · by_cases hroom : n + m ≤ cap
      · have hfit : n * i.size + news.length ≤ cur.size := by rw [hl, hcs, ← Nat.add_mul]; exact Nat.mul_le_mul_right _ hroom
        have hr' := run_append_room (P := P) w t ty e i ht hi g n cap cur hg a m c news hl hc h1 hroom hfit
        rw [hr] at hr'
        simp only [Result.ok.injEq] at hr'
        intro k hk
        rw [hr'.1] at hk
        cases hk
        exact .inl rfl
      · have holds : ∀ j u, xs[j]? = some u → w.cell? ((⟨g, 0, none⟩ : Addr).add j) = some u := World.ownsRow.cells h (g := g) rfl
        have hr' := run_append_grow (P := P) w t ty e i z ht hi hz ⟨g, 0, none⟩ n cap xs h.1 holds a m c news hl hc (by omega) (by simp only [maxLen] at h63; omega) (growslice_fits (by omega) hbytes)
        rw [hr] at hr'
        simp only [Result.ok.injEq] at hr'
        intro k hk
        rw [hr'.1] at hk
        cases hk
        exact .inr (Nat.le_refl _)
end
end Stv
