/- 'CallChildren': its states. -/
import Derived.Test.YtnpfbdekomhonaaWorks
namespace Go.Proofs.Ytnpfbdekomhonaa
open Go.RowKit Stv

def b0 : Bnd := ⟨2, 0, 80, false⟩
def ld : DeskV := { desk0 2 with is := 2, b := b0 }
def ch1 (n : Int) : TS := ⟨n, 1, [7], [(0, ⟨1, 2, 1, false⟩)], [(1, desk0 2)], []⟩
def ch2 (n : Int) : TS := ⟨n, 2, [7], [(0, ⟨1, 2, 1, false⟩)], [(1, desk0 2)], []⟩
def ch3 (n : Int) : TS := ⟨n, 2, [7], [(0, ⟨1, 2, 1, false⟩)], [(1, { desk0 2 with is := 1, b := b0 })], [(1, b0)]⟩
def ch4 (n : Int) : TS := ⟨n, 2, [7], [(0, ⟨1, 2, 1, false⟩)], [(1, ld)], [(1, b0)]⟩

theorem acc_ok {s : TS} {d : DeskV} {id : Int} (h1 : d.is = 2) (h2 : 0 < id) (h3 : mget s.S id = none) (h4 : (s.F.length : Int) < s.most) : tAcceptErr s d id = 0 := by
  unfold tAcceptErr; rw [if_pos h1, if_pos ⟨h2, h3⟩, if_pos h4]
theorem acc_full {s : TS} {d : DeskV} {id : Int} (h1 : d.is = 2) (h2 : 0 < id) (h3 : mget s.S id = none) (h4 : ¬ (s.F.length : Int) < s.most) : tAcceptErr s d id = 291 := by
  unfold tAcceptErr; rw [if_pos h1, if_pos ⟨h2, h3⟩, if_neg h4]
theorem acc_there {s : TS} {d : DeskV} {id : Int} (h1 : d.is = 2) {x : DeskV} (h3 : mget s.S id = some x) : tAcceptErr s d id = 2 := by
  unfold tAcceptErr; rw [if_pos h1, if_neg (by rw [h3]; simp)]

/-- behind i rounds -/
structure ChSt (n : Int) (i : Nat) (s : TS) : Prop where
  most : s.most = n
  last : s.last = 2 + i
  file : mget s.F 0 = some ⟨1, 2, 1, false⟩
  desk : mget s.S 1 = some ld
  ids : ∀ p ∈ s.S, p.1 ≤ s.last
  len : (s.F.length : Int) = if (i : Int) + 1 < n then (i : Int) + 1 else n

theorem ch4_st {n : Int} (hn : 1 ≤ n) : ChSt n 0 (ch4 n) := by
  refine ⟨rfl, by simp [ch4], rfl, rfl, ?_, ?_⟩
  · intro p hp
    have : p = (1, ld) := by simpa [ch4] using hp
    subst this; simp [ch4]
  · simp only [ch4, List.length_singleton]
    split <;> omega

theorem ChSt.fresh {n : Int} {i : Nat} {s : TS} (h : ChSt n i s) : mget s.S (s.last + 1) = none :=
  mget_none fun p hp e => by have := h.ids p hp; omega

theorem lfd_pos {n : Int} {i : Nat} {s : TS} (h : ChSt n i s) : (lfd s.F : Int) ≠ 0 := by
  intro e
  have := (lfd_spec s.F).1
  rw [e, h.file] at this
  cases this

theorem mget_append_some {κ α : Type} [DecidableEq κ] {l m : List (κ × α)} {k : κ} {v : α} (h : mget l k = some v) : mget (l ++ m) k = some v := by
  induction l with
  | nil => cases h
  | cons p r ih =>
    obtain ⟨a, x⟩ := p
    simp only [List.cons_append, mget] at h ⊢
    split
    · rename_i e; rw [if_pos e] at h; exact h
    · rename_i e; rw [if_neg e] at h; exact ih h
theorem mget_append_none {κ α : Type} [DecidableEq κ] {l m : List (κ × α)} {k : κ} (h : mget l k = none) : mget (l ++ m) k = mget m k := by
  induction l with
  | nil => rfl
  | cons p r ih =>
    obtain ⟨a, x⟩ := p
    simp only [List.cons_append, mget] at h ⊢
    split
    · rename_i e; rw [if_pos e] at h; cases h
    · rename_i e; rw [if_neg e] at h; exact ih h

/-- the next state, where there is room -/
def chNext (s : TS) (p : PairV) : TS := ⟨s.most, s.last + 1, s.own, mput s.F (lfd s.F) ⟨1, 2, s.last + 1, false⟩, s.S ++ [(s.last + 1, childDesk p)], s.P⟩

theorem ChSt.next {n : Int} {i : Nat} {s : TS} (h : ChSt n i s) (hi : (i : Int) < n - 1) (p : PairV) : ChSt n (i + 1) (chNext s p) := by
  have hl := lfd_pos h
  refine ⟨h.most, ?_, ?_, mget_append_some h.desk, ?_, ?_⟩
  · have := h.last; simp only [chNext]; omega
  · simp only [chNext]
    rw [mget_mput, if_neg hl]; exact h.file
  · intro q hq
    simp only [chNext] at hq ⊢
    rcases List.mem_append.1 hq with hq | hq
    · have := h.ids q hq; omega
    · have : q = (s.last + 1, childDesk p) := by simpa using hq
      subst this; exact Int.le_refl _
  · simp only [chNext]
    rw [length_mput_none (lfd_spec s.F).1]
    have := h.len
    rw [if_pos (by omega)] at this
    split <;> omega

theorem ChSt.full {n : Int} {i : Nat} {s : TS} (h : ChSt n i s) (hi : n - 1 ≤ (i : Int)) : ChSt n (i + 1) { s with last := s.last + 1 } := by
  refine ⟨h.most, ?_, h.file, h.desk, ?_, ?_⟩
  · have := h.last; simp only; omega
  · intro q hq
    have := h.ids q hq
    simp only; omega
  · have := h.len
    simp only
    rw [if_neg (by omega)] at this
    rw [if_neg (by omega)]; exact this
end Go.Proofs.Ytnpfbdekomhonaa
