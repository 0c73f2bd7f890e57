/- What the pool's calls come to, as functions of plain lists; no program in sight. -/
import Derived.Test.YtagdolkfefbohaaBase1
namespace Go.Proofs.Ytagdolkfefbohaa
open Stv

structure Buf where
  id : Int
  holder : ByteArray
  text : ByteArray

def vget : List Buf → Int → Option Buf
  | [], _ => none
  | e :: r, id => if e.id = id then some e else vget r id
def vdel : List Buf → Int → List Buf
  | [], _ => []
  | e :: r, id => if e.id = id then r else e :: vdel r id
def vset (V : List Buf) (id : Int) (f : Buf → Buf) : List Buf := V.map fun e => if e.id = id then f e else e
def vgiveErr (V : List Buf) (h : ByteArray) : List Int → List Int → Int
  | [], _ => 0
  | id :: r, seen => if id ∈ seen then 5 else match vget V id with
    | none => 5
    | some x => if x.holder = h then vgiveErr V h r (seen ++ [id]) else 3

/-- a pool as a list: the last number, the buffers -/
structure PS where
  last : Int
  V : List Buf

def psTake (most : Int) (s : PS) (h t : ByteArray) : (Int × Int) × PS :=
  if h.size = 0 then ((0, 2), s) else if 65549 < t.size then ((0, 4), s) else if most ≤ (s.V.length : Int) then ((0, 6), s)
  else ((s.last + 1, 0), ⟨s.last + 1, s.V ++ [⟨s.last + 1, h, t⟩]⟩)
def psGive (s : PS) (h : ByteArray) (ids : List Int) : Int × PS :=
  (vgiveErr s.V h ids [], if vgiveErr s.V h ids [] = 0 then ⟨s.last, ids.foldl vdel s.V⟩ else s)
def psMove (s : PS) (id : Int) (h t : ByteArray) : Int × PS :=
  if t.size = 0 then (2, s) else match vget s.V id with
  | none => (5, s)
  | some x => if x.holder = h then (0, ⟨s.last, vset s.V id fun e => { e with holder := t }⟩) else (3, s)
def psSet (s : PS) (id : Int) (h t : ByteArray) : Int × PS :=
  match vget s.V id with
  | none => (5, s)
  | some x => if x.holder = h then (if 65549 < t.size then (4, s) else (0, ⟨s.last, vset s.V id fun e => { e with text := t }⟩)) else (3, s)

/-- a step of a script, as it reads -/
structure StepV where
  doo : Int
  who : ByteArray
  to : ByteArray
  s : ByteArray
  n : Int
  l : Value
  ids : List Int

def psStep (most : Int) (s : PS) (x : StepV) : (Int × Int) × PS :=
  if x.doo = 0 then psTake most s x.who x.s
  else if x.doo = 1 then ((0, (psGive s x.who x.ids).1), (psGive s x.who x.ids).2)
  else if x.doo = 2 then ((0, (psMove s x.n x.who x.to).1), (psMove s x.n x.who x.to).2)
  else if x.doo = 3 then ((0, (psSet s x.n x.who x.s).1), (psSet s x.n x.who x.s).2)
  else ((0, 0), s)

theorem vget_mem {L : List Buf} {id : Int} {e : Buf} (h : vget L id = some e) : e ∈ L ∧ e.id = id := by
  induction L with
  | nil => cases h
  | cons a r ih =>
    simp only [vget] at h
    split at h
    · cases h; simp_all
    · have := ih h; exact ⟨by simp [this.1], this.2⟩

theorem vdel_sub (L : List Buf) (id : Int) : (vdel L id).Sublist L := by
  induction L with
  | nil => exact List.Sublist.refl _
  | cons e r ih =>
    simp only [vdel]
    split
    · exact List.sublist_cons_self _ _
    · exact ih.cons_cons _

theorem vdels_sub (ids : List Int) : ∀ L, (ids.foldl vdel L).Sublist L := by
  induction ids with
  | nil => exact fun L => List.Sublist.refl _
  | cons i r ih => exact fun L => (ih _).trans (vdel_sub L i)

/-- what a pool keeps to, through all steps: numbers not above the last one; not more than most -/
structure PS.Fit (most : Int) (s : PS) : Prop where
  ids : ∀ e ∈ s.V, e.id ≤ s.last
  len : (s.V.length : Int) ≤ most
  last : 0 ≤ s.last
  uniq : (s.V.map (·.id)).Nodup

theorem vset_same (V : List Buf) (id : Int) (f : Buf → Buf) (hf : ∀ e, (f e).id = e.id) : (vset V id f).map (·.id) = V.map (·.id) := by
  unfold vset
  rw [List.map_map]
  refine List.map_congr_left fun e _ => ?_
  simp only [Function.comp]
  split
  · exact hf e
  · rfl

theorem vset_ids (V : List Buf) (id : Int) (f : Buf → Buf) (hf : ∀ e, (f e).id = e.id) : ∀ e ∈ vset V id f, ∃ e' ∈ V, e.id = e'.id := by
  intro e he
  obtain ⟨e', he', rfl⟩ := List.mem_map.1 he
  refine ⟨e', he', ?_⟩
  split
  · exact hf e'
  · rfl

theorem PS.Fit.sub {most : Int} {s : PS} (h : s.Fit most) {V : List Buf} (hs : V.Sublist s.V) : (PS.mk s.last V).Fit most :=
  ⟨fun e he => h.ids e (hs.subset he), by have := hs.length_le; have := h.len; simp only; omega, h.last, (hs.map _).nodup h.uniq⟩
theorem PS.Fit.set {most : Int} {s : PS} (h : s.Fit most) (id : Int) (f : Buf → Buf) (hf : ∀ e, (f e).id = e.id) : (PS.mk s.last (vset s.V id f)).Fit most :=
  ⟨fun e he => by obtain ⟨e', he', h1⟩ := vset_ids s.V id f hf e he; have := h.ids e' he'; simp only; omega, by have := h.len; simpa [vset] using this, h.last, by simp only; rw [vset_same _ _ _ hf]; exact h.uniq⟩

theorem Fit.take {most : Int} {s : PS} (h : s.Fit most) (ho t : ByteArray) : (psTake most s ho t).2.Fit most ∧ (psTake most s ho t).2.last ≤ s.last + 1 ∧ s.last ≤ (psTake most s ho t).2.last := by
  unfold psTake
  split
  · exact ⟨h, by simp only; omega, by simp only; omega⟩
  · split
    · exact ⟨h, by simp only; omega, by simp only; omega⟩
    · split
      · exact ⟨h, by simp only; omega, by simp only; omega⟩
      · rename_i h3
        refine ⟨⟨?_, ?_, ?_, ?_⟩, by simp, by simp; omega⟩
        · intro e he
          simp only [List.mem_append, List.mem_singleton] at he
          rcases he with he | rfl
          · have := h.ids e he; simp only; omega
          · simp
        · simp only [List.length_append, List.length_singleton]; omega
        · have := h.last; simp only; omega
        · simp only [List.map_append, List.map_cons, List.map_nil]
          refine List.nodup_append.2 ⟨h.uniq, by simp, fun a ha b hb => ?_⟩
          obtain ⟨e, he, rfl⟩ := List.mem_map.1 ha
          simp only [List.mem_singleton] at hb
          have := h.ids e he
          omega

theorem Fit.give {most : Int} {s : PS} (h : s.Fit most) (ho : ByteArray) (ids : List Int) : (psGive s ho ids).2.Fit most ∧ (psGive s ho ids).2.last = s.last := by
  unfold psGive
  simp only
  split
  · exact ⟨h.sub (vdels_sub ids s.V), rfl⟩
  · exact ⟨h, rfl⟩

theorem Fit.move {most : Int} {s : PS} (h : s.Fit most) (id : Int) (ho t : ByteArray) : (psMove s id ho t).2.Fit most ∧ (psMove s id ho t).2.last = s.last := by
  unfold psMove
  split
  · exact ⟨h, rfl⟩
  · split
    · exact ⟨h, rfl⟩
    · split
      · exact ⟨h.set _ _ fun _ => rfl, rfl⟩
      · exact ⟨h, rfl⟩

theorem Fit.set {most : Int} {s : PS} (h : s.Fit most) (id : Int) (ho t : ByteArray) : (psSet s id ho t).2.Fit most ∧ (psSet s id ho t).2.last = s.last := by
  unfold psSet
  split
  · exact ⟨h, rfl⟩
  · split
    · split
      · exact ⟨h, rfl⟩
      · exact ⟨h.set _ _ fun _ => rfl, rfl⟩
    · exact ⟨h, rfl⟩

theorem Fit.step {most : Int} {s : PS} (h : s.Fit most) (x : StepV) : (psStep most s x).2.Fit most ∧ (psStep most s x).2.last ≤ s.last + 1 ∧ s.last ≤ (psStep most s x).2.last := by
  unfold psStep
  split
  · exact Fit.take h _ _
  · split
    · have := Fit.give h x.who x.ids; exact ⟨this.1, by simp only; omega, by simp only; omega⟩
    · split
      · have := Fit.move h x.n x.who x.to; exact ⟨this.1, by simp only; omega, by simp only; omega⟩
      · split
        · have := Fit.set h x.n x.who x.s; exact ⟨this.1, by simp only; omega, by simp only; omega⟩
        · exact ⟨h, by simp only; omega, by simp only; omega⟩

/-! ### nobody but its holder .. -/
theorem vget_append {V : List Buf} {id : Int} {b : Buf} (h : vget V id = some b) (W : List Buf) : vget (V ++ W) id = some b := by
  induction V with
  | nil => cases h
  | cons e r ih =>
    simp only [vget, List.cons_append] at h ⊢
    split at h
    · rename_i e1; rw [if_pos e1]; exact h
    · rename_i e1; rw [if_neg e1]; exact ih h

theorem vget_vset {V : List Buf} {id id' : Int} (f : Buf → Buf) (hf : ∀ e, (f e).id = e.id) (hne : id ≠ id') : vget (vset V id' f) id = vget V id := by
  induction V with
  | nil => rfl
  | cons e r ih =>
    simp only [vset, List.map_cons, vget] at ih ⊢
    by_cases h1 : e.id = id'
    · have : e.id ≠ id := by rw [h1]; exact fun e => hne e.symm
      rw [if_pos h1, hf, if_neg this, if_neg this]; exact ih
    · rw [if_neg h1]
      split
      · rfl
      · exact ih

theorem vget_vdel {V : List Buf} {id id' : Int} (hne : id ≠ id') : vget (vdel V id') id = vget V id := by
  induction V with
  | nil => rfl
  | cons e r ih =>
    simp only [vdel, vget]
    by_cases h1 : e.id = id'
    · have : e.id ≠ id := by rw [h1]; exact fun e => hne e.symm
      rw [if_pos h1, if_neg this]
    · rw [if_neg h1]
      simp only [vget, ih]

theorem vget_vdels {id : Int} (ids : List Int) : ∀ {V : List Buf}, id ∉ ids → vget (ids.foldl vdel V) id = vget V id := by
  induction ids with
  | nil => exact fun _ => rfl
  | cons i r ih =>
    intro V h
    simp only [List.mem_cons, not_or] at h
    rw [List.foldl_cons, ih h.2, vget_vdel h.1]

theorem give_own {V : List Buf} {h : ByteArray} : ∀ (ids seen : List Int), vgiveErr V h ids seen = 0 → ∀ id ∈ ids, ∃ x, vget V id = some x ∧ x.holder = h := by
  intro ids
  induction ids with
  | nil => intro _ _ id h; cases h
  | cons i r ih =>
    intro seen he id hid
    simp only [vgiveErr] at he
    split at he
    · cases he
    · split at he
      · cases he
      · rename_i x hx
        split at he
        · rename_i hh
          rcases List.mem_cons.1 hid with rfl | hid
          · exact ⟨x, hx, hh⟩
          · exact ih _ he id hid
        · cases he

/-- a step by another one leaves it as it is -/
theorem step_apart {most : Int} {s : PS} {x : StepV} {one : ByteArray} {b : Buf} {id : Int} (hg : vget s.V id = some b) (hb : b.holder = one) (hne : x.who ≠ one) : vget (psStep most s x).2.V id = some b := by
  unfold psStep
  split
  · unfold psTake
    split
    · exact hg
    · split
      · exact hg
      · split
        · exact hg
        · exact vget_append hg _
  · split
    · unfold psGive
      simp only
      split
      · rename_i h0
        have hni : id ∉ x.ids := by
          intro hi
          obtain ⟨y, hy, hh⟩ := give_own _ _ h0 id hi
          rw [hg] at hy; cases hy
          exact hne (hh.symm.trans hb)
        rw [vget_vdels x.ids hni]; exact hg
      · exact hg
    · split
      · unfold psMove
        split
        · exact hg
        · split
          · exact hg
          · rename_i y hy
            split
            · rename_i hh
              have : id ≠ x.n := by
                rintro rfl
                rw [hg] at hy; cases hy
                exact hne (hh.symm.trans hb)
              rw [vget_vset _ (by intro e; rfl) this]; exact hg
            · exact hg
      · split
        · unfold psSet
          split
          · exact hg
          · rename_i y hy
            split
            · rename_i hh
              split
              · exact hg
              · have : id ≠ x.n := by
                  rintro rfl
                  rw [hg] at hy; cases hy
                  exact hne (hh.symm.trans hb)
                rw [vget_vset _ (by intro e; rfl) this]; exact hg
            · exact hg
        · exact hg

theorem vget_vdel_same {V : List Buf} (hu : (V.map (·.id)).Nodup) (id : Int) : vget (vdel V id) id = none := by
  induction V with
  | nil => rfl
  | cons e r ih =>
    simp only [List.map_cons, List.nodup_cons] at hu
    simp only [vdel]
    by_cases h1 : e.id = id
    · rw [if_pos h1]
      cases hg : vget r id with
      | none => rfl
      | some y =>
        obtain ⟨hm, hi⟩ := vget_mem hg
        exact absurd (List.mem_map.2 ⟨y, hm, hi.trans h1.symm⟩) hu.1
    · rw [if_neg h1]
      simp only [vget]
      rw [if_neg h1]
      exact ih hu.2

theorem give_other {s : PS} {b : Buf} (hg : vget s.V 1 = some b) {o : ByteArray} (hne : b.holder ≠ o) : psGive s o [1] = (3, s) := by
  simp [psGive, vgiveErr, hg, hne]
theorem give_one {s : PS} {b : Buf} (hg : vget s.V 1 = some b) : psGive s b.holder [1] = (0, ⟨s.last, vdel s.V 1⟩) := by
  simp [psGive, vgiveErr, hg]
theorem give_none {s : PS} (hg : vget s.V 1 = none) (o : ByteArray) : psGive s o [1] = (5, s) := by
  simp [psGive, vgiveErr, hg]
theorem move_other {s : PS} {b : Buf} (hg : vget s.V 1 = some b) {o t : ByteArray} (ht : t.size ≠ 0) (hne : b.holder ≠ o) : psMove s 1 o t = (3, s) := by
  simp [psMove, ht, hg, hne]
theorem set_other {s : PS} {b : Buf} (hg : vget s.V 1 = some b) {o t : ByteArray} (hne : b.holder ≠ o) : psSet s 1 o t = (3, s) := by
  simp [psSet, hg, hne]

end Go.Proofs.Ytagdolkfefbohaa
