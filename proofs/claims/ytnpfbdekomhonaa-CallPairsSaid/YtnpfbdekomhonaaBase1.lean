/- Shared words: a map block as a list of entries in the order of laying; a world that is as another one off a set of blocks. -/
import Derived.Maps.OwnSet
import Derived.Maps.RangeRun
import Derived.WalkKit
import Derived.WalkSpells
import Derived.WalkLawsBesides
namespace Stv
open Go Go.MapKept
open Go.ChangeMaps (setBlock)
open Go.Maps (Keyed)

/-! ### strings -/
theorem str_inj {a b : ByteArray} (h : a.toList = b.toList) : a = b := by
  rw [ByteArray.toList_eq, ByteArray.toList_eq] at h
  exact WideShapes.bytes_inj h
theorem str_yes {a b : ByteArray} (h : a = b) : (a.toList == b.toList) = true := by rw [h]; exact beq_self_eq_true _
theorem str_no {a b : ByteArray} (h : a ≠ b) : (a.toList == b.toList) = false := beq_eq_false_iff_ne.2 fun e => h (str_inj e)
theorem str_emp {a : ByteArray} (h : a.size = 0) : a.toList = [] := by
  rw [ByteArray.toList_eq]; exact List.eq_nil_of_length_eq_zero (by simpa using h)
theorem str_emp_yes {a : ByteArray} (h : a.size = 0) : a.toList.isEmpty = true := by rw [str_emp h]; rfl
theorem str_emp_no {a : ByteArray} (h : a.size ≠ 0) : a.toList.isEmpty = false := by
  cases e : a.toList.isEmpty with
  | false => rfl
  | true =>
    rw [ByteArray.toList_eq, List.isEmpty_iff] at e
    exact absurd (by simpa using congrArg List.length e) h

/-! ### lists of entries -/
section
variable {κ α : Type} [DecidableEq κ]

def mget : List (κ × α) → κ → Option α
  | [], _ => none
  | (a, v) :: r, k => if a = k then some v else mget r k
def mput : List (κ × α) → κ → α → List (κ × α)
  | [], k, v => [(k, v)]
  | (a, x) :: r, k, v => if a = k then (k, v) :: r else (a, x) :: mput r k v
def mdel : List (κ × α) → κ → List (κ × α)
  | [], _ => []
  | (a, x) :: r, k => if a = k then r else (a, x) :: mdel r k

theorem mget_none {l : List (κ × α)} {k : κ} (h : ∀ p ∈ l, p.1 ≠ k) : mget l k = none := by
  induction l with
  | nil => rfl
  | cons p r ih => obtain ⟨a, x⟩ := p; simp only [mget]; rw [if_neg (h (a, x) (by simp))]; exact ih fun p hp => h p (by simp [hp])
theorem mput_none {l : List (κ × α)} {k : κ} {v : α} (h : ∀ p ∈ l, p.1 ≠ k) : mput l k v = l ++ [(k, v)] := by
  induction l with
  | nil => rfl
  | cons p r ih => obtain ⟨a, x⟩ := p; simp only [mput]; rw [if_neg (h (a, x) (by simp)), ih fun p hp => h p (by simp [hp])]; rfl
theorem mdel_none {l : List (κ × α)} {k : κ} (h : ∀ p ∈ l, p.1 ≠ k) : mdel l k = l := by
  induction l with
  | nil => rfl
  | cons p r ih => obtain ⟨a, x⟩ := p; simp only [mdel]; rw [if_neg (h (a, x) (by simp)), ih fun p hp => h p (by simp [hp])]

theorem mget_none_iff {l : List (κ × α)} {k : κ} : mget l k = none ↔ ∀ p ∈ l, p.1 ≠ k := by
  refine ⟨fun h => ?_, mget_none⟩
  induction l with
  | nil => simp
  | cons p r ih =>
    obtain ⟨a, x⟩ := p
    simp only [mget] at h
    split at h
    · cases h
    · rename_i hne
      intro p hp
      rcases List.mem_cons.1 hp with rfl | hp
      · exact hne
      · exact ih h p hp

theorem mget_mem {l : List (κ × α)} {k : κ} {v : α} (h : mget l k = some v) : (k, v) ∈ l := by
  induction l with
  | nil => cases h
  | cons p r ih =>
    obtain ⟨a, x⟩ := p
    simp only [mget] at h
    split at h
    · rename_i e; cases h; subst e; simp
    · exact List.mem_cons_of_mem _ (ih h)

/-- keys are told apart -/
def Uniq (l : List (κ × α)) : Prop := (l.map (·.1)).Nodup

theorem Uniq.at {l : List (κ × α)} (hu : Uniq l) : ∀ {j : Nat} {k : κ} {v : α}, l[j]? = some (k, v) → mget l k = some v ∧ (∀ v', mput l k v' = l.set j (k, v')) ∧ mdel l k = l.eraseIdx j := by
  induction l with
  | nil => intro j k v h; simp at h
  | cons p r ih =>
    obtain ⟨a, x⟩ := p
    intro j k v h
    unfold Uniq at hu
    simp only [List.map_cons, List.nodup_cons] at hu
    cases j with
    | zero => simp at h; obtain ⟨rfl, rfl⟩ := h; simp [mget, mput, mdel]
    | succ j =>
      simp at h
      have hm : (k, v) ∈ r := List.mem_of_getElem? h
      have hne : a ≠ k := fun e => hu.1 (List.mem_map.2 ⟨(k, v), hm, e.symm⟩)
      obtain ⟨h1, h2, h3⟩ := ih hu.2 h
      refine ⟨by simp [mget, hne, h1], fun v' => by simp [mput, hne, h2], by simp [mdel, hne, h3]⟩

theorem mget_of_mem {l : List (κ × α)} (hu : Uniq l) {k : κ} {v : α} (h : (k, v) ∈ l) : mget l k = some v := by
  obtain ⟨j, hj, he⟩ := List.mem_iff_getElem.1 h
  exact (hu.at (j := j) (by rw [List.getElem?_eq_getElem hj, he])).1

theorem mget_mput (l : List (κ × α)) (k : κ) (v : α) (k' : κ) : mget (mput l k v) k' = if k = k' then some v else mget l k' := by
  induction l with
  | nil => simp [mput, mget]
  | cons p r ih =>
    obtain ⟨a, x⟩ := p
    simp only [mput]
    split
    · rename_i e; subst e; simp only [mget]; split <;> rfl
    · rename_i hne
      simp only [mget, ih]
      split
      · rename_i e; subst e; rw [if_neg (fun e => hne e.symm)]
      · rfl

theorem mem_mput {l : List (κ × α)} {k : κ} {v : α} {p : κ × α} (h : p ∈ mput l k v) : p = (k, v) ∨ p ∈ l := by
  induction l with
  | nil => simp [mput] at h; exact .inl h
  | cons q r ih =>
    obtain ⟨a, x⟩ := q
    simp only [mput] at h
    split at h
    · rcases List.mem_cons.1 h with rfl | h
      · exact .inl rfl
      · exact .inr (List.mem_cons_of_mem _ h)
    · rcases List.mem_cons.1 h with rfl | h
      · exact .inr (by simp)
      · exact (ih h).imp id (List.mem_cons_of_mem _)

theorem mdel_sublist (l : List (κ × α)) (k : κ) : (mdel l k).Sublist l := by
  induction l with
  | nil => exact List.Sublist.refl _
  | cons p r ih =>
    obtain ⟨a, x⟩ := p
    simp only [mdel]
    split
    · exact List.sublist_cons_self _ _
    · exact ih.cons_cons _

theorem Uniq.mput {l : List (κ × α)} (hu : Uniq l) (k : κ) (v : α) : Uniq (mput l k v) := by
  induction l with
  | nil => simp [Uniq, Stv.mput]
  | cons p r ih =>
    obtain ⟨a, x⟩ := p
    unfold Uniq at hu ih ⊢
    simp only [List.map_cons, List.nodup_cons] at hu
    simp only [Stv.mput]
    split
    · rename_i e; subst e; simpa using hu
    · rename_i hne
      simp only [List.map_cons, List.nodup_cons]
      refine ⟨fun hm => ?_, ih hu.2⟩
      obtain ⟨q, hq, e⟩ := List.mem_map.1 hm
      rcases mem_mput hq with rfl | hq
      · exact hne e.symm
      · exact hu.1 (List.mem_map.2 ⟨q, hq, e⟩)

theorem Uniq.mdel {l : List (κ × α)} (hu : Uniq l) (k : κ) : Uniq (mdel l k) := ((mdel_sublist l k).map _).nodup hu

theorem mget_mdel {l : List (κ × α)} (hu : Uniq l) (k k' : κ) : mget (mdel l k) k' = if k = k' then none else mget l k' := by
  induction l with
  | nil => simp [mdel, mget]
  | cons p r ih =>
    obtain ⟨a, x⟩ := p
    unfold Uniq at hu
    simp only [List.map_cons, List.nodup_cons] at hu
    simp only [mdel]
    split
    · rename_i e
      subst e
      by_cases e : a = k'
      · subst e; rw [if_pos rfl]; exact mget_none fun p hp e => hu.1 (List.mem_map.2 ⟨p, hp, e⟩)
      · simp [mget, e]
    · rename_i hne
      simp only [mget, ih hu.2]
      split
      · rename_i e; subst e; rw [if_neg (fun e => hne e.symm)]
      · rfl

theorem length_mput_some {l : List (κ × α)} {k : κ} {v0 : α} (h : mget l k = some v0) (v : α) : (mput l k v).length = l.length := by
  induction l with
  | nil => cases h
  | cons p r ih =>
    obtain ⟨a, x⟩ := p
    simp only [mget] at h
    simp only [mput]
    split at h
    · rename_i e; rw [if_pos e]; rfl
    · rename_i e; rw [if_neg e]; simp [ih h]

theorem length_mdel_some {l : List (κ × α)} {k : κ} {v0 : α} (h : mget l k = some v0) : (mdel l k).length + 1 = l.length := by
  induction l with
  | nil => cases h
  | cons p r ih =>
    obtain ⟨a, x⟩ := p
    simp only [mget] at h
    simp only [mdel]
    split at h
    · rename_i e; rw [if_pos e]; rfl
    · rename_i e; rw [if_neg e]; simp [ih h]
end

/-! ### how a key lies in memory -/
structure KeyC (P : Program) (kt : TypeId) (κ : Type) where
  enc : κ → Value
  ok : κ → Prop
  keyed : Keyed P kt
  inj : ∀ {a b}, enc a = enc b → a = b
  lit : ∀ {a}, ok a → ∃ l, keyOf P kt (enc a) = some l

def intKey {P : Program} {kt : TypeId} {q : IntKind} (h : P.underlying kt = some (.int q)) : KeyC P kt Int where
  enc n := .int q n
  ok n := (Lit.int q n).wf = true
  keyed := Maps.int_keyed h
  inj e := by cases e; rfl
  lit h' := ⟨_, Maps.keyOf_int_mk h h'⟩

def strKey {P : Program} {kt : TypeId} (h : P.underlying kt = some .string) : KeyC P kt ByteArray where
  enc s := .string s
  ok s := s.size ≤ maxLen
  keyed := Maps.string_keyed h
  inj e := by cases e; rfl
  lit h' := ⟨_, WideMaps.keyOf_string_mk h h'⟩

theorem map_eraseIdx' {α β : Type} (f : α → β) (l : List α) (j : Nat) : (l.eraseIdx j).map f = (l.map f).eraseIdx j := by
  induction l generalizing j with
  | nil => rfl
  | cons a r ih => cases j with
    | zero => rfl
    | succ j => simp [List.eraseIdx, ih]

section
variable {P : Program} {kt : TypeId} {κ : Type}

/-- BLOCK b OF w IS A MAP WITH THE ENTRIES l, in the order of laying. -/
def MapIs (C : KeyC P kt κ) (w : World) (b : Nat) (l : List (κ × Value)) : Prop :=
  ∃ es clock, w.heap[b]? = some (.map es clock) ∧ Stamped es clock ∧ es.toList.map (fun e => (e.key, e.val)) = l.map (fun p => (C.enc p.1, p.2)) ∧ ∀ p ∈ l, C.ok p.1

variable {C : KeyC P kt κ} {w : World} {b : Nat} {l : List (κ × Value)}

theorem MapIs.of_block (h : MapIs C w b l) {w' : World} (e : w'.heap[b]? = w.heap[b]?) : MapIs C w' b l := by
  obtain ⟨es, clock, hb, r⟩ := h
  exact ⟨es, clock, e.trans hb, r⟩
theorem MapIs.lt (h : MapIs C w b l) : b < w.heap.size := by
  obtain ⟨es, clock, hb, _⟩ := h
  exact (Array.getElem?_eq_some_iff.1 hb).1
theorem MapIs.made (C : KeyC P kt κ) (w : World) : MapIs C (w.alloc (.map #[] 0)) w.heap.size [] :=
  ⟨#[], 0, (heap_alloc w _).1, stamped_empty 0, rfl, by simp⟩

theorem MapIs.keys (h : MapIs C w b l) : ∀ p ∈ l, C.ok p.1 := by
  obtain ⟨es, clock, _, _, _, h⟩ := h; exact h

theorem MapIs.uniq (h : MapIs C w b l) : Uniq l := by
  obtain ⟨es, clock, hb, hs, hl, _⟩ := h
  have hn : (es.toList.map (·.key)).Nodup := hs.2.2
  have e : es.toList.map (·.key) = (l.map (·.1)).map C.enc := by
    have := congrArg (List.map Prod.fst) hl
    simpa [List.map_map, Function.comp_def] using this
  rw [e] at hn
  exact List.Pairwise.of_map C.enc (fun a b hab e => hab (by rw [e])) hn

/-- what is found -/
theorem find_list [DecidableEq κ] (C : KeyC P kt κ) (w : World) {es : Array MapEntry} (hl : es.toList.map (fun e => (e.key, e.val)) = l.map (fun p => (C.enc p.1, p.2))) (hok : ∀ p ∈ l, C.ok p.1) (hu : Uniq l) {k : κ} (hk : C.ok k) :
    (mget l k = none ∧ (Instr.findKey kt (C.enc k) es.toList).run P w = .ok none w ∧ (∀ p ∈ l, p.1 ≠ k) ∧ ∀ x ∈ es.toList, x.key ≠ C.enc k) ∨
    ∃ j v born, mget l k = some v ∧ (Instr.findKey kt (C.enc k) es.toList).run P w = .ok (some (j, v)) w ∧ l[j]? = some (k, v) ∧ es[j]? = some ⟨C.enc k, v, born⟩ := by
  obtain ⟨kl, hkl⟩ := C.lit hk
  have hkeys : ∀ e ∈ es.toList, ∃ l, keyOf P kt e.key = some l := by
    intro e he
    have : (e.key, e.val) ∈ es.toList.map (fun e => (e.key, e.val)) := List.mem_map.2 ⟨e, he, rfl⟩
    rw [hl] at this
    obtain ⟨p, hp, e1⟩ := List.mem_map.1 this
    obtain ⟨l', h'⟩ := C.lit (hok p hp)
    simp only [Prod.mk.injEq] at e1
    exact ⟨l', by rw [← e1.1]; exact h'⟩
  rcases C.keyed.find w hkl es.toList hkeys with ⟨h1, h2⟩ | ⟨j, e0, h1, h2, h3⟩
  · left
    have hne : ∀ p ∈ l, p.1 ≠ k := by
      intro p hp e
      have : (C.enc p.1, p.2) ∈ l.map (fun p => (C.enc p.1, p.2)) := List.mem_map.2 ⟨p, hp, rfl⟩
      rw [← hl] at this
      obtain ⟨x, hx, e1⟩ := List.mem_map.1 this
      simp only [Prod.mk.injEq] at e1
      exact h2 x hx (by rw [e1.1, e])
    exact ⟨mget_none hne, h1, hne, h2⟩
  · right
    have hj : (es.toList.map (fun e => (e.key, e.val)))[j]? = some (e0.key, e0.val) := by simp [List.getElem?_map, h2]
    rw [hl, List.getElem?_map] at hj
    obtain ⟨p, hp, e1⟩ := Option.map_eq_some_iff.1 hj
    simp only [Prod.mk.injEq] at e1
    obtain ⟨a, v⟩ := p
    have ea : a = k := C.inj (e1.1.trans h3)
    subst ea
    obtain ⟨rfl⟩ := e1.2
    obtain ⟨g1, _, _⟩ := hu.at hp
    refine ⟨j, e0.val, e0.born, g1, h1, hp, ?_⟩
    have : es[j]? = some e0 := by simpa using h2
    rw [this, ← h3]

theorem MapIs.look_some [DecidableEq κ] (h : MapIs C w b l) {t e : TypeId} (ht : P.underlying t = some (.map kt e)) {k : κ} (hk : C.ok k) {v : Value} (hv : mget l k = some v) (c : Bool) :
    (Instr.lookup t (.map (some b)) (C.enc k) c).run P w = .ok (if c then .tuple #[v, .bool true] else v) w := by
  have hu := h.uniq
  obtain ⟨es, clock, hb, hs, hl, hok⟩ := h
  obtain ⟨kl, hkl⟩ := C.lit hk
  rcases find_list C w hl hok hu hk with ⟨h0, _⟩ | ⟨j, v', born, h0, h1, _⟩
  · rw [hv] at h0; cases h0
  · rw [hv] at h0; cases h0
    simp [Instr.lookup, run_underlying ht, run_getObj_map hb, C.keyed.check w _ hkl, h1, Result.andThen]

theorem MapIs.look_none [DecidableEq κ] (h : MapIs C w b l) {t e : TypeId} (ht : P.underlying t = some (.map kt e)) {k : κ} (hk : C.ok k) (hv : mget l k = none) {z : Value} (hz : (zeroValue e).run P w = .ok z w) (c : Bool) :
    (Instr.lookup t (.map (some b)) (C.enc k) c).run P w = .ok (if c then .tuple #[z, .bool false] else z) w := by
  have hu := h.uniq
  obtain ⟨es, clock, hb, hs, hl, hok⟩ := h
  obtain ⟨kl, hkl⟩ := C.lit hk
  rcases find_list C w hl hok hu hk with ⟨_, h1, _⟩ | ⟨j, v', born, h0, _⟩
  · simp [Instr.lookup, run_underlying ht, run_getObj_map hb, C.keyed.check w _ hkl, h1, hz, Result.andThen]
  · rw [hv] at h0; cases h0

/-- with or without: v is what is kept, or the zero -/
theorem MapIs.look [DecidableEq κ] (h : MapIs C w b l) {t e : TypeId} (ht : P.underlying t = some (.map kt e)) {k : κ} (hk : C.ok k) {z : Value} (hz : (zeroValue e).run P w = .ok z w) (c : Bool) :
    (Instr.lookup t (.map (some b)) (C.enc k) c).run P w = .ok (if c then .tuple #[(mget l k).getD z, .bool (mget l k).isSome] else (mget l k).getD z) w := by
  cases hv : mget l k with
  | none => simpa using h.look_none ht hk hv hz c
  | some v => simpa using h.look_some ht hk hv c

theorem MapIs.len (h : MapIs C w b l) {t e : TypeId} (ht : P.underlying t = some (.map kt e)) (ty : TypeId) : (Builtin.len_ #[t] ty #[.map (some b)]).run P w = .ok (.int .i64 l.length) w := by
  obtain ⟨es, clock, hb, _, hl, _⟩ := h
  have e1 : es.size = l.length := by have := congrArg List.length hl; simpa using this
  rw [← e1]
  simp [Builtin.len_, run_underlying ht, run_getObj_map hb, goInt, Result.andThen]

theorem list_modify_map {es : Array MapEntry} {j : Nat} {key val : Value} {e0 : MapEntry} (h : es[j]? = some e0) :
    (es.modify j fun e => { e with key := key, val := val }).toList.map (fun e => (e.key, e.val)) = (es.toList.map (fun e => (e.key, e.val))).set j (key, val) := by
  apply List.ext_getElem?
  intro i
  simp only [List.getElem?_map, Array.getElem?_toList, Array.getElem?_modify, List.getElem?_set]
  by_cases hij : j = i
  · subst hij
    have hlt : j < es.size := (Array.getElem?_eq_some_iff.1 h).1
    simp [hlt]
  · simp [hij]

theorem MapIs.update [DecidableEq κ] (h : MapIs C w b l) {t e : TypeId} (ht : P.underlying t = some (.map kt e)) {k : κ} (hk : C.ok k) (v : Value) :
    ∃ w', (Instr.mapUpdate t (.map (some b)) (C.enc k) v).run P w = .ok () w' ∧ MapIs C w' b (mput l k v) ∧ w.mapTurned w' b := by
  have hu := h.uniq
  obtain ⟨es, clock, hb, hs, hl, hok⟩ := h
  obtain ⟨kl, hkl⟩ := C.lit hk
  have hok' : ∀ p ∈ mput l k v, C.ok p.1 := by
    intro p hp
    rcases mem_mput hp with rfl | hp
    · exact hk
    · exact hok p hp
  rcases find_list C w hl hok hu hk with ⟨h0, h1, hne, hne'⟩ | ⟨j, v', born, h0, h1, h2, h3⟩
  · refine ⟨setBlock w b (.map (es.push { key := C.enc k, val := v, born := clock }) (clock + 1)), ?_, ⟨_, _, ChangeMaps.heap_setBlock_same hb _, stamped_push hs hne', ?_, hok'⟩, ⟨es, clock, _, _, hb, rfl⟩⟩
    · simp [Instr.mapUpdate, run_underlying ht, run_getObj_map hb, C.keyed.check w false hkl, h1, run_setObj_map _ hb, Result.andThen, setBlock]
    · rw [mput_none hne]; simp [hl]
  · have e3 : (es[j]?).map (·.key) = some (C.enc k) := by rw [h3]; rfl
    refine ⟨setBlock w b (.map (es.modify j fun e => { e with key := C.enc k, val := v }) clock), ?_, ⟨_, _, ChangeMaps.heap_setBlock_same hb _, ?_, ?_, hok'⟩, ⟨es, clock, _, _, hb, rfl⟩⟩
    · simp [Instr.mapUpdate, run_underlying ht, run_getObj_map hb, C.keyed.check w false hkl, h1, h3, C.keyed.stays w hkl, run_setObj_map _ hb, Result.andThen, setBlock]
    · refine stamped_modify hs j _ (fun _ _ => rfl) (fun e _ he => ?_)
      rw [h3] at he; cases he; rfl
    · rw [list_modify_map h3, hl, (hu.at h2).2.1, List.map_set]

theorem MapIs.delete [DecidableEq κ] (h : MapIs C w b l) {t e : TypeId} (ht : P.underlying t = some (.map kt e)) {k : κ} (hk : C.ok k) (ty : TypeId) :
    ∃ w', (Builtin.delete_ #[t, kt] ty #[.map (some b), C.enc k]).run P w = .ok (.tuple #[]) w' ∧ MapIs C w' b (mdel l k) ∧ w.mapTurned w' b := by
  have hu := h.uniq
  obtain ⟨es, clock, hb, hs, hl, hok⟩ := h
  obtain ⟨kl, hkl⟩ := C.lit hk
  have hok' : ∀ p ∈ mdel l k, C.ok p.1 := fun p hp => hok p ((mdel_sublist l k).subset hp)
  rcases find_list C w hl hok hu hk with ⟨h0, h1, hne, hne'⟩ | ⟨j, v', born, h0, h1, h2, h3⟩
  · refine ⟨setBlock w b (.map es clock), ?_, ⟨_, _, ChangeMaps.heap_setBlock_same hb _, hs, ?_, hok'⟩, ⟨es, clock, _, _, hb, rfl⟩⟩
    · simp [Builtin.delete_, run_underlying ht, run_getObj_map hb, C.keyed.check w _ hkl, h1, run_setObj_map _ hb, Result.andThen, setBlock]
    · rw [mdel_none hne]; exact hl
  · have hjs : j < es.size := (Array.getElem?_eq_some_iff.1 h3).1
    have hsub : (es.eraseIdxIfInBounds j).toList = es.toList.eraseIdx j := by
      unfold Array.eraseIdxIfInBounds
      rw [dif_pos hjs]
      simp
    refine ⟨setBlock w b (.map (es.eraseIdxIfInBounds j) clock), ?_, ⟨_, _, ChangeMaps.heap_setBlock_same hb _, stamped_erase hs j, ?_, hok'⟩, ⟨es, clock, _, _, hb, rfl⟩⟩
    · simp [Builtin.delete_, run_underlying ht, run_getObj_map hb, C.keyed.check w _ hkl, h1, run_setObj_map _ hb, Result.andThen, setBlock]
    · rw [hsub, (hu.at h2).2.2, map_eraseIdx', map_eraseIdx', hl]
end

/-! ### at the operation, for the walk -/
section
variable {P : Program} {kt : TypeId} {κ : Type} [DecidableEq κ] (C : KeyC P kt κ)

theorem wpList_mlook (w : World) {ops : Array Oper} {rest : List Oper} {o : Oper} {a : Act} {Q : Exit → Act → World → Prop}
    (hg : o.guard = none) (m x : Operand) (t : TypeId) (c : Bool) (hop : o.op = Op.lookup t m x c)
    (e : TypeId) (ht : P.underlying t = some (.map kt e)) (b : Nat) (l : List (κ × Value)) (k : κ)
    (hm : a.eval m = .map (some b)) (hx : a.eval x = C.enc k) (h : MapIs C w b l) (hk : C.ok k) (z : Value) (hz : (zeroValue e).run P w = .ok z w)
    (hK : wpList P ops Q rest (a.put o.dst (if c then .tuple #[(mget l k).getD z, .bool (mget l k).isSome] else (mget l k).getD z)) w) :
    wpList P ops Q (o :: rest) a w := by
  refine wpList_plain hg fun K' hK' => ?_
  have hrun := h.look ht hk hz c
  unfold Oper.wp
  simp [execOp, hop, hm, hx, hrun, Result.andThen]
  exact hK' _ _ hK

theorem wpList_mput (w : World) {ops : Array Oper} {rest : List Oper} {o : Oper} {a : Act} {Q : Exit → Act → World → Prop}
    (hg : o.guard = none) (m x v : Operand) (t : TypeId) (hop : o.op = Op.mapUpdate t m x v)
    (e : TypeId) (ht : P.underlying t = some (.map kt e)) (b : Nat) (l : List (κ × Value)) (k : κ) (val : Value)
    (hm : a.eval m = .map (some b)) (hx : a.eval x = C.enc k) (hv : a.eval v = val) (h : MapIs C w b l) (hk : C.ok k)
    (hK : ∀ w', MapIs C w' b (mput l k val) → w.mapTurned w' b → wpList P ops Q rest (a.put o.dst undef) w') :
    wpList P ops Q (o :: rest) a w := by
  refine wpList_plain hg fun K' hK' => ?_
  obtain ⟨w', hrun, r1, r2⟩ := h.update ht hk val
  unfold Oper.wp
  simp [execOp, hop, hm, hx, hv, hrun, Result.andThen]
  exact hK' _ _ (hK w' r1 r2)

theorem wpList_mdel (w : World) {ops : Array Oper} {rest : List Oper} {o : Oper} {a : Act} {Q : Exit → Act → World → Prop}
    (hg : o.guard = none) (m x : Operand) (t : TypeId) (hop : o.op = Op.call { callee := Callee.builtin Builtin.delete, args := #[m, x], argTypes := #[t, kt] })
    (e : TypeId) (ht : P.underlying t = some (.map kt e)) (b : Nat) (l : List (κ × Value)) (k : κ)
    (hm : a.eval m = .map (some b)) (hx : a.eval x = C.enc k) (h : MapIs C w b l) (hk : C.ok k)
    (hK : ∀ w', MapIs C w' b (mdel l k) → w.mapTurned w' b → wpList P ops Q rest (a.put o.dst (.tuple #[])) w') :
    wpList P ops Q (o :: rest) a w := by
  refine wpList_plain hg fun K' hK' => ?_
  obtain ⟨w', hrun, r1, r2⟩ := h.delete ht hk o.type
  unfold Oper.wp
  simp [execOp, hop, resolve, invoke, builtin, hm, hx, hrun, Result.andThen]
  exact hK' _ _ (hK w' r1 r2)

omit [DecidableEq κ] in
theorem wpList_mlen (w : World) {ops : Array Oper} {rest : List Oper} {o : Oper} {a : Act} {Q : Exit → Act → World → Prop}
    (hg : o.guard = none) (m : Operand) (t : TypeId) (hop : o.op = Op.call { callee := Callee.builtin Builtin.len, args := #[m], argTypes := #[t] })
    (e : TypeId) (ht : P.underlying t = some (.map kt e)) (b : Nat) (l : List (κ × Value))
    (hm : a.eval m = .map (some b)) (h : MapIs C w b l)
    (hK : wpList P ops Q rest (a.put o.dst (.int .i64 l.length)) w) :
    wpList P ops Q (o :: rest) a w := by
  refine wpList_plain hg fun K' hK' => ?_
  have hrun := h.len ht o.type
  unfold Oper.wp
  simp [execOp, hop, resolve, invoke, builtin, hm, hrun, Result.andThen]
  exact hK' _ _ hK
end

/-! ### a world that is as another one off a set of blocks -/
structure Off (S : Nat → Prop) (w w' : World) : Prop where
  os : w'.os = w.os
  tape : w'.tape = w.tape
  output : w'.output = w.output
  size : w.heap.size ≤ w'.heap.size
  block : ∀ k, k < w.heap.size → ¬ S k → w'.heap[k]? = w.heap[k]?

namespace Off
variable {S T : Nat → Prop} {w w1 w2 : World}
theorem refl (S : Nat → Prop) (w : World) : Off S w w := ⟨rfl, rfl, rfl, Nat.le_refl _, fun _ _ _ => rfl⟩
theorem trans (h : Off S w w1) (k : Off S w1 w2) : Off S w w2 :=
  ⟨k.os.trans h.os, k.tape.trans h.tape, k.output.trans h.output, Nat.le_trans h.size k.size, fun i hi hs => (k.block i (Nat.lt_of_lt_of_le hi h.size) hs).trans (h.block i hi hs)⟩
/-- the second one writes in what the first one may write, or in what is new -/
theorem next (h : Off S w w1) (k : Off T w1 w2) (hT : ∀ i, T i → S i ∨ w.heap.size ≤ i) : Off S w w2 :=
  ⟨k.os.trans h.os, k.tape.trans h.tape, k.output.trans h.output, Nat.le_trans h.size k.size, fun i hi hs => (k.block i (Nat.lt_of_lt_of_le hi h.size) (fun ht => by rcases hT i ht with h | h; exact hs h; omega)).trans (h.block i hi hs)⟩
theorem mono (h : Off S w w1) (hST : ∀ i, i < w.heap.size → S i → T i) : Off T w w1 := ⟨h.os, h.tape, h.output, h.size, fun i hi hs => h.block i hi (fun hh => hs (hST i hi hh))⟩
theorem alloc (h : Off S w w1) (o : Obj) : Off S w (w1.alloc o) :=
  h.trans ⟨rfl, rfl, rfl, by simp, fun k hk _ => RowKit.Below.heap_alloc _ _ _ hk⟩
theorem drew (h : Off S w w1) : Off S w w1.drew := ⟨h.os, h.tape, h.output, h.size, h.block⟩
theorem drewN (h : Off S w w1) (n : Nat) : Off S w (w1.drewN n) := ⟨h.os, h.tape, h.output, h.size, h.block⟩
theorem setCell (h : Off S w w1) {p : Addr} (hp : S p.block ∨ w.heap.size ≤ p.block) (u : Value) : Off S w (w1.setCell p u) :=
  ⟨h.os, h.tape, h.output, by simpa [World.setCell] using h.size, fun k hk hs => (RowKit.Below.heap_setCell _ _ _ _ (fun e => by subst e; rcases hp with hp | hp; exact hs hp; omega)).trans (h.block k hk hs)⟩
theorem turned (h : Off S w w1) {b : Nat} (ht : w1.mapTurned w2 b) (hb : S b ∨ w.heap.size ≤ b) : Off S w w2 := by
  have g := ht.grown
  exact ⟨g.os.trans h.os, g.tape.trans h.tape, g.output.trans h.output, Nat.le_trans h.size g.size, fun k hk hs => (g.block k (Nat.lt_of_lt_of_le hk h.size) (fun e => by cases e; rcases hb with hb | hb; exact hs hb; omega)).trans (h.block k hk hs)⟩
theorem grown (h : Off S w w1) {row : Option Nat} (g : w1.grownBy w2 row) (hr : ∀ b, row = some b → S b ∨ w.heap.size ≤ b) : Off S w w2 :=
  ⟨g.os.trans h.os, g.tape.trans h.tape, g.output.trans h.output, Nat.le_trans h.size g.size, fun k hk hs => (g.block k (Nat.lt_of_lt_of_le hk h.size) (fun e => by rcases hr k e.symm with hb | hb; exact hs hb; omega)).trans (h.block k hk hs)⟩
theorem below (h : Off S w w1) {B : Nat} (hB : B ≤ w.heap.size) (hS : ∀ i, S i → B ≤ i) : RowKit.Below B w w1 :=
  ⟨h.os, h.tape, h.output, h.size, fun i hi => h.block i (by omega) (fun hs => by have := hS i hs; omega)⟩
theorem cell (h : Off S w w1) {p : Addr} (hp : p.block < w.heap.size) (hs : ¬ S p.block) : w1.cell? p = w.cell? p := World.cell?_of_block (w := w) (h.block _ hp hs)
theorem frozen (h : Off S w w1) {p : Addr} (hp : p.block < w.heap.size) (hs : ¬ S p.block) : w1.frozen? p = w.frozen? p := World.frozen?_of_block (w := w) (h.block _ hp hs)
theorem map {P : Program} {kt : TypeId} {κ : Type} {C : KeyC P kt κ} {b : Nat} {l : List (κ × Value)} (h : Off S w w1) (hm : MapIs C w b l) (hs : ¬ S b) : MapIs C w1 b l :=
  hm.of_block (h.block b hm.lt hs)
end Off

theorem turned_size {w w' : World} {b : Nat} (h : w.mapTurned w' b) : w'.heap.size = w.heap.size := by
  obtain ⟨_, _, _, _, _, rfl⟩ := h
  simp [setBlock]
theorem turned_block {w w' : World} {b : Nat} (h : w.mapTurned w' b) {k : Nat} (hk : k ≠ b) : w'.heap[k]? = w.heap[k]? := by
  obtain ⟨_, _, _, _, hb, rfl⟩ := h
  exact ChangeMaps.heap_setBlock_other hb _ hk

/-! ### a row of values of one cell each, to be read -/
def RowAt (w : World) (v : Value) (xs : List Value) : Prop :=
  (v = .slice none 0 0 ∧ xs = []) ∨ ∃ b o cap, v = .slice (some ⟨b, o, none⟩) xs.length cap ∧ ∀ j u, xs[j]? = some u → w.cell? ⟨b, o + j, none⟩ = some u

theorem RowAt.off {S : Nat → Prop} {w w' : World} {v : Value} {xs : List Value} (h : RowAt w v xs) (ho : Off S w w') (hS : ∀ k, v.ownBlock = some k → ¬ S k) : RowAt w' v xs := by
  rcases h with h | ⟨b, o, cap, rfl, h⟩
  · exact .inl h
  · refine .inr ⟨b, o, cap, rfl, fun j u hu => ?_⟩
    have := h j u hu
    rw [ho.cell (p := ⟨b, o + j, none⟩) (World.block_lt_of_cell? _ _ this) (hS b rfl)]
    exact this

theorem RowAt.of_own {w : World} {base : Nat} {e : TypeId} {v : Value} {n : Nat} {xs : List Value} (h : w.ownsRow base e 1 v n xs) : RowAt w v xs := by
  have hc := fun g hg => World.ownsRow.cells h (g := g) hg
  have hl := h.1
  rcases h.2 with ⟨rfl, rfl⟩ | ⟨g, cap, cur, rfl, _⟩
  · exact .inl ⟨rfl, List.eq_nil_of_length_eq_zero (by simpa using hl)⟩
  · refine .inr ⟨g, 0, cap, by rw [hl, Nat.mul_one], fun j u hu => ?_⟩
    have := hc g rfl j u hu
    have hadd : (⟨g, 0, none⟩ : Addr).add j = ⟨g, 0 + j, none⟩ := by unfold Addr.add; split <;> simp_all
    rwa [hadd] at this

/-- nothing that was there has turned -/
abbrev Grew (w w' : World) : Prop := Off (fun _ => False) w w'

end Stv
