/- The document's pool in memory; 'At'. -/
import Derived.Test.YtagdolkfefbohaaDoes
import Derived.Test.YtagdolkfefbohaaBase4
namespace Go.Proofs.Ytagdolkfefbohaa
open Go.RowKit Stv

def bufCells (b : Buf) : List Value := [.int .u64 b.id, .string b.holder, .string b.text]
def flat (V : List Buf) : List Value := V.flatMap bufCells

theorem flat_len (V : List Buf) : (flat V).length = V.length * 3 := by
  induction V with
  | nil => rfl
  | cons b r ih => simp only [flat, List.flatMap_cons, List.length_append, List.length_cons] at ih ⊢; rw [ih]; simp [bufCells]; omega
theorem flat_get {V : List Buf} : ∀ {k : Nat} {b : Buf}, V[k]? = some b → ∀ j, j < 3 → (flat V)[k * 3 + j]? = (bufCells b)[j]? := by
  induction V with
  | nil => intro k b h; simp at h
  | cons c r ih =>
    intro k b h j hj
    have hc : (bufCells c).length = 3 := rfl
    cases k with
    | zero =>
      simp at h; subst h
      simp only [flat, List.flatMap_cons]
      rw [List.getElem?_append_left (by rw [hc]; omega)]
      simp
    | succ k =>
      simp at h
      simp only [flat, List.flatMap_cons]
      rw [List.getElem?_append_right (by rw [hc]; omega), hc, show (k + 1) * 3 + j - 3 = k * 3 + j by omega]
      exact ih h j hj
theorem flat_one (V : List Buf) : ∀ u ∈ flat V, u.oneCell' = true := by
  intro u hu
  obtain ⟨b, _, hb⟩ := List.mem_flatMap.1 hu
  simp only [bufCells, List.mem_cons, List.not_mem_nil, or_false] at hb
  rcases hb with rfl | rfl | rfl <;> rfl
theorem flat_append (V W : List Buf) : flat (V ++ W) = flat V ++ flat W := by simp [flat]

structure RefAt (w : World) (r : Nat) (most last : Int) (lv : Value) (V : List Buf) : Prop where
  self : w.heap[r]? = some (.cells #[.int .i64 most, .int .u64 last, lv] 33 (0, 0))
  row : OwnRow w 42 3 lv V.length (flat V)

def refBlks (r : Nat) (lv : Value) (k : Nat) : Prop := k = r ∨ lv.ownBlock = some k

namespace RefAt
variable {w : World} {r : Nat} {most last : Int} {lv : Value} {V : List Buf}
theorem c0 (h : RefAt w r most last lv V) : w.cell? ⟨r, 0, none⟩ = some (.int .i64 most) := cell_of h.self 0
theorem c1 (h : RefAt w r most last lv V) : w.cell? ⟨r, 1, none⟩ = some (.int .u64 last) := cell_of h.self 1
theorem c2 (h : RefAt w r most last lv V) : w.cell? ⟨r, 2, none⟩ = some lv := cell_of h.self 2
theorem f (h : RefAt w r most last lv V) (i : Nat) : w.frozen? ⟨r, i, none⟩ = false := frozen_of h.self i
theorem lt (h : RefAt w r most last lv V) : r < w.heap.size := (Array.getElem?_eq_some_iff.1 h.self).1
theorem ne (h : RefAt w r most last lv V) : lv.ownBlock ≠ some r := by
  intro hk
  rcases h.row.2 with ⟨e, _⟩ | ⟨g, cap, cur, e, _, hg, _⟩
  · rw [e] at hk; cases hk
  · rw [e] at hk; cases hk
    rw [h.self] at hg; cases hg
theorem off {S : Nat → Prop} {w' : World} (h : RefAt w r most last lv V) (ho : Off S w w') (hS : ∀ k, refBlks r lv k → ¬ S k) : RefAt w' r most last lv V :=
  ⟨(ho.block r h.lt (hS r (.inl rfl))).trans h.self, h.row.off ho fun k hk => hS k (.inr hk)⟩
/-- the slice's parts, each buffer's cells -/
theorem form (h : RefAt w r most last lv V) : ∃ a cap, lv = .slice a V.length cap ∧ V.length ≤ cap ∧ cap ≤ maxLen ∧ (a = none → V.length = 0 ∧ cap = 0) ∧ ∀ b, a = some b → ∃ g, b = ⟨g, 0, none⟩ ∧ g < w.heap.size ∧ lv.ownBlock = some g ∧ ∀ k (hk : k < V.length),
    w.cell? ⟨g, k * 3, none⟩ = some (.int .u64 V[k].id) ∧ w.cell? ⟨g, k * 3 + 1, none⟩ = some (.string V[k].holder) ∧ w.cell? ⟨g, k * 3 + 2, none⟩ = some (.string V[k].text) := by
  obtain ⟨a, cap, hv, h1, h2, h3, h4⟩ := h.row.form
  refine ⟨a, cap, hv, h1, h2, h3, fun b hb => ?_⟩
  obtain ⟨g, rfl, hl, ho, hc⟩ := h4 b hb
  refine ⟨g, rfl, hl, ho, fun k hk => ?_⟩
  have hV : V[k]? = some V[k] := List.getElem?_eq_getElem hk
  exact ⟨(hc (k * 3 + 0) _ (flat_get hV 0 (by omega))).1, (hc _ _ (flat_get hV 1 (by omega))).1, (hc _ _ (flat_get hV 2 (by omega))).1⟩
end RefAt

/-! ### At -/
def vidxFrom : List Buf → Int → Nat → Int
  | [], _, _ => -1
  | b :: r, id, k => if b.id = id then (k : Int) else vidxFrom r id (k + 1)
def vidx (V : List Buf) (id : Int) : Int := vidxFrom V id 0

theorem vidxFrom_at {V : List Buf} {id : Int} : ∀ {k b : Nat} (hk : k < V.length), (∀ j (hj : j < k), V[j].id ≠ id) → V[k].id = id → vidxFrom V id b = ((b + k : Nat) : Int) := by
  induction V with
  | nil => intro k b hk; simp at hk
  | cons c r ih =>
    intro k b hk hne he
    cases k with
    | zero => simp at he; simp [vidxFrom, he]
    | succ k =>
      have h0 : c.id ≠ id := hne 0 (by omega)
      simp only [vidxFrom]
      rw [if_neg h0, ih (k := k) (b := b + 1) (by simpa using hk) (fun j hj => by have := hne (j + 1) (by omega); simpa using this) (by simpa using he)]
      omega
theorem vidxFrom_none {V : List Buf} {id : Int} : ∀ {b : Nat}, (∀ j (hj : j < V.length), V[j].id ≠ id) → vidxFrom V id b = -1 := by
  induction V with
  | nil => intro b _; rfl
  | cons c r ih =>
    intro b hne
    have h0 : c.id ≠ id := hne 0 (by simp)
    simp only [vidxFrom]
    rw [if_neg h0]
    exact ih (fun j hj => by have := hne (j + 1) (by simpa using hj); simpa using this)
theorem vidx_at {V : List Buf} {id : Int} {k : Nat} (hk : k < V.length) (h : ∀ j (hj : j < k), V[j].id ≠ id) (he : V[k].id = id) : vidx V id = (k : Int) := by
  unfold vidx; rw [vidxFrom_at hk h he]; simp
theorem vidx_none {V : List Buf} {id : Int} (h : ∀ j (hj : j < V.length), V[j].id ≠ id) : vidx V id = -1 := vidxFrom_none h

theorem vget_none_of {V : List Buf} {id : Int} (h : ∀ j (hj : j < V.length), V[j].id ≠ id) : vget V id = none := by
  induction V with
  | nil => rfl
  | cons c r ih =>
    have h0 : c.id ≠ id := h 0 (by simp)
    simp only [vget]
    rw [if_neg h0]
    exact ih (fun j hj => by have := h (j + 1) (by simpa using hj); simpa using this)
theorem vget_at {V : List Buf} {id : Int} : ∀ {k : Nat} (hk : k < V.length), (∀ j (hj : j < k), V[j].id ≠ id) → V[k].id = id → vget V id = some V[k] := by
  induction V with
  | nil => intro k hk; simp at hk
  | cons c r ih =>
    intro k hk hne he
    cases k with
    | zero => simp at he; simp [vget, he]
    | succ k =>
      have h0 : c.id ≠ id := hne 0 (by omega)
      simp only [vget]
      rw [if_neg h0, ih (k := k) (by simpa using hk) (fun j hj => by have := hne (j + 1) (by omega); simpa using this) (by simpa using he)]
      simp
/-- either it is nowhere, or at one place, the first -/
theorem vidx_cases (V : List Buf) (id : Int) : (vidx V id = -1 ∧ vget V id = none) ∨ ∃ (k : Nat) (hk : k < V.length), vidx V id = (k : Int) ∧ vget V id = some V[k] ∧ V[k].id = id ∧ ∀ j (hj : j < k), V[j].id ≠ id := by
  by_cases h : ∃ k, ∃ hk : k < V.length, V[k].id = id
  · have hex : ∃ k : Nat, (∃ hk : k < V.length, V[k].id = id) ∧ ∀ j, j < k → ∀ hj : j < V.length, V[j].id ≠ id := by
      obtain ⟨k, hk, he⟩ := h
      induction k using Nat.strongRecOn with
      | _ k ih =>
        by_cases h2 : ∃ j, ∃ hj : j < V.length, j < k ∧ V[j].id = id
        · obtain ⟨j, hj, hjk, hj2⟩ := h2
          exact ih j hjk hj hj2
        · exact ⟨k, ⟨hk, he⟩, fun j hjk hj e => h2 ⟨j, hj, hjk, e⟩⟩
    obtain ⟨k, ⟨hk, he⟩, hmin⟩ := hex
    have hm : ∀ j (hj : j < k), V[j].id ≠ id := fun j hj => hmin j hj (by omega)
    exact .inr ⟨k, hk, vidx_at hk hm he, vget_at hk hm he, he, hm⟩
  · have hne : ∀ j (hj : j < V.length), V[j].id ≠ id := fun j hj e => h ⟨j, hj, e⟩
    exact .inl ⟨vidx_none hne, vget_none_of hne⟩

set_option maxHeartbeats 400000 in
theorem at_any {w : World} {r : Nat} {most last : Int} {lv : Value} {V : List Buf} (h : RefAt w r most last lv V) (id : Int) (hlen : V.length ≤ 9223372036854775807) :
    Calls Try.prog 13 #[.pointer (some ⟨r, 0, none⟩), .int .u64 id] w fun e w' => e = .returned (.int .i64 (vidx V id)) ∧ w = w' := by
  obtain ⟨a, cap, rfl, _, _, hnone, hc⟩ := h.form
  have c2 := h.c2
  have HC := Lib.hid hc
  have HN := Lib.hid hnone
  clear h hc hnone
  go_enter Try.func13, Try.ntmps13
  go_wp2
  go_loop [5] (fun i => ∃ k : Nat, k ≤ V.length ∧ i = .int .i64 k ∧ Hid (∀ j (hj : j < V.length), j < k → V[j].id ≠ id)) (fun i => V.length - (intOf i).toNat)
  case atStart => exact ⟨0, Nat.zero_le _, rfl, fun j _ hj => by omega⟩
  case round =>
    obtain ⟨k, hk, rfl, hne⟩ := hrel
    by_cases hlt : k < V.length
    · have ha : ∃ b, a = some b := by
        cases a with
        | none => have := (HN.out rfl).1; omega
        | some b => exact ⟨b, rfl⟩
      obtain ⟨b, rfl⟩ := ha
      obtain ⟨g, rfl, _, _, hcells⟩ := HC.out b rfl
      have e0 := (hcells k hlt).1
      clear hcells
      obtain ⟨x, hx⟩ : ∃ x, x = V[k].id := ⟨_, rfl⟩
      rw [← hx] at e0
      have HX := Lib.hid hx
      clear hx
      by_cases he : x = id
      · have hb : (x == id) = true := beq_iff_eq.2 he
        have HE := Lib.hid he
        clear he
        go_wp2
        go_ret
        have := vidx_at hlt (fun j hj => hne.out j (by omega) hj) (HX.out.symm.trans HE.out)
        exact ⟨by rw [this]; rfl, rfl⟩
      · have hb : (x == id) = false := beq_eq_false_iff_ne.2 he
        have HE := Lib.hid he
        clear he
        go_wp2
        go_round
        case rel =>
          refine ⟨k + 1, by omega, by go_num, fun j hj hjk => ?_⟩
          by_cases hjj : j < k
          · exact hne.out j hj hjj
          · obtain rfl : j = k := by omega
            rw [← HX.out]; exact HE.out
        case measure => simp [intOf]; omega
    · go_wp2
      go_ret
      have := vidx_none (fun j hj => hne.out j hj (by omega))
      exact ⟨by rw [this]; rfl, rfl⟩
end Go.Proofs.Ytagdolkfefbohaa
