/- 'Move' and 'Set' of the pool. -/
import Derived.Test.YtagdolkfefbohaaPool3
namespace Go.Proofs.Ytagdolkfefbohaa
open Go.RowKit Stv

def eset (L : List Ent) (id : Int) (f : Ent → Ent) : List Ent := L.map fun e => if e.id = id then f e else e

theorem PoolAt.ids {w : World} {p m : Nat} {most last : Int} {L : List Ent} (hp : PoolAt w p m most last L) : (L.map (·.id)).Nodup := by
  have := hp.map.uniq
  unfold Uniq at this
  simpa [List.map_map, Function.comp_def, Ent.pair] using this

theorem nodup_inj {α β : Type} {f : α → β} {l : List α} (h : (l.map f).Nodup) {a b : α} (ha : a ∈ l) (hb : b ∈ l) (e : f a = f b) : a = b := by
  induction l with
  | nil => cases ha
  | cons x r ih =>
    simp only [List.map_cons, List.nodup_cons] at h
    rcases List.mem_cons.1 ha with e1 | h1 <;> rcases List.mem_cons.1 hb with e2 | h2
    · rw [e1, e2]
    · exact absurd (List.mem_map.2 ⟨b, h2, by rw [← e, e1]⟩) h.1
    · exact absurd (List.mem_map.2 ⟨a, h1, by rw [e, e2]⟩) h.1
    · exact ih h.2 h1 h2

theorem pool_set {w : World} {p m : Nat} {most last : Int} {L : List Ent} (hp : PoolAt w p m most last L) {id : Int} {x : Ent} (he : eget L id = some x) (i : Nat) (v : Value) (f : Ent → Ent)
    (hid : ∀ e, (f e).id = e.id) (hb : ∀ e, (f e).blk = e.blk)
    (hc : (#[.int .u64 x.id, .string x.holder, .string x.text] : Array Value).setIfInBounds i v = #[.int .u64 (f x).id, .string (f x).holder, .string (f x).text]) :
    PoolAt (w.setCell ⟨x.blk, i, none⟩ v) p m most last (eset L id f) ∧ Off (poolBlks p m L) w (w.setCell ⟨x.blk, i, none⟩ v) := by
  obtain ⟨hxm, hxi⟩ := eget_mem he
  have hx := hp.ents x hxm
  have hxp : p ≠ x.blk := by
    intro e; rw [← e, hp.self] at hx; cases hx
  have hxmm : m ≠ x.blk := by
    intro e
    obtain ⟨es, clock, hb, _⟩ := hp.map
    rw [← e, hb] at hx; cases hx
  have hpair : ∀ e : Ent, Ent.pair (if e.id = id then f e else e) = Ent.pair e := by
    intro e; split
    · simp [Ent.pair, hid, hb]
    · rfl
  refine ⟨⟨?_, ?_, ?_, ?_⟩, (Off.refl _ _).setCell (.inl (.inr (.inr ⟨x, hxm, rfl⟩))) _⟩
  · rw [Below.heap_setCell _ _ _ _ hxp]; exact hp.self
  · have e1 : (eset L id f).map Ent.pair = L.map Ent.pair := by
      unfold eset; rw [List.map_map]; exact List.map_congr_left fun e _ => hpair e
    rw [e1]
    exact hp.map.of_block (Below.heap_setCell _ _ _ _ hxmm)
  · intro e' he'
    unfold eset at he'
    obtain ⟨e, hem, rfl⟩ := List.mem_map.1 he'
    by_cases h1 : e.id = id
    · have : e = x := nodup_inj hp.ids hem hxm (h1.trans hxi.symm)
      subst this
      rw [if_pos h1, hb]
      simp only [World.setCell, Array.getElem?_modify, if_true, hx, Option.map_some, Option.isSome_none, Bool.false_eq_true, if_false, hc]
    · rw [if_neg h1]
      have hne : e.blk ≠ x.blk := by
        intro e1
        have := nodup_inj hp.blks hem hxm e1
        subst this
        exact h1 hxi
      rw [Below.heap_setCell _ _ _ _ hne]
      exact hp.ents e hem
  · have e1 : (eset L id f).map (·.blk) = L.map (·.blk) := by
      unfold eset; rw [List.map_map]
      refine List.map_congr_left fun e _ => ?_
      simp only [Function.comp]
      split
      · exact hb e
      · rfl
    rw [e1]; exact hp.blks

set_option maxHeartbeats 400000 in
theorem move_arg {w : World} {p m : Nat} {most last : Int} {L : List Ent} (hp : PoolAt w p m most last L) (id : Int) (h t : ByteArray) (ht : t.size = 0) :
    Calls Try.prog 16 #[.pointer (some ⟨p, 0, none⟩), .int .u64 id, .string h, .string t] w fun e w' => e = .returned (.int .i64 2) ∧ w = w' := by
  have m1 := fun w => run_neq_map_nil (P := Try.prog) w 55 30 59 (some m) Try.underlying55
  have g2 := hp.c2
  have hs := str_emp_yes ht
  clear hp ht
  go_enter Try.func16, Try.ntmps16
  go_wp2
  go_ret
  exact ⟨rfl, rfl⟩

set_option maxHeartbeats 400000 in
theorem move_none {w : World} {p m : Nat} {most last : Int} {L : List Ent} (hp : PoolAt w p m most last L) {id : Int} (hid : (Lit.int .u64 id).wf = true) (h t : ByteArray) (ht : t.size ≠ 0) (he : eget L id = none) :
    Calls Try.prog 16 #[.pointer (some ⟨p, 0, none⟩), .int .u64 id, .string h, .string t] w fun e w' => e = .returned (.int .i64 5) ∧ w = w' := by
  have m1 := fun w => run_neq_map_nil (P := Try.prog) w 55 30 59 (some m) Try.underlying55
  have g2 := hp.c2
  have hs := str_emp_no ht
  have HP := Lib.hid hp
  clear hp ht
  go_enter Try.func16, Try.ntmps16
  go_wp2_with (go_at_call 23; refine (of_none HP.out hid _ he).mono ?_; rintro e w' ⟨rfl, rfl⟩)
  go_ret
  exact ⟨rfl, rfl⟩

set_option maxHeartbeats 400000 in
theorem move_state {w : World} {p m : Nat} {most last : Int} {L : List Ent} (hp : PoolAt w p m most last L) {id : Int} (hid : (Lit.int .u64 id).wf = true) (h t : ByteArray) (ht : t.size ≠ 0) {x : Ent} (he : eget L id = some x) (hn : x.holder ≠ h) :
    Calls Try.prog 16 #[.pointer (some ⟨p, 0, none⟩), .int .u64 id, .string h, .string t] w fun e w' => e = .returned (.int .i64 3) ∧ w = w' := by
  have m1 := fun w => run_neq_map_nil (P := Try.prog) w 55 30 59 (some m) Try.underlying55
  have g2 := hp.c2
  have hs := str_emp_no ht
  have HP := Lib.hid hp
  have HE := Lib.hid he
  clear hp ht he
  go_enter Try.func16, Try.ntmps16
  go_wp2_with (go_at_call 23; refine (of_state HP.out hid _ HE.out hn).mono ?_; rintro e w' ⟨rfl, rfl⟩)
  go_ret
  exact ⟨rfl, rfl⟩

set_option maxHeartbeats 400000 in
theorem move_ok {w : World} {p m : Nat} {most last : Int} {L : List Ent} (hp : PoolAt w p m most last L) {id : Int} (hid : (Lit.int .u64 id).wf = true) (h t : ByteArray) (ht : t.size ≠ 0) {x : Ent} (he : eget L id = some x) (hn : x.holder = h) :
    Calls Try.prog 16 #[.pointer (some ⟨p, 0, none⟩), .int .u64 id, .string h, .string t] w fun e w' => e = .returned (.int .i64 0) ∧
      PoolAt w' p m most last (eset L id fun e => { e with holder := t }) ∧ Off (poolBlks p m L) w w' ∧ w'.heap.size = w.heap.size := by
  have m1 := fun w => run_neq_map_nil (P := Try.prog) w 55 30 59 (some m) Try.underlying55
  have g2 := hp.c2
  have hs := str_emp_no ht
  have hx := hp.ents x (eget_mem he).1
  have e1 : w.cell? ⟨x.blk, 1, none⟩ = some (.string x.holder) := cell_of hx 1
  have f1 : w.frozen? ⟨x.blk, 1, none⟩ = false := frozen_of hx 1
  have HS := Lib.hid (pool_set hp he 1 (.string t) (fun e => { e with holder := t }) (fun _ => rfl) (fun _ => rfl) (by simp))
  have HP := Lib.hid hp
  have HE := Lib.hid he
  have HN := Lib.hid hn
  clear hp ht he hx hn
  go_enter Try.func16, Try.ntmps16
  go_wp2_with (go_at_call 23; refine (of_ok HP.out hid _ HE.out HN.out).mono ?_; rintro e w' ⟨rfl, rfl⟩)
  go_ret
  exact ⟨rfl, HS.out.1, HS.out.2, by simp⟩

set_option maxHeartbeats 400000 in
theorem set_none {w : World} {p m : Nat} {most last : Int} {L : List Ent} (hp : PoolAt w p m most last L) {id : Int} (hid : (Lit.int .u64 id).wf = true) (h t : ByteArray) (he : eget L id = none) :
    Calls Try.prog 17 #[.pointer (some ⟨p, 0, none⟩), .int .u64 id, .string h, .string t] w fun e w' => e = .returned (.int .i64 5) ∧ w = w' := by
  have HP := Lib.hid hp
  clear hp
  go_enter Try.func17, Try.ntmps17
  go_wp2_with (go_at_call 23; refine (of_none HP.out hid _ he).mono ?_; rintro e w' ⟨rfl, rfl⟩)
  go_ret
  exact ⟨rfl, rfl⟩

set_option maxHeartbeats 400000 in
theorem set_state {w : World} {p m : Nat} {most last : Int} {L : List Ent} (hp : PoolAt w p m most last L) {id : Int} (hid : (Lit.int .u64 id).wf = true) (h t : ByteArray) {x : Ent} (he : eget L id = some x) (hn : x.holder ≠ h) :
    Calls Try.prog 17 #[.pointer (some ⟨p, 0, none⟩), .int .u64 id, .string h, .string t] w fun e w' => e = .returned (.int .i64 3) ∧ w = w' := by
  have HP := Lib.hid hp
  have HE := Lib.hid he
  clear hp he
  go_enter Try.func17, Try.ntmps17
  go_wp2_with (go_at_call 23; refine (of_state HP.out hid _ HE.out hn).mono ?_; rintro e w' ⟨rfl, rfl⟩)
  go_ret
  exact ⟨rfl, rfl⟩

set_option maxHeartbeats 400000 in
theorem set_long {w : World} {p m : Nat} {most last : Int} {L : List Ent} (hp : PoolAt w p m most last L) {id : Int} (hid : (Lit.int .u64 id).wf = true) (h t : ByteArray) {x : Ent} (he : eget L id = some x) (hn : x.holder = h) (ht : 65549 < t.size) :
    Calls Try.prog 17 #[.pointer (some ⟨p, 0, none⟩), .int .u64 id, .string h, .string t] w fun e w' => e = .returned (.int .i64 4) ∧ w = w' := by
  have HP := Lib.hid hp
  have HE := Lib.hid he
  have HN := Lib.hid hn
  clear hp he hn
  go_enter Try.func17, Try.ntmps17
  go_wp2_with (go_at_call 23; refine (of_ok HP.out hid _ HE.out HN.out).mono ?_; rintro e w' ⟨rfl, rfl⟩)
  go_ret
  exact ⟨rfl, rfl⟩

set_option maxHeartbeats 400000 in
theorem set_ok {w : World} {p m : Nat} {most last : Int} {L : List Ent} (hp : PoolAt w p m most last L) {id : Int} (hid : (Lit.int .u64 id).wf = true) (h t : ByteArray) {x : Ent} (he : eget L id = some x) (hn : x.holder = h) (ht : t.size ≤ 65549) :
    Calls Try.prog 17 #[.pointer (some ⟨p, 0, none⟩), .int .u64 id, .string h, .string t] w fun e w' => e = .returned (.int .i64 0) ∧
      PoolAt w' p m most last (eset L id fun e => { e with text := t }) ∧ Off (poolBlks p m L) w w' ∧ w'.heap.size = w.heap.size := by
  have hx := hp.ents x (eget_mem he).1
  have e1 : w.cell? ⟨x.blk, 2, none⟩ = some (.string x.text) := cell_of hx 2
  have f1 : w.frozen? ⟨x.blk, 2, none⟩ = false := frozen_of hx 2
  have HS := Lib.hid (pool_set hp he 2 (.string t) (fun e => { e with text := t }) (fun _ => rfl) (fun _ => rfl) (by simp))
  have HP := Lib.hid hp
  have HE := Lib.hid he
  have HN := Lib.hid hn
  clear hp he hx hn
  go_enter Try.func17, Try.ntmps17
  go_wp2_with (go_at_call 23; refine (of_ok HP.out hid _ HE.out HN.out).mono ?_; rintro e w' ⟨rfl, rfl⟩)
  go_ret
  exact ⟨rfl, HS.out.1, HS.out.2, by simp⟩

end Go.Proofs.Ytagdolkfefbohaa
