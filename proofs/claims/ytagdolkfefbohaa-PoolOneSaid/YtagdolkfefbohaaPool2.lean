/- 'New', 'Free', 'Get', 'Move', 'Set', 'Take' of the pool: what each call does to memory. -/
import Derived.Test.YtagdolkfefbohaaPool1
namespace Go.Proofs.Ytagdolkfefbohaa
open Go.RowKit Stv

/-! ### New -/
set_option maxHeartbeats 400000 in
theorem new_bad (n : Int) (hn : n < 1 ∨ 4096 < n) (w : World) :
    Calls Try.prog 8 #[.int .i64 n] w fun e w' => e = .returned (.tuple #[.pointer none, .int .i64 2]) ∧ w = w' := by
  rcases hn with hn | hn
  · go_enter Try.func8, Try.ntmps8
    go_wp2
    go_ret2
    exact ⟨rfl, rfl⟩
  · have h1 : ¬ n < 1 := by omega
    go_enter Try.func8, Try.ntmps8
    go_wp2
    go_ret2
    exact ⟨rfl, rfl⟩

set_option maxHeartbeats 400000 in
theorem new_ok (n : Int) (h1 : 1 ≤ n) (h2 : n ≤ 4096) (w : World) :
    Calls Try.prog 8 #[.int .i64 n] w fun e w' => e = .returned (.tuple #[.pointer (some ⟨w.heap.size + 1, 0, none⟩), .int .i64 0]) ∧ PoolAt w' (w.heap.size + 1) w.heap.size n 0 [] ∧ Grew w w' ∧ w'.heap.size = w.heap.size + 2 := by
  have hmm := @run_makeMap Try.prog
  go_enter Try.func8, Try.ntmps8
  go_wp2
  go_ret2
  refine ⟨rfl, ⟨?_, ?_, by simp, by simp⟩, ((Off.refl _ _).alloc _).alloc _, by simp⟩
  · have := (MapKept.heap_alloc (w.alloc (.map #[] 0)) (.cells #[.int .i64 n, .int .u64 0, .map (some w.heap.size)] 57)).1
    simpa only [World.size_alloc] using this
  · refine (MapIs.made K30 w).of_block ?_
    exact RowKit.Below.heap_alloc _ _ _ (by simp)

/-! ### Free -/
set_option maxHeartbeats 400000 in
theorem free_any {w : World} {p m : Nat} {most last : Int} {L : List Ent} (hp : PoolAt w p m most last L) (h0 : 0 ≤ most) (h1 : most ≤ 4096) (hL : L.length ≤ 4096) :
    Calls Try.prog 11 #[.pointer (some ⟨p, 0, none⟩)] w fun e w' => e = .returned (.int .i64 (most - L.length)) ∧ Grew w w' := by
  have hl : ∀ n, (Builtin.len_ #[55] 3 #[.map (some m)]).run Try.prog (w.drewN n) = .ok (.int .i64 (L.length : Int)) (w.drewN n) := fun n => by
    have := (hp.map.of_block (w' := w.drewN n) rfl).len (t := 55) (e := 59) Try.underlying55 3
    simpa using this
  have g0 := hp.c0
  have g2 := hp.c2
  clear hp
  go_enter Try.func11, Try.ntmps11
  go_wp2
  go_quiet (fail)
  go_wp2
  go_ret
  exact ⟨rfl, ⟨rfl, rfl, rfl, Nat.le_refl _, fun _ _ _ => rfl⟩⟩

/-! ### Get -/
set_option maxHeartbeats 400000 in
theorem get_none {w : World} {p m : Nat} {most last : Int} {L : List Ent} (hp : PoolAt w p m most last L) {id : Int} (hid : (Lit.int .u64 id).wf = true) (he : eget L id = none) :
    Calls Try.prog 12 #[.pointer (some ⟨p, 0, none⟩), .int .u64 id] w fun e w' => e = .returned (.tuple #[.agg #[.int .u64 0, .string ⟨#[]⟩, .string ⟨#[]⟩], .bool false]) ∧ Grew w w' := by
  have hlk : ∀ o, (Instr.lookup 55 (.map (some m)) (.int .u64 id) false).run Try.prog (w.alloc o) = .ok (.pointer none) (w.alloc o) := fun o =>
    (hp.map.of_block (w' := w.alloc o) (Below.heap_alloc _ _ _ hp.map.lt)).look_none (t := 55) (e := 59) Try.underlying55 (k := id) hid (by rw [mget_pair, he]; rfl) (zero59 _) false
  have g2 := hp.c2
  have g3 := hp.lt
  clear hp
  go_enter Try.func12, Try.ntmps12
  go_wp2
  exact bodyPost_ret (v := .tuple #[.agg #[.int .u64 0, .string ⟨#[]⟩, .string ⟨#[]⟩], .bool false]) (by simp [results, Try.results12, go_sem]) rfl ⟨rfl, (Off.refl _ _).alloc _⟩

set_option maxHeartbeats 400000 in
theorem get_some {w : World} {p m : Nat} {most last : Int} {L : List Ent} (hp : PoolAt w p m most last L) {id : Int} (hid : (Lit.int .u64 id).wf = true) {x : Ent} (he : eget L id = some x) :
    Calls Try.prog 12 #[.pointer (some ⟨p, 0, none⟩), .int .u64 id] w fun e w' => e = .returned (.tuple #[.agg #[.int .u64 x.id, .string x.holder, .string x.text], .bool true]) ∧ Grew w w' := by
  have hlk : ∀ o, (Instr.lookup 55 (.map (some m)) (.int .u64 id) false).run Try.prog (w.alloc o) = .ok (.pointer (some ⟨x.blk, 0, none⟩)) (w.alloc o) := fun o =>
    (hp.map.of_block (w' := w.alloc o) (Below.heap_alloc _ _ _ hp.map.lt)).look_some (t := 55) (e := 59) Try.underlying55 (k := id) hid (by rw [mget_pair, he]; rfl) false
  have g2 := hp.c2
  have g3 := hp.lt
  have hx := hp.ents x (eget_mem he).1
  have g4 : x.blk < w.heap.size := (Array.getElem?_eq_some_iff.1 hx).1
  have e0 : w.cell? ⟨x.blk, 0, none⟩ = some (.int .u64 x.id) := cell_of hx 0
  have e1 : w.cell? ⟨x.blk, 1, none⟩ = some (.string x.holder) := cell_of hx 1
  have e2 : w.cell? ⟨x.blk, 2, none⟩ = some (.string x.text) := cell_of hx 2
  clear hp hx he
  go_enter Try.func12, Try.ntmps12
  go_wp2
  exact bodyPost_ret (v := .tuple #[.agg #[.int .u64 x.id, .string x.holder, .string x.text], .bool true]) (by simp [results, Try.results12, go_sem]) rfl ⟨rfl, (Off.refl _ _).alloc _⟩

/-! ### Take -/
set_option maxHeartbeats 400000 in
theorem take_arg {w : World} {p m : Nat} {most last : Int} {L : List Ent} (hp : PoolAt w p m most last L) {h t : ByteArray} (hh : h.size = 0) :
    Calls Try.prog 14 #[.pointer (some ⟨p, 0, none⟩), .string h, .string t] w fun e w' => e = .returned (.tuple #[.int .u64 0, .int .i64 2]) ∧ w = w' := by
  have m1 := fun w => run_eql_map_nil (P := Try.prog) w 55 30 59 (some m) Try.underlying55
  have g2 := hp.c2
  have hs := str_emp_yes hh
  clear hp
  go_enter Try.func14, Try.ntmps14
  go_wp2
  go_ret2
  exact ⟨rfl, rfl⟩

set_option maxHeartbeats 400000 in
theorem take_long {w : World} {p m : Nat} {most last : Int} {L : List Ent} (hp : PoolAt w p m most last L) {h t : ByteArray} (hh : h.size ≠ 0) (ht : 65549 < t.size) :
    Calls Try.prog 14 #[.pointer (some ⟨p, 0, none⟩), .string h, .string t] w fun e w' => e = .returned (.tuple #[.int .u64 0, .int .i64 4]) ∧ w = w' := by
  have m1 := fun w => run_eql_map_nil (P := Try.prog) w 55 30 59 (some m) Try.underlying55
  have g2 := hp.c2
  have hs := str_emp_no hh
  clear hp hh
  go_enter Try.func14, Try.ntmps14
  go_wp2
  go_ret2
  exact ⟨rfl, rfl⟩

end Go.Proofs.Ytagdolkfefbohaa
