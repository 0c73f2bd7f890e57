/- The pool's state in memory, and what 'of', 'Free', 'Get' come to. -/
import Derived.Test.YtagdolkfefbohaaRows
import Derived.Test.YtagdolkfefbohaaBase1
import Derived.Deep.QuietTactic
import Derived.BigQuiet
namespace Go.Proofs.Ytagdolkfefbohaa
open Go.RowKit Stv

structure Ent where
  id : Int
  blk : Nat
  holder : ByteArray
  text : ByteArray

def K30 : KeyC Try.prog 30 Int := intKey (q := .u64) Try.underlying30

def Ent.pair (e : Ent) : Int × Value := (e.id, .pointer (some ⟨e.blk, 0, none⟩))

/-- BLOCK p OF w IS A POOL: most, the last number, the buffers in the order of taking. -/
structure PoolAt (w : World) (p m : Nat) (most last : Int) (L : List Ent) : Prop where
  self : w.heap[p]? = some (.cells #[.int .i64 most, .int .u64 last, .map (some m)] 57 (0, 0))
  map : MapIs K30 w m (L.map Ent.pair)
  ents : ∀ e ∈ L, w.heap[e.blk]? = some (.cells #[.int .u64 e.id, .string e.holder, .string e.text] 42 (0, 0))
  blks : (L.map (·.blk)).Nodup

/-- the blocks of a pool -/
def poolBlks (p m : Nat) (L : List Ent) (k : Nat) : Prop := k = p ∨ k = m ∨ ∃ e ∈ L, e.blk = k

def eget : List Ent → Int → Option Ent
  | [], _ => none
  | e :: r, id => if e.id = id then some e else eget r id

theorem cell_of {w : World} {b : Nat} {c : Array Value} {t : TypeId} {f : Nat × Nat} (h : w.heap[b]? = some (.cells c t f)) (i : Nat) : w.cell? ⟨b, i, none⟩ = c[i]? := by
  simp [World.cell?, h]
theorem frozen_of {w : World} {b : Nat} {c : Array Value} {t : TypeId} (h : w.heap[b]? = some (.cells c t (0, 0))) (i : Nat) : w.frozen? ⟨b, i, none⟩ = false := by
  simp [World.frozen?, h]

theorem mget_pair (L : List Ent) (id : Int) : mget (L.map Ent.pair) id = (eget L id).map fun e => .pointer (some ⟨e.blk, 0, none⟩) := by
  induction L with
  | nil => rfl
  | cons e r ih => simp only [List.map_cons, Ent.pair, mget, eget]; split <;> simp_all

theorem eget_mem {L : List Ent} {id : Int} {e : Ent} (h : eget L id = some e) : e ∈ L ∧ e.id = id := by
  induction L with
  | nil => cases h
  | cons a r ih =>
    simp only [eget] at h
    split at h
    · cases h; simp_all
    · have := ih h; exact ⟨by simp [this.1], this.2⟩

namespace PoolAt
variable {w : World} {p m : Nat} {most last : Int} {L : List Ent}
theorem c0 (h : PoolAt w p m most last L) : w.cell? ⟨p, 0, none⟩ = some (.int .i64 most) := cell_of h.self 0
theorem c1 (h : PoolAt w p m most last L) : w.cell? ⟨p, 1, none⟩ = some (.int .u64 last) := cell_of h.self 1
theorem c2 (h : PoolAt w p m most last L) : w.cell? ⟨p, 2, none⟩ = some (.map (some m)) := cell_of h.self 2
theorem f (h : PoolAt w p m most last L) (i : Nat) : w.frozen? ⟨p, i, none⟩ = false := frozen_of h.self i
theorem lt (h : PoolAt w p m most last L) : p < w.heap.size := (Array.getElem?_eq_some_iff.1 h.self).1
theorem blks_lt (h : PoolAt w p m most last L) {k : Nat} (hk : poolBlks p m L k) : k < w.heap.size := by
  rcases hk with rfl | rfl | ⟨e, he, rfl⟩
  · exact h.lt
  · exact h.map.lt
  · exact (Array.getElem?_eq_some_iff.1 (h.ents e he)).1
theorem off {S : Nat → Prop} {w' : World} (h : PoolAt w p m most last L) (ho : Off S w w') (hS : ∀ k, poolBlks p m L k → ¬ S k) : PoolAt w' p m most last L :=
  ⟨(ho.block p h.lt (hS p (.inl rfl))).trans h.self, ho.map h.map (hS m (.inr (.inl rfl))),
    fun e he => (ho.block e.blk (h.blks_lt (.inr (.inr ⟨e, he, rfl⟩))) (hS e.blk (.inr (.inr ⟨e, he, rfl⟩)))).trans (h.ents e he), h.blks⟩
end PoolAt

theorem zero59 (w : World) : (zeroValue 59).run Try.prog w = .ok (.pointer none) w := by kernel_rfl

theorem u64wf {n : Int} (h0 : 0 ≤ n) (h1 : n ≤ 18446744073709551615) : (Lit.int .u64 n).wf = true := WalkArith.wf_u64 ⟨h0, h1⟩

/-! ### of -/
set_option maxHeartbeats 400000 in
theorem of_none {w : World} {p m : Nat} {most last : Int} {L : List Ent} (hp : PoolAt w p m most last L) {id : Int} (hid : (Lit.int .u64 id).wf = true) (h : ByteArray) (he : eget L id = none) :
    Calls Try.prog 23 #[.pointer (some ⟨p, 0, none⟩), .int .u64 id, .string h] w fun e w' => e = .returned (.tuple #[.pointer none, .int .i64 5]) ∧ w = w' := by
  have hlk := hp.map.look_none (t := 55) (e := 59) Try.underlying55 (k := id) hid (by rw [mget_pair, he]; rfl) (zero59 w) false
  have m1 := fun w => run_eql_map_nil (P := Try.prog) w 55 30 59 (some m) Try.underlying55
  have h2 := hp.c2
  change (Instr.lookup 55 (.map (some m)) (.int .u64 id) false).run Try.prog w = .ok (.pointer none) w at hlk
  clear hp
  go_enter Try.func23, Try.ntmps23
  go_wp2
  go_ret2
  exact ⟨rfl, rfl⟩

set_option maxHeartbeats 400000 in
theorem of_state {w : World} {p m : Nat} {most last : Int} {L : List Ent} (hp : PoolAt w p m most last L) {id : Int} (hid : (Lit.int .u64 id).wf = true) (h : ByteArray) {x : Ent} (he : eget L id = some x) (hn : x.holder ≠ h) :
    Calls Try.prog 23 #[.pointer (some ⟨p, 0, none⟩), .int .u64 id, .string h] w fun e w' => e = .returned (.tuple #[.pointer none, .int .i64 3]) ∧ w = w' := by
  have hlk := hp.map.look_some (t := 55) (e := 59) Try.underlying55 (k := id) hid (by rw [mget_pair, he]; rfl) false
  have m1 := fun w => run_eql_map_nil (P := Try.prog) w 55 30 59 (some m) Try.underlying55
  have h2 := hp.c2
  have h3 : w.cell? ⟨x.blk, 1, none⟩ = some (.string x.holder) := cell_of (hp.ents x (eget_mem he).1) 1
  change (Instr.lookup 55 (.map (some m)) (.int .u64 id) false).run Try.prog w = .ok (.pointer (some ⟨x.blk, 0, none⟩)) w at hlk
  have hs := str_no hn
  clear hp he hn
  go_enter Try.func23, Try.ntmps23
  go_wp2
  go_ret2
  exact ⟨rfl, rfl⟩

set_option maxHeartbeats 400000 in
theorem of_ok {w : World} {p m : Nat} {most last : Int} {L : List Ent} (hp : PoolAt w p m most last L) {id : Int} (hid : (Lit.int .u64 id).wf = true) (h : ByteArray) {x : Ent} (he : eget L id = some x) (hn : x.holder = h) :
    Calls Try.prog 23 #[.pointer (some ⟨p, 0, none⟩), .int .u64 id, .string h] w fun e w' => e = .returned (.tuple #[.pointer (some ⟨x.blk, 0, none⟩), .int .i64 0]) ∧ w = w' := by
  have hlk := hp.map.look_some (t := 55) (e := 59) Try.underlying55 (k := id) hid (by rw [mget_pair, he]; rfl) false
  have m1 := fun w => run_eql_map_nil (P := Try.prog) w 55 30 59 (some m) Try.underlying55
  have h2 := hp.c2
  have h3 : w.cell? ⟨x.blk, 1, none⟩ = some (.string x.holder) := cell_of (hp.ents x (eget_mem he).1) 1
  change (Instr.lookup 55 (.map (some m)) (.int .u64 id) false).run Try.prog w = .ok (.pointer (some ⟨x.blk, 0, none⟩)) w at hlk
  have hs := str_yes hn
  clear hp he hn
  go_enter Try.func23, Try.ntmps23
  go_wp2
  go_ret2
  exact ⟨rfl, rfl⟩

end Go.Proofs.Ytagdolkfefbohaa
