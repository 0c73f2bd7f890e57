/- 'Give' of the pool. -/
import Derived.Test.YtagdolkfefbohaaPool4
namespace Go.Proofs.Ytagdolkfefbohaa
open Go.RowKit Stv

def giveErr (L : List Ent) (h : ByteArray) : List Int → List Int → Int
  | [], _ => 0
  | id :: r, seen => if id ∈ seen then 5 else match eget L id with
    | none => 5
    | some x => if x.holder = h then giveErr L h r (seen ++ [id]) else 3

def edel : List Ent → Int → List Ent
  | [], _ => []
  | e :: r, id => if e.id = id then r else e :: edel r id

theorem mdel_pair (L : List Ent) (id : Int) : mdel (L.map Ent.pair) id = (edel L id).map Ent.pair := by
  induction L with
  | nil => rfl
  | cons e r ih => simp only [List.map_cons, Ent.pair, mdel, edel]; split <;> simp_all [Ent.pair]

theorem edel_sub (L : List Ent) (id : Int) : (edel L id).Sublist L := by
  induction L with
  | nil => exact List.Sublist.refl _
  | cons e r ih =>
    simp only [edel]
    split
    · exact List.sublist_cons_self _ _
    · exact ih.cons_cons _

theorem edels_sub (ids : List Int) : ∀ L, (ids.foldl edel L).Sublist L := by
  induction ids with
  | nil => exact fun L => List.Sublist.refl _
  | cons i r ih => exact fun L => (ih _).trans (edel_sub L i)

theorem pool_del {w w' : World} {p m : Nat} {most last : Int} {L : List Ent} (hp : PoolAt w p m most last L) {id : Int} (hm : MapIs K30 w' m (mdel (L.map Ent.pair) id)) (ht : w.mapTurned w' m) :
    PoolAt w' p m most last (edel L id) := by
  obtain ⟨es, clock, hb, _⟩ := hp.map
  have hpm : p ≠ m := by rintro rfl; rw [hp.self] at hb; cases hb
  refine ⟨(turned_block ht hpm).trans hp.self, by rw [← mdel_pair]; exact hm, fun e he => ?_, ((edel_sub L id).map _).nodup hp.blks⟩
  have hx := hp.ents e ((edel_sub L id).subset he)
  have hem : e.blk ≠ m := by intro e1; rw [e1, hb] at hx; cases hx
  exact (turned_block ht hem).trans hx

def ones (ids : List Int) : List (Int × Value) := ids.map fun i => (i, .int .i64 1)

theorem ones_get (ids : List Int) (i : Int) : mget (ones ids) i = if i ∈ ids then some (.int .i64 1) else none := by
  induction ids with
  | nil => rfl
  | cons a r ih =>
    unfold ones at ih ⊢
    simp only [List.map_cons, mget, ih, List.mem_cons]
    by_cases h : a = i
    · simp [h]
    · have : ¬ i = a := fun e => h e.symm
      simp [h, this]

theorem zero3 (w : World) : (zeroValue 3).run Try.prog w = .ok (.int .i64 0) w := by kernel_rfl

theorem take_snoc_get (ids : List Int) (k : Nat) (h : k < ids.length) : ids.take (k + 1) = ids.take k ++ [ids[k]] := List.take_succ_eq_append_getElem h
theorem drop_cons_get (ids : List Int) (k : Nat) (h : k < ids.length) : ids.drop k = ids[k] :: ids.drop (k + 1) := List.drop_eq_getElem_cons h

/-- the first loop's relation -/
structure Give1 (w wr : World) (p m : Nat) (most last : Int) (L : List Ent) (h : ByteArray) (ids : List Int) (k : Nat) : Prop where
  pool : PoolAt wr p m most last L
  grew : Grew w wr
  gone : MapIs K30 wr w.heap.size (ones (ids.take k))
  err : giveErr L h ids [] = giveErr L h (ids.drop k) (ids.take k)
  ok : ∀ id ∈ ids.take k, ∃ x, eget L id = some x ∧ x.holder = h

end Go.Proofs.Ytagdolkfefbohaa
