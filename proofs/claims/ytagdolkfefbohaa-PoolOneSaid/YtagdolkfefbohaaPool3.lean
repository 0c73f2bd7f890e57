/- 'Take' of the pool. -/
import Derived.Test.YtagdolkfefbohaaPool2
import Derived.BigRegion
import Derived.Lib.Hide
import Derived.RegionTactic
namespace Go.Proofs.Ytagdolkfefbohaa
open Go.RowKit Stv
set_option maxHeartbeats 400000 in
theorem take_full {w : World} {p m : Nat} {most last : Int} {L : List Ent} (hp : PoolAt w p m most last L) {h t : ByteArray} (hh : h.size ≠ 0) (ht : t.size ≤ 65549) (hL : most ≤ L.length) :
    Calls Try.prog 14 #[.pointer (some ⟨p, 0, none⟩), .string h, .string t] w fun e w' => e = .returned (.tuple #[.int .u64 0, .int .i64 6]) ∧ Grew w w' := by
  have m1 := fun w => run_eql_map_nil (P := Try.prog) w 55 30 59 (some m) Try.underlying55
  have hl : ∀ n, (Builtin.len_ #[55] 3 #[.map (some m)]).run Try.prog (w.drewN n) = .ok (.int .i64 (L.length : Int)) (w.drewN n) := fun n => by
    have := (hp.map.of_block (w' := w.drewN n) rfl).len (t := 55) (e := 59) Try.underlying55 3
    simpa using this
  have g0 := hp.c0
  have g2 := hp.c2
  have hs := str_emp_no hh
  clear hp hh
  go_enter Try.func14, Try.ntmps14
  go_wp2
  go_quiet (fail)
  go_wp2
  go_ret2
  exact ⟨rfl, ⟨rfl, rfl, rfl, Nat.le_refl _, fun _ _ _ => rfl⟩⟩

theorem pool_take {w : World} {p m : Nat} {most last : Int} {L : List Ent} (hp : PoolAt w p m most last L) (hfresh : ∀ e ∈ L, e.id ≤ last) {h t : ByteArray} {w2 w' : World} {n : Nat}
    (hw2 : (w.drewN n).setCell ⟨p, 1, none⟩ (.int .u64 (last + 1)) = w2)
    (hmap : MapIs K30 w' m (mput (L.map Ent.pair) (last + 1) (.pointer (some ⟨w2.heap.size, 0, none⟩))))
    (hturn : ((w2.alloc (.cells #[.int .u64 (last + 1), .string h, .string t] 42)).drew).mapTurned w' m) :
    PoolAt w' p m most (last + 1) (L ++ [⟨last + 1, w.heap.size, h, t⟩]) ∧ Off (poolBlks p m L) w w' ∧ w'.heap.size = w.heap.size + 1 := by
  have hs : w2.heap.size = w.heap.size := by rw [← hw2]; simp
  have hpm : p ≠ m := by
    rintro rfl
    obtain ⟨es, clock, hb, _⟩ := hp.map
    rw [hp.self] at hb; cases hb
  have o2 : Off (poolBlks p m L) w w2 := by
    rw [← hw2]
    exact ((⟨rfl, rfl, rfl, Nat.le_refl _, fun _ _ _ => rfl⟩ : Off (poolBlks p m L) w (w.drewN n)).setCell (.inl (.inl rfl)) _)
  have o3 := ((o2.alloc (.cells #[.int .u64 (last + 1), .string h, .string t] 42)).drew).turned hturn (.inl (.inr (.inl rfl)))
  have hblk : ∀ k, k ≠ m → w'.heap[k]? = (w2.alloc (.cells #[.int .u64 (last + 1), .string h, .string t] 42)).heap[k]? := by
    exact fun k hk => turned_block hturn hk
  have hsz : w'.heap.size = w.heap.size + 1 := by
    rw [turned_size hturn, World.size_drew, World.size_alloc, hs]
  have hnew : (w2.alloc (.cells #[.int .u64 (last + 1), .string h, .string t] 42)).heap[w.heap.size]? = some (.cells #[.int .u64 (last + 1), .string h, .string t] 42 (0, 0)) := by
    rw [← hs]; exact (MapKept.heap_alloc w2 _).1
  have hml := hp.map.lt
  have hpl := hp.lt
  refine ⟨⟨?_, ?_, ?_, ?_⟩, o3, hsz⟩
  · rw [hblk p hpm, Below.heap_alloc _ _ _ (by omega), ← hw2]
    simp only [World.setCell, Array.getElem?_modify, if_true]
    have : (w.drewN n).heap[p]? = w.heap[p]? := rfl
    rw [this, hp.self]
    simp
  · have hne : ∀ q ∈ L.map Ent.pair, q.1 ≠ last + 1 := by
      intro q hq
      obtain ⟨e, he, rfl⟩ := List.mem_map.1 hq
      have := hfresh e he
      simp only [Ent.pair]; omega
    rw [mput_none hne, hs] at hmap
    rw [List.map_append]
    exact hmap
  · intro e he
    rcases List.mem_append.1 he with he | he
    · have hx := hp.ents e he
      have hl : e.blk < w.heap.size := (Array.getElem?_eq_some_iff.1 hx).1
      have hem : e.blk ≠ m := by
        intro e1
        obtain ⟨es, clock, hb, _⟩ := hp.map
        rw [e1, hb] at hx; cases hx
      have hep : e.blk ≠ p := by
        intro e1
        rw [e1, hp.self] at hx; cases hx
      rw [hblk e.blk hem, Below.heap_alloc _ _ _ (by omega), ← hw2, Below.heap_setCell _ _ _ _ hep]
      exact hx
    · simp only [List.mem_singleton] at he
      subst he
      rw [hblk _ (by simp; omega)]
      exact hnew
  · rw [List.map_append, List.nodup_append]
    refine ⟨hp.blks, by simp, ?_⟩
    intro a ha b hb
    obtain ⟨e, he, rfl⟩ := List.mem_map.1 ha
    simp at hb
    subst hb
    have : e.blk < w.heap.size := (Array.getElem?_eq_some_iff.1 (hp.ents e he)).1
    omega

set_option maxHeartbeats 400000 in
theorem take_ok {w : World} {p m : Nat} {most last : Int} {L : List Ent} (hp : PoolAt w p m most last L) {h t : ByteArray} (hh : h.size ≠ 0) (ht : t.size ≤ 65549) (hL : L.length < most) (hl0 : 0 ≤ last) (hl1 : last ≤ 1000000)
    (hfresh : ∀ e ∈ L, e.id ≤ last) :
    Calls Try.prog 14 #[.pointer (some ⟨p, 0, none⟩), .string h, .string t] w fun e w' => e = .returned (.tuple #[.int .u64 (last + 1), .int .i64 0]) ∧
      PoolAt w' p m most (last + 1) (L ++ [⟨last + 1, w.heap.size, h, t⟩]) ∧ Off (poolBlks p m L) w w' ∧ w'.heap.size = w.heap.size + 1 := by
  have m1 := fun w => run_eql_map_nil (P := Try.prog) w 55 30 59 (some m) Try.underlying55
  have hl : ∀ n, (Builtin.len_ #[55] 3 #[.map (some m)]).run Try.prog (w.drewN n) = .ok (.int .i64 (L.length : Int)) (w.drewN n) := fun n => by
    have := (hp.map.of_block (w' := w.drewN n) rfl).len (t := 55) (e := 59) Try.underlying55 3
    simpa using this
  have g0 := hp.c0
  have g1 := hp.c1
  have g2 := hp.c2
  have f1 := hp.f 1
  have hs := str_emp_no hh
  have hpm : m ≠ p := by
    rintro rfl
    obtain ⟨es, clock, hb, _⟩ := hp.map
    rw [hp.self] at hb; cases hb
  have HP := Lib.hid hp
  have HF := Lib.hid hfresh
  clear hp hh hfresh
  go_enter Try.func14, Try.ntmps14
  go_wp2
  go_quiet (fail)
  go_wp2
  generalize hw2 : (w.drewN nq).setCell ⟨p, 1, none⟩ (.int .u64 (last + 1)) = w2
  have c1 : w2.cell? ⟨p, 1, none⟩ = some (.int .u64 (last + 1)) := by rw [← hw2]; exact World.cell?_setCell_same _ _ _ (u := .int .u64 last) g1
  have c2 : w2.cell? ⟨p, 2, none⟩ = some (.map (some m)) := by rw [← hw2, World.cell?_setCell_other _ _ _ _ (by simp)]; exact g2
  have hm2 : MapIs K30 w2 m (L.map Ent.pair) := by
    rw [← hw2]
    exact HP.out.map.of_block (Below.heap_setCell (w.drewN nq) _ _ _ hpm)
  have hpl : p < w2.heap.size := World.block_lt_of_cell? _ _ c1
  obtain ⟨w', hrun, hmap, hturn⟩ := (hm2.of_block (w' := (w2.alloc (.cells #[.int .u64 (last + 1), .string h, .string t] 42)).drew) (Below.heap_alloc _ _ _ hm2.lt)).update (t := 55) (e := 59) Try.underlying55 (k := last + 1) (u64wf (by omega) (by omega)) (.pointer (some ⟨w2.heap.size, 0, none⟩))
  have HF2 := Lib.hid (pool_take HP.out HF.out hw2 hmap hturn)
  have Hc : Hid (w'.cell? ⟨p, 1, none⟩ = some (.int .u64 (last + 1))) := Lib.hid HF2.out.1.c1
  clear hw2 g0 g1 g2 f1 hl hpm hmap hm2 hturn
  change (Instr.mapUpdate 55 (.map (some m)) (.int .u64 (last + 1)) (.pointer (some ⟨w2.heap.size, 0, none⟩))).run Try.prog _ = _ at hrun
  go_region
  have c3 := Hc.out
  clear c1 c2 hrun
  go_wp2
  go_ret2
  exact ⟨rfl, HF2.out⟩
end Go.Proofs.Ytagdolkfefbohaa
