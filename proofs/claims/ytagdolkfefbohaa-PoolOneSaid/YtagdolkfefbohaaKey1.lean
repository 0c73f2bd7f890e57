/- maps.Keys at whole numbers, inside a fence. -/
import Derived.Test.YtagdolkfefbohaaRows
import Derived.Test.YtagdolkfefbohaaBase6
import Derived.Shelf.AbstractIn
import Derived.RangeFuncSeq
import Derived.RangeFuncStops
import Derived.RangeFuncFrom
import Derived.Sort.MapsRangeIn
import Derived.WalkKit
import Derived.OwnWalkIn
import Derived.TacticsInMore
import Derived.RegionIn
import Derived.LoopNIn
import Derived.LoopIn
namespace Go.Proofs.Ytagdolkfefbohaa
open Go.RowKit Stv

theorem rwalks {P : Program} {kt : TypeId} {κ : Type} {C : KeyC P kt κ} {w w' : World} {b r : Nat} {l : List (κ × Value)} {done : List κ} (h : Ranging C w b r l done) (hk : KeepsWalks w w') : Ranging C w' b r l done := by
  obtain ⟨es, clock, since, seen, c0, eb, hs, hl, hok, er, rest⟩ := h
  exact ⟨es, clock, since, seen, c0, hk.same _ _ eb rfl, hs, hl, hok, hk.same _ _ er rfl, rest⟩

abbrev KU : KeyC Try.prog 30 Int := intKey Try.underlying30

set_option maxRecDepth 100000 in
set_option maxHeartbeats 1000000 in
theorem keysS_in (F : Fence) (n : Nat) (hF : F.fn 28) (hro : F.round = none) (hn : 1 ≤ n) (l Bm b : Nat) (L : List (Int × Value)) (J Jx : List Int → World → Prop)
    (hY : ∀ pre x W, J pre W → pre.length < L.length → YieldAt F (n - 1) Try.prog l #[.int .u64 x] W fun e W' =>
      (e = .returned (.bool true) ∧ J (pre ++ [x]) W' ∧ KeepsWalks W W') ∨ (e = .returned (.bool false) ∧ Jx (pre ++ [x]) W'))
    (W : World) (hJ : AbidesFrom W.heap.size J) (hm : W.cell? ⟨Bm, 0, none⟩ = some (.map (some b))) (hown : MapIs KU W b L) (h0 : J [] W) :
    CallsIn F n Try.prog 28 #[.func (.yield l) #[] #[], .pointer (some ⟨Bm, 0, none⟩)] W fun e W' => (∃ v, e = .returned v) ∧
      ((∃ ss : List Int, ss.Perm (L.map (·.1)) ∧ J ss W') ∨ (∃ pre : List Int, Jx pre W')) := by
  refine callsIn_of_wp Try.func28 rfl hF ?_ hro
  simp only [Try.ntmps28, List.size_toArray, List.length_cons, List.length_nil, Nat.reduceAdd, Nat.reduceSub, Array.replicate_succ, Array.replicate_zero, List.push_toArray, List.append_toArray, List.nil_append, List.cons_append]
  gi_wp2_with (first
    | (gi_at_range; refine wpListIn_mrange KU _ rfl _ 55 rfl _ Try.underlying55 b L rfl hown ?_; intro xo hrg0)
    | gi_in)
  go_frame
  gi_loopw [3] (fun _ wr => ∃ done : List Int, Ranging KU wr b W.heap.size L done ∧ J done wr) (fun _ wr => L.length - seenAt wr W.heap.size)
  case atStart => exact ⟨[], hrg0, hJ [] W _ none h0 (World.grownBy_alloc W xo none) (fun r e => by cases e)⟩
  case round =>
    obtain ⟨done, hrg, hJs⟩ := hrel
    gi_wp2_with (first
      | (gi_at_next; refine wpListIn_mnext KU _ rfl _ rfl b W.heap.size L done rfl hrg ?_ ?_)
      | gi_in)
    · intro hall
      gi_wp2
      go_end0
      exact ⟨⟨_, rfl⟩, .inl ⟨done, hrg.all (fun p hp => hall p.1 p.2 hp), hJs⟩⟩
    · intro k v w2 hkl hkd hrg2 ho2 hs2 hen
      have hJ2 : J done w2 := hJ done wr w2 (some W.heap.size) hJs ⟨ho2.os, ho2.tape, ho2.output, ho2.size, fun i hi hne => ho2.block i hi (fun e => hne (by rw [e]))⟩ (fun r e => by cases e; exact ⟨Nat.le_refl _, hrg.iter⟩)
      have hlen : done.length < L.length := by
        have := hrg2.len
        simp at this
        omega
      obtain ⟨fn, tmps, assign, body, hy, hR⟩ := hY done k w2 hJ2 hlen
      clear hs2
      have hke : KU.enc k = Value.int .u64 k := rfl
      rw [hke] at hen ⊢
      clear hke
      gi_wp2
      refine hR.mono ?_
      rintro e W3 (⟨rfl, hJ3, hk3⟩ | ⟨rfl, hJx3⟩)
      · gi_wp2
        have hrg3 := rwalks hrg2 hk3
        go_roundw
        case rel => exact ⟨done ++ [k], hrg3, hJ3⟩
        case measure =>
          rw [hrg3.seen, hrg.seen]
          simp; omega
      · gi_wp2
        refine bodyPost_ret (results_none rfl _ _ _) rfl ?_
        exact ⟨⟨_, rfl⟩, .inr ⟨_, hJx3⟩⟩
end Go.Proofs.Ytagdolkfefbohaa
