/- The ports' table in memory; which places a place meets: the iterator. -/
import Derived.Test.YtnpfbdekomhonaaRows
import Derived.Test.YtnpfbdekomhonaaBase6
import Derived.Shelf.AbstractIn
import Derived.RangeFuncSeq
import Derived.RangeFuncStops
import Derived.RangeFuncFrom
import Derived.RangeFuncBox
import Derived.RangeFuncLeaves
import Derived.RangeFuncWrites
import Derived.Shelf.Abstract
import Derived.Maps.AppendAt
import Derived.Sort.MapsRangeIn
import Derived.WalkKit
import Derived.OwnWalkIn
import Derived.TacticsInMore
import Derived.RegionIn
import Derived.LoopNIn
import Derived.LoopIn
namespace Go.Proofs.Ytnpfbdekomhonaa
open Go.RowKit Stv Go.Shelf

/-- a place -/
structure Bnd where
  kind : Int
  ip : Int
  port : Int
  share : Bool

def Bnd.val (b : Bnd) : Value := .agg #[.int .u8 b.kind, .int .u32 b.ip, .int .u16 b.port, .bool b.share]
def Bnd.cells (b : Bnd) : Array Value := #[.int .u8 b.kind, .int .u32 b.ip, .int .u16 b.port, .bool b.share]

def meets (b x : Bnd) : Bool := x.kind == b.kind && (x.port == b.port && (x.ip == b.ip || (x.ip == 0 || b.ip == 0)))

theorem meets_ways (bk bi bp xk xi xp : Int) (bs xs : Bool) :
    (meets ⟨bk, bi, bp, bs⟩ ⟨xk, xi, xp, xs⟩ = true ∧ (xk == bk) = true ∧ (xp == bp) = true ∧ ((xi == bi) = true ∨ ((xi == bi) = false ∧ (xi == 0) = true) ∨ ((xi == bi) = false ∧ (xi == 0) = false ∧ (bi == 0) = true))) ∨
    (meets ⟨bk, bi, bp, bs⟩ ⟨xk, xi, xp, xs⟩ = false ∧ ((xk == bk) = false ∨ ((xk == bk) = true ∧ (xp == bp) = false) ∨ ((xk == bk) = true ∧ (xp == bp) = true ∧ (xi == bi) = false ∧ (xi == 0) = false ∧ (bi == 0) = false))) := by
  unfold meets
  cases (xk == bk) <;> cases (xp == bp) <;> cases (xi == bi) <;> cases (xi == 0) <;> cases (bi == 0) <;> simp
theorem bne_of {a b : Int} {c : Bool} (h : (a == b) = c) : (a != b) = !c := by rw [bne, h]

theorem nodup_inj {α β : Type} {f : α → β} {l : List α} (h : (l.map f).Nodup) {a b : α} (ha : a ∈ l) (hb : b ∈ l) (e : f a = f b) : a = b := by
  induction l with
  | nil => cases ha
  | cons x r ih =>
    simp only [List.map_cons, List.nodup_cons] at h
    rcases List.mem_cons.1 ha with e1 | h1 <;> rcases List.mem_cons.1 hb with e2 | h2
    · rw [e1, e2]
    · exact absurd (List.mem_map.2 ⟨b, h2, by rw [← e, e1]⟩) h.1
    · exact absurd (List.mem_map.2 ⟨a, h1, by rw [e, e2]⟩) h.1
    · exact ih h.2 h1 h2

theorem rwalks {P : Program} {kt : TypeId} {κ : Type} {C : KeyC P kt κ} {w w' : World} {b r : Nat} {l : List (κ × Value)} {done : List κ} (h : Ranging C w b r l done) (hk : KeepsWalks w w') : Ranging C w' b r l done := by
  obtain ⟨es, clock, since, seen, c0, eb, hs, hl, hok, er, rest⟩ := h
  exact ⟨es, clock, since, seen, c0, hk.same _ _ eb rfl, hs, hl, hok, hk.same _ _ er rfl, rest⟩

/-- numbers of sockets, as keys -/
abbrev KU : KeyC Try.prog 30 Int := intKey Try.underlying30

def pairs (P : List (Int × Bnd)) : List (Int × Value) := P.map fun p => (p.1, p.2.val)

/-- what a round of a loop over the iterator keeps -/
def KW (n₀ : Nat) (W W' : World) : Prop := KeepsWalks W W' ∧ Below n₀ W W'
theorem KW.t {n₀ : Nat} {A B C : World} (h : KW n₀ A B) (k : KW n₀ B C) : KW n₀ A C := ⟨h.1.trans k.1, h.2.trans k.2⟩
theorem KW.b {n₀ : Nat} {w : World} (hn : n₀ ≤ w.heap.size) (W : World) (l : Nat) (o o' : Obj) (hl : w.heap.size ≤ l) (h : W.heap[l]? = some o) (h1 : o.isCells = false) (h2 : o.isWalk = false) : KW n₀ W (W.putObj l o') :=
  ⟨walksK_b (w := w) W l o o' hl h h1 h2, belowK_b hn W l o o' hl h h1 h2⟩

/-- what a round of the iterator keeps to -/
structure MeetRel (pm r n₀ : Nat) (P : List (Int × Bnd)) (b : Bnd) (W wr : World) (done : List Int) (ss : List (Int × Bnd)) : Prop where
  rg : Ranging KU wr pm r (pairs P) done
  bel : Below n₀ W wr
  len : ss.length ≤ done.length
  cov : ∀ x ∈ P, x.1 ∈ done → meets b x.2 = true → x ∈ ss
  sub : ∀ x ∈ ss, x ∈ P ∧ meets b x.2 = true

theorem MeetRel.uniq {pm r n₀ : Nat} {P : List (Int × Bnd)} {b : Bnd} {W wr : World} {done : List Int} {ss : List (Int × Bnd)} (h : MeetRel pm r n₀ P b W wr done ss) : (P.map (·.1)).Nodup := by
  have h1 : ((pairs P).map (·.1)).Nodup := h.rg.map.uniq
  have e : (pairs P).map (·.1) = P.map (·.1) := by unfold pairs; rw [List.map_map]; rfl
  rwa [e] at h1

theorem MeetRel.more {pm r n₀ : Nat} {P : List (Int × Bnd)} {b : Bnd} {W wr w3 : World} {done : List Int} {ss : List (Int × Bnd)} {x : Int × Bnd} (h : MeetRel pm r n₀ P b W wr done ss) (hx : x ∈ P) (hr : Ranging KU w3 pm r (pairs P) (done ++ [x.1])) (hb : Below n₀ W w3) (hm : meets b x.2 = true) : MeetRel pm r n₀ P b W w3 (done ++ [x.1]) (ss ++ [x]) where
  rg := hr
  bel := hb
  len := by have := h.len; simp; omega
  cov y hy hd hm' := by
    rcases List.mem_append.1 hd with hd | hd
    · exact List.mem_append.2 (.inl (h.cov y hy hd hm'))
    · have : y = x := nodup_inj h.uniq hy hx (by simpa using hd)
      simp [this]
  sub y hy := by
    rcases List.mem_append.1 hy with hy | hy
    · exact h.sub y hy
    · have : y = x := by simpa using hy
      subst this; exact ⟨hx, hm⟩

theorem MeetRel.skip {pm r n₀ : Nat} {P : List (Int × Bnd)} {b : Bnd} {W wr w3 : World} {done : List Int} {ss : List (Int × Bnd)} {x : Int × Bnd} (h : MeetRel pm r n₀ P b W wr done ss) (hx : x ∈ P) (hr : Ranging KU w3 pm r (pairs P) (done ++ [x.1])) (hb : Below n₀ W w3) (hm : meets b x.2 = false) : MeetRel pm r n₀ P b W w3 (done ++ [x.1]) ss where
  rg := hr
  bel := hb
  len := by have := h.len; simp; omega
  cov y hy hd hm' := by
    rcases List.mem_append.1 hd with hd | hd
    · exact h.cov y hy hd hm'
    · have : y = x := nodup_inj h.uniq hy hx (by simpa using hd)
      subst this; rw [hm] at hm'; cases hm'
  sub := h.sub

set_option maxRecDepth 100000 in
set_option maxHeartbeats 4000000 in
theorem meets_in (F : Fence) (n : Nat) (hF : F.fn 79) (hro : F.round = none) (hn : 1 ≤ n) (l Bp Bb pp pm n₀ : Nat) (P : List (Int × Bnd)) (b : Bnd) (J Jx : List (Int × Bnd) → World → Prop)
    (hY : ∀ pre (x : Int × Bnd) W, J pre W → pre.length < P.length → YieldAt F (n - 1) Try.prog l #[.int .u64 x.1, x.2.val] W fun e W' =>
      (e = .returned (.bool true) ∧ J (pre ++ [x]) W' ∧ KW n₀ W W') ∨ (e = .returned (.bool false) ∧ Jx (pre ++ [x]) W'))
    (W : World) (hJ : AbidesFrom W.heap.size J) (hBb : Bb < n₀) (hn0 : n₀ ≤ W.heap.size) (hp : W.cell? ⟨Bp, 0, none⟩ = some (.pointer (some ⟨pp, 0, none⟩))) (hpp : W.cell? ⟨pp, 0, none⟩ = some (.map (some pm)))
    (hb : W.heap[Bb]? = some (.cells b.cells 46)) (hown : MapIs KU W pm (pairs P)) (h0 : J [] W) :
    CallsIn F n Try.prog 79 #[.func (.yield l) #[] #[], .pointer (some ⟨Bp, 0, none⟩), .pointer (some ⟨Bb, 0, none⟩)] W fun e W' => (∃ v, e = .returned v) ∧
      ((∃ ss : List (Int × Bnd), (∀ x ∈ P, meets b x.2 = true → x ∈ ss) ∧ (∀ x ∈ ss, x ∈ P ∧ meets b x.2 = true) ∧ J ss W') ∨ (∃ pre : List (Int × Bnd), (∀ x ∈ pre, x ∈ P ∧ meets b x.2 = true) ∧ Jx pre W')) := by
  obtain ⟨bk, bi, bp, bs⟩ := b
  refine callsIn_of_wp Try.func79 rfl hF ?_ hro
  simp only [Try.ntmps79, List.size_toArray, List.length_cons, List.length_nil, Nat.reduceAdd, Nat.reduceSub, Array.replicate_succ, Array.replicate_zero, List.push_toArray, List.append_toArray, List.nil_append, List.cons_append]
  gi_wp2_with (first
    | (gi_at_range; refine wpListIn_mrange KU _ rfl _ 109 rfl _ Try.underlying109 pm (pairs P) rfl hown ?_; intro xo hrg0)
    | gi_in)
  go_frame
  gi_loopw [4] (fun _ wr => ∃ (done : List Int) (ss : List (Int × Bnd)), MeetRel pm W.heap.size n₀ P ⟨bk, bi, bp, bs⟩ W wr done ss ∧ J ss wr) (fun _ wr => P.length - seenAt wr W.heap.size)
  case atStart => exact ⟨[], [], ⟨hrg0, (Below.refl _ W).alloc hn0 _, by simp, by simp, by simp⟩, hJ [] W _ none h0 (World.grownBy_alloc W xo none) (fun r e => by cases e)⟩
  case round =>
    obtain ⟨done, ss, hM, hJs⟩ := hrel
    have hrg := hM.rg
    have hB := hM.bel
    have hlen := hM.len
    have HM0 := Lib.hid hM
    clear hM
    gi_wp2_with (first
      | (gi_at_next; refine wpListIn_mnext KU _ rfl _ rfl pm W.heap.size (pairs P) done rfl hrg ?_ ?_)
      | gi_in)
    · intro hall
      gi_wp2
      go_end0
      refine ⟨⟨_, rfl⟩, .inl ⟨ss, fun x hx hm => HM0.out.cov x hx (hall (x.1) x.2.val (List.mem_map.2 ⟨x, hx, rfl⟩)) hm, HM0.out.sub, hJs⟩⟩
    · intro k v w2 hkl hkd hrg2 ho2 hs2 hen
      have hJ2 : J ss w2 := hJ ss wr w2 (some W.heap.size) hJs ⟨ho2.os, ho2.tape, ho2.output, ho2.size, fun i hi hne => ho2.block i hi (fun e => hne (by rw [e]))⟩ (fun r e => by cases e; exact ⟨Nat.le_refl _, hrg.iter⟩)
      have hB2 : Below n₀ W w2 := hB.trans (ho2.below (Nat.le_trans hn0 hB.size) fun i hi => by rw [hi]; exact hn0)
      have hlen2 : done.length < P.length := by
        have := hrg2.len
        simp [pairs] at this
        omega
      obtain ⟨x, hx, hxe⟩ := List.mem_map.1 hkl
      obtain ⟨k', ⟨xk, xi, xp, xs⟩⟩ := x
      cases hxe
      have hke : KU.enc k' = Value.int .u64 k' := rfl
      rw [hke] at hen ⊢
      have hv : Bnd.val ⟨xk, xi, xp, xs⟩ = .agg #[.int .u8 xk, .int .u32 xi, .int .u16 xp, .bool xs] := rfl
      rw [hv] at hen ⊢
      have hJ3 := hJ ss w2 _ none hJ2 (World.grownBy_alloc w2 (.cells #[.int .u8 xk, .int .u32 xi, .int .u16 xp, .bool xs] 46) none) (fun r e => by cases e)
      obtain ⟨fn, tmps, assign, body, hy, hR⟩ := hY ss (k', ⟨xk, xi, xp, xs⟩) _ hJ3 (by omega)
      rw [hv] at hy
      have hbw : (w2.alloc (.cells #[.int .u8 xk, .int .u32 xi, .int .u16 xp, .bool xs] 46)).heap[Bb]? = some (.cells #[.int .u8 bk, .int .u32 bi, .int .u16 bp, .bool bs] 46) := by
        have h1 := hB2.size
        rw [Below.heap_alloc _ _ _ (by omega), hB2.block Bb hBb]; exact hb
      have c0 : (w2.alloc (.cells #[.int .u8 xk, .int .u32 xi, .int .u16 xp, .bool xs] 46)).cell? ⟨Bb, 0, none⟩ = some (.int .u8 bk) := by simp [World.cell?, hbw]
      have c1 : (w2.alloc (.cells #[.int .u8 xk, .int .u32 xi, .int .u16 xp, .bool xs] 46)).cell? ⟨Bb, 1, none⟩ = some (.int .u32 bi) := by simp [World.cell?, hbw]
      have c2 : (w2.alloc (.cells #[.int .u8 xk, .int .u32 xi, .int .u16 xp, .bool xs] 46)).cell? ⟨Bb, 2, none⟩ = some (.int .u16 bp) := by simp [World.cell?, hbw]
      have HRg : Hid (Ranging KU (w2.alloc (.cells #[.int .u8 xk, .int .u32 xi, .int .u16 xp, .bool xs] 46)) pm W.heap.size (pairs P) (done ++ [k'])) := Lib.hid (hrg2.off ((Off.refl (fun _ => False) w2).alloc _) (fun h => h) fun h => h)
      have HX := Lib.hid hx
      have HB2 := Lib.hid hB2
      have HSeen := Lib.hid hrg.seen
      have HLt := Lib.hid hlen2
      clear hbw hB2 hrg2 hkl hkd hx hB hJs hJ2 ho2 hs2 hrg hJ hY hb hown hp hpp hlen hlen2
      have HJ3 := Lib.hid hJ3
      clear hJ3
      have hB3 : Below n₀ W (w2.alloc (.cells #[.int .u8 xk, .int .u32 xi, .int .u16 xp, .bool xs] 46)) := HB2.out.alloc (Nat.le_trans hn0 HB2.out.size) _
      have HB3 := Lib.hid hB3
      clear hB3
      have HR := Lib.hid hR
      clear hR
      rcases meets_ways bk bi bp xk xi xp bs xs with ⟨hm, h1, h2, hw⟩ | ⟨hm, hw⟩
      · have n1 := bne_of h1
        have n2 := bne_of h2
        have HM := Lib.hid hm
        clear hm
        rcases hw with h3 | ⟨h3, h4⟩ | ⟨h3, h4, h5⟩
        · have n3 := bne_of h3
          gi_wp2
          refine (HR.out).mono ?_
          rintro e W3 (⟨rfl, hJ4, hk4⟩ | ⟨rfl, hJx4⟩)
          · have HJ4 := Lib.hid hJ4
            have HK4 := Lib.hid hk4
            clear hJ4 hk4
            gi_wp2
            go_roundw
            case rel => exact ⟨done ++ [k'], ss ++ [(k', ⟨xk, xi, xp, xs⟩)], HM0.out.more HX.out (rwalks HRg.out HK4.out.1) (HB3.out.trans HK4.out.2) HM.out, HJ4.out⟩
            case measure =>
              rw [(rwalks HRg.out HK4.out.1).seen, HSeen.out]
              have := HLt.out
              simp; omega
          · have HJx4 := Lib.hid hJx4
            clear hJx4
            gi_wp2
            refine bodyPost_ret (results_none rfl _ _ _) rfl ?_
            refine ⟨⟨_, rfl⟩, .inr ⟨_, fun y hy => ?_, HJx4.out⟩⟩
            rcases List.mem_append.1 hy with hy | hy
            · exact HM0.out.sub y hy
            · have : y = (k', ⟨xk, xi, xp, xs⟩) := by simpa using hy
              subst this; exact ⟨HX.out, HM.out⟩
        · have n3 := bne_of h3
          have n4 := bne_of h4
          gi_wp2
          refine (HR.out).mono ?_
          rintro e W3 (⟨rfl, hJ4, hk4⟩ | ⟨rfl, hJx4⟩)
          · have HJ4 := Lib.hid hJ4
            have HK4 := Lib.hid hk4
            clear hJ4 hk4
            gi_wp2
            go_roundw
            case rel => exact ⟨done ++ [k'], ss ++ [(k', ⟨xk, xi, xp, xs⟩)], HM0.out.more HX.out (rwalks HRg.out HK4.out.1) (HB3.out.trans HK4.out.2) HM.out, HJ4.out⟩
            case measure =>
              rw [(rwalks HRg.out HK4.out.1).seen, HSeen.out]
              have := HLt.out
              simp; omega
          · have HJx4 := Lib.hid hJx4
            clear hJx4
            gi_wp2
            refine bodyPost_ret (results_none rfl _ _ _) rfl ?_
            refine ⟨⟨_, rfl⟩, .inr ⟨_, fun y hy => ?_, HJx4.out⟩⟩
            rcases List.mem_append.1 hy with hy | hy
            · exact HM0.out.sub y hy
            · have : y = (k', ⟨xk, xi, xp, xs⟩) := by simpa using hy
              subst this; exact ⟨HX.out, HM.out⟩
        · have n3 := bne_of h3
          have n4 := bne_of h4
          have n5 := bne_of h5
          gi_wp2
          refine (HR.out).mono ?_
          rintro e W3 (⟨rfl, hJ4, hk4⟩ | ⟨rfl, hJx4⟩)
          · have HJ4 := Lib.hid hJ4
            have HK4 := Lib.hid hk4
            clear hJ4 hk4
            gi_wp2
            go_roundw
            case rel => exact ⟨done ++ [k'], ss ++ [(k', ⟨xk, xi, xp, xs⟩)], HM0.out.more HX.out (rwalks HRg.out HK4.out.1) (HB3.out.trans HK4.out.2) HM.out, HJ4.out⟩
            case measure =>
              rw [(rwalks HRg.out HK4.out.1).seen, HSeen.out]
              have := HLt.out
              simp; omega
          · have HJx4 := Lib.hid hJx4
            clear hJx4
            gi_wp2
            refine bodyPost_ret (results_none rfl _ _ _) rfl ?_
            refine ⟨⟨_, rfl⟩, .inr ⟨_, fun y hy => ?_, HJx4.out⟩⟩
            rcases List.mem_append.1 hy with hy | hy
            · exact HM0.out.sub y hy
            · have : y = (k', ⟨xk, xi, xp, xs⟩) := by simpa using hy
              subst this; exact ⟨HX.out, HM.out⟩
      · have HM := Lib.hid hm
        clear hm
        rcases hw with h1 | ⟨h1, h2⟩ | ⟨h1, h2, h3, h4, h5⟩
        · have n1 := bne_of h1
          gi_wp2
          go_roundw
          case rel => exact ⟨done ++ [k'], ss, HM0.out.skip HX.out HRg.out HB3.out HM.out, HJ3.out⟩
          case measure =>
            rw [HRg.out.seen, HSeen.out]
            have := HLt.out
            simp; omega
        · have n1 := bne_of h1
          have n2 := bne_of h2
          gi_wp2
          go_roundw
          case rel => exact ⟨done ++ [k'], ss, HM0.out.skip HX.out HRg.out HB3.out HM.out, HJ3.out⟩
          case measure =>
            rw [HRg.out.seen, HSeen.out]
            have := HLt.out
            simp; omega
        · have n1 := bne_of h1
          have n2 := bne_of h2
          have n3 := bne_of h3
          have n4 := bne_of h4
          have n5 := bne_of h5
          gi_wp2
          go_roundw
          case rel => exact ⟨done ++ [k'], ss, HM0.out.skip HX.out HRg.out HB3.out HM.out, HJ3.out⟩
          case measure =>
            rw [HRg.out.seen, HSeen.out]
            have := HLt.out
            simp; omega
end Go.Proofs.Ytnpfbdekomhonaa
