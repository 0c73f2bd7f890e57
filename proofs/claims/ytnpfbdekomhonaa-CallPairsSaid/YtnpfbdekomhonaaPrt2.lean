/- 'meets', 'free' of the ports. -/
import Derived.Test.YtnpfbdekomhonaaPrt1
import Derived.RangeFuncNested
import Derived.RangeFuncCalls
namespace Go.Proofs.Ytnpfbdekomhonaa
open Go.RowKit Stv Go.Shelf
attribute [local go_sem] Oper.semAt_some

theorem cell_of {w : World} {b : Nat} {c : Array Value} {t : TypeId} {f : Nat × Nat} (h : w.heap[b]? = some (.cells c t f)) (i : Nat) : w.cell? ⟨b, i, none⟩ = c[i]? := by
  simp [World.cell?, h]
theorem frozen_of {w : World} {b : Nat} {c : Array Value} {t : TypeId} (h : w.heap[b]? = some (.cells c t (0, 0))) (i : Nat) : w.frozen? ⟨b, i, none⟩ = false := by
  simp [World.frozen?, h]
theorem grew_of_below {w w' : World} (h : Below w.heap.size w w') : Grew w w' := ⟨h.os, h.tape, h.output, h.size, fun k hk _ => h.block k hk⟩
theorem grew_alloc (w : World) (o : Obj) : Grew w (w.alloc o) := (Off.refl _ _).alloc o

/-- BLOCK pp OF w IS THE PORTS' TABLE: its places. -/
structure PortsAt (w : World) (pp pm : Nat) (P : List (Int × Bnd)) : Prop where
  self : w.heap[pp]? = some (.cells #[.map (some pm)] 111 (0, 0))
  map : MapIs KU w pm (pairs P)
theorem PortsAt.c0 {w : World} {pp pm : Nat} {P : List (Int × Bnd)} (h : PortsAt w pp pm P) : w.cell? ⟨pp, 0, none⟩ = some (.map (some pm)) := cell_of h.self 0
theorem PortsAt.lt {w : World} {pp pm : Nat} {P : List (Int × Bnd)} (h : PortsAt w pp pm P) : pp < w.heap.size := (Array.getElem?_eq_some_iff.1 h.self).1
theorem PortsAt.ne {w : World} {pp pm : Nat} {P : List (Int × Bnd)} (h : PortsAt w pp pm P) : pp ≠ pm := by
  rintro rfl
  obtain ⟨es, clock, hb, _⟩ := h.map
  rw [h.self] at hb; cases hb
theorem PortsAt.off {S : Nat → Prop} {w w' : World} {pp pm : Nat} {P : List (Int × Bnd)} (h : PortsAt w pp pm P) (ho : Off S w w') (h1 : ¬ S pp) (h2 : ¬ S pm) : PortsAt w' pp pm P :=
  ⟨(ho.block pp h.lt h1).trans h.self, ho.map h.map h2⟩

set_option maxHeartbeats 1000000 in
theorem meetsF_in (F : Fence) (n : Nat) (hF : F.fn 64) (hro : F.round = none) (pp : Option Addr) (b : Bnd) (w : World) :
    CallsIn F n Try.prog 64 #[.pointer pp, b.val] w fun e w' => e = .returned (.func (.func 79) #[] #[.pointer (some ⟨w.heap.size, 0, none⟩), .pointer (some ⟨w.heap.size + 1, 0, none⟩)]) ∧ w' = (w.alloc (.cells #[.pointer pp] 77)).alloc (.cells b.cells 46) := by
  obtain ⟨bk, bi, bp, bs⟩ := b
  have hv : Bnd.val ⟨bk, bi, bp, bs⟩ = .agg #[.int .u8 bk, .int .u32 bi, .int .u16 bp, .bool bs] := rfl
  have hc : Bnd.cells ⟨bk, bi, bp, bs⟩ = #[.int .u8 bk, .int .u32 bi, .int .u16 bp, .bool bs] := rfl
  rw [hv, hc]
  clear hv hc
  refine callsIn_of_wp Try.func64 rfl hF ?_ hro
  simp only [Try.ntmps64, List.size_toArray, List.length_cons, List.length_nil, Nat.reduceAdd, Nat.reduceSub, Array.replicate_succ, Array.replicate_zero, List.push_toArray, List.append_toArray, List.nil_append, List.cons_append]
  gi_wp2
  go_ret
  exact ⟨rfl, rfl⟩

abbrev encP (x : Int × Bnd) : Array Value := #[.int .u64 x.1, x.2.val]

theorem meets_stops (F : Fence) (n : Nat) (hF : F.fn 79) (hro : F.round = none) (hn : 1 ≤ n) (Bp Bb pp pm : Nat) (P : List (Int × Bnd)) (b : Bnd) (w : World) (hBp : Bp < w.heap.size) (hBb : Bb < w.heap.size)
    (hp : w.cell? ⟨Bp, 0, none⟩ = some (.pointer (some ⟨pp, 0, none⟩))) (hb : w.heap[Bb]? = some (.cells b.cells 46)) (hP : PortsAt w pp pm P) :
    SeqStopsK F n Try.prog 79 #[.pointer (some ⟨Bp, 0, none⟩), .pointer (some ⟨Bb, 0, none⟩)] encP (KW w.heap.size) (fun ss => (∀ x ∈ P, meets b x.2 = true → x ∈ ss) ∧ (∀ x ∈ ss, x ∈ P ∧ meets b x.2 = true)) (fun pre => ∀ x ∈ pre, x ∈ P ∧ meets b x.2 = true) P.length w := fun l J Jx W hW hJ _ hY h0 =>
  (meets_in F n hF hro hn l Bp Bb pp pm w.heap.size P b J Jx hY W hJ hBb hW.size ((hW.cell (p := ⟨Bp, 0, none⟩) hBp).trans hp) ((hW.cell (p := ⟨pp, 0, none⟩) hP.lt).trans hP.c0) ((hW.block Bb hBb).trans hb) (hP.map.of_block (hW.block pm hP.map.lt)) h0).mono
    fun _ _ ⟨h1, h2⟩ => ⟨h1, h2.imp (fun ⟨ss, a, b, c⟩ => ⟨ss, ⟨a, b⟩, c⟩) id⟩

/-- does a place meet none? -/
def freeB (P : List (Int × Bnd)) (b : Bnd) : Bool := P.all fun x => !meets b x.2
theorem freeB_yes {P : List (Int × Bnd)} {b : Bnd} (h : ∀ x ∈ P, meets b x.2 = true → x ∈ ([] : List (Int × Bnd))) : freeB P b = true := by
  unfold freeB
  rw [List.all_eq_true]
  intro x hx
  cases hm : meets b x.2 with
  | false => rfl
  | true => exact nomatch h x hx hm
theorem freeB_no {P : List (Int × Bnd)} {b : Bnd} {x : Int × Bnd} (hx : x ∈ P) (hm : meets b x.2 = true) : freeB P b = false := by
  unfold freeB
  rw [List.all_eq_false]
  exact ⟨x, hx, by simp [hm]⟩

set_option maxRecDepth 100000 in
set_option maxHeartbeats 2000000 in
theorem free_in (F : Fence) (n : Nat) (h65 : F.fn 65) (h64 : F.fn 64) (h79 : F.fn 79) (hro : F.round = none) (hn : 3 ≤ n) (pp pm : Nat) (P : List (Int × Bnd)) (b : Bnd) (w : World) (hP : PortsAt w pp pm P) :
    CallsIn F n Try.prog 65 #[.pointer (some ⟨pp, 0, none⟩), b.val] w fun e w' => e = .returned (.bool (freeB P b)) ∧ Below w.heap.size w w' := by
  have h1 : 1 ≤ n := by omega
  obtain ⟨bk, bi, bp, bs⟩ := b
  have hv : Bnd.val ⟨bk, bi, bp, bs⟩ = .agg #[.int .u8 bk, .int .u32 bi, .int .u16 bp, .bool bs] := rfl
  have hm1 := fun w => meetsF_in F (n - 1) h64 hro (some ⟨pp, 0, none⟩) ⟨bk, bi, bp, bs⟩ w
  rw [hv] at hm1 ⊢
  have HM1 := Lib.hid hm1
  clear hm1
  refine callsIn_of_wp_marks Try.func65 rfl h65 ?_ hro
  simp only [Try.ntmps65, List.size_toArray, List.length_cons, List.length_nil, Nat.reduceAdd, Nat.reduceSub, Array.replicate_succ, Array.replicate_zero, List.push_toArray, List.append_toArray, List.nil_append, List.cons_append]
  gi_wp2_with (gi_at_call 64; refine (HM1.out _).mono ?_; rintro e w' ⟨rfl, rfl⟩)
  have hP0 : PortsAt ((((w.alloc (.cells #[.int .u8 bk, .int .u32 bi, .int .u16 bp, .bool bs] 46)).alloc (.cells #[.bool false] 4)).alloc (.cells #[.pointer (some ⟨pp, 0, none⟩)] 77)).alloc (.cells (Bnd.cells ⟨bk, bi, bp, bs⟩) 46)) pp pm P :=
    hP.off (((((Off.refl (fun _ => False) w).alloc _).alloc _).alloc _).alloc _) (fun h => h) fun h => h
  have hB0 : Below w.heap.size w ((((w.alloc (.cells #[.int .u8 bk, .int .u32 bi, .int .u16 bp, .bool bs] 46)).alloc (.cells #[.bool false] 4)).alloc (.cells #[.pointer (some ⟨pp, 0, none⟩)] 77)).alloc (.cells (Bnd.cells ⟨bk, bi, bp, bs⟩) 46)) :=
    ((((Below.refl _ w).alloc (Nat.le_refl _) _).alloc (by simp) _).alloc (by simp; omega) _).alloc (by simp; omega) _
  have hsz : ((((w.alloc (.cells #[.int .u8 bk, .int .u32 bi, .int .u16 bp, .bool bs] 46)).alloc (.cells #[.bool false] 4)).alloc (.cells #[.pointer (some ⟨pp, 0, none⟩)] 77)).alloc (.cells (Bnd.cells ⟨bk, bi, bp, bs⟩) 46)).heap.size = w.heap.size + 4 := by simp
  have hr0 : Boxed ((((w.alloc (.cells #[.int .u8 bk, .int .u32 bi, .int .u16 bp, .bool bs] 46)).alloc (.cells #[.bool false] 4)).alloc (.cells #[.pointer (some ⟨pp, 0, none⟩)] 77)).alloc (.cells (Bnd.cells ⟨bk, bi, bp, bs⟩) 46)) (w.heap.size + 1) 4 (.bool false) := by
    have := ((Boxed.new (w.alloc (.cells #[.int .u8 bk, .int .u32 bi, .int .u16 bp, .bool bs] 46)) 4 (.bool false)).alloc (.cells #[.pointer (some ⟨pp, 0, none⟩)] 77)).alloc (.cells (Bnd.cells ⟨bk, bi, bp, bs⟩) 46)
    simpa using this
  have hp0 : ((((w.alloc (.cells #[.int .u8 bk, .int .u32 bi, .int .u16 bp, .bool bs] 46)).alloc (.cells #[.bool false] 4)).alloc (.cells #[.pointer (some ⟨pp, 0, none⟩)] 77)).alloc (.cells (Bnd.cells ⟨bk, bi, bp, bs⟩) 46)).cell? ⟨w.heap.size + 2, 0, none⟩ = some (.pointer (some ⟨pp, 0, none⟩)) := by
    have := (((Boxed.new ((w.alloc (.cells #[.int .u8 bk, .int .u32 bi, .int .u16 bp, .bool bs] 46)).alloc (.cells #[.bool false] 4)) 77 (.pointer (some ⟨pp, 0, none⟩))).alloc (.cells (Bnd.cells ⟨bk, bi, bp, bs⟩) 46))).cell
    simpa using this
  have hb0 : ((((w.alloc (.cells #[.int .u8 bk, .int .u32 bi, .int .u16 bp, .bool bs] 46)).alloc (.cells #[.bool false] 4)).alloc (.cells #[.pointer (some ⟨pp, 0, none⟩)] 77)).alloc (.cells (Bnd.cells ⟨bk, bi, bp, bs⟩) 46)).heap[w.heap.size + 3]? = some (.cells (Bnd.cells ⟨bk, bi, bp, bs⟩) 46) := by
    have := (MapKept.heap_alloc (((w.alloc (.cells #[.int .u8 bk, .int .u32 bi, .int .u16 bp, .bool bs] 46)).alloc (.cells #[.bool false] 4)).alloc (.cells #[.pointer (some ⟨pp, 0, none⟩)] 77)) (.cells (Bnd.cells ⟨bk, bi, bp, bs⟩) 46)).1
    simpa using this
  generalize ((((w.alloc (.cells #[.int .u8 bk, .int .u32 bi, .int .u16 bp, .bool bs] 46)).alloc (.cells #[.bool false] 4)).alloc (.cells #[.pointer (some ⟨pp, 0, none⟩)] 77)).alloc (.cells (Bnd.cells ⟨bk, bi, bp, bs⟩) 46)) = W0 at *
  refine wpIn_rangeFunc_ownG hro h1 (gf := 79) (lb := #[.pointer (some ⟨w.heap.size + 1 + 1, 0, none⟩), .pointer (some ⟨w.heap.size + 1 + 1 + 1, 0, none⟩)]) rfl h79 (enters_of Try.func79 (by kernel_rfl) rfl)
    (meets_stops F (n - 1) h79 hro (by omega) (w.heap.size + 2) (w.heap.size + 3) pp pm P ⟨bk, bi, bp, bs⟩ W0 (by omega) (by omega) hp0 hb0 hP0) KW.t (KW.b (Nat.le_refl _)) (Below.refl _ _) (fun _ => rfl)
    (fun pre W => (pre = [] ∧ Boxed W (w.heap.size + 1) 4 (.bool false)) ∧ Below w.heap.size w W)
    (fun c pre W => ((c = .ret ∧ pre ≠ []) ∧ Boxed W (w.heap.size + 1) 4 (.bool false)) ∧ Below w.heap.size w W)
    (OwnFrom.and (OwnFrom.and (ownFrom_pure _ (fun pre => pre = [])) (Own.from (boxed_own _ _ _) _)) (ownFrom_below (Nat.le_refl _) (by omega)))
    (fun c => OwnFrom.and (OwnFrom.and (ownFrom_pure _ (fun pre => c = .ret ∧ pre ≠ [])) (Own.from (boxed_own _ _ _) _)) (ownFrom_below (Nat.le_refl _) (by omega)))
    ⟨⟨rfl, hr0⟩, hB0⟩
    (fun x => { tmps := #[.pointer (some ⟨pp, 0, none⟩), .agg #[.int .u8 bk, .int .u32 bi, .int .u16 bp, .bool bs], undef, .pointer (some ⟨w.heap.size, 0, none⟩), .pointer (some ⟨w.heap.size + 1, 0, none⟩), .pointer (some ⟨pp, 0, none⟩), .agg #[.int .u8 bk, .int .u32 bi, .int .u16 bp, .bool bs], .func (.func 79) #[] #[.pointer (some ⟨w.heap.size + 1 + 1, 0, none⟩), .pointer (some ⟨w.heap.size + 1 + 1 + 1, 0, none⟩)], .int .u64 x.1, x.2.val], defers := [] }) ?assign ?body ?done ?stop
  case assign =>
    intro l x W K hK
    dsimp only [encP]
    gi_wp2
    simpa using hK
  case body =>
    rintro l pre x W ⟨⟨rfl, hr⟩, hB⟩ _
    have hc := hr.cell
    have hf := hr.frozen
    gi_wp2
    exact ⟨(KeepsOthers.setCell _ _ _).from _, ⟨⟨rfl, by simp⟩, hr.set _⟩, hB.setCell (by simp) _⟩
  case done =>
    rintro D xs W hD ⟨hS, _⟩ ⟨⟨rfl, hr⟩, hB⟩ hK
    have hc := hr.cell
    have hf := hr.frozen
    have hfr := freeB_yes hS
    gi_wp2
    have hK' := (KeepsOthers.setCell W ⟨w.heap.size + 1, 0, none⟩ (.bool true)).same D _ hK rfl
    refine ⟨by simp, .inl ⟨_, _, rfl, run_takeDeferred hK', ?_⟩⟩
    have hc5 := cell_kept (World.cell?_setCell_same' W ⟨w.heap.size + 1, 0, none⟩ (.bool true) (by rw [hc]; rfl)) (grownBy_putObj' _ D (.deferred none)) (fun r e => by cases e; exact ⟨_, hK', rfl⟩)
    refine ⟨.bool true, ?_, ?_, ?_⟩
    · simp [results, Try.f65, go_sem, hc5]
    · rw [hfr]
    · exact (hB.setCell (p := ⟨w.heap.size + 1, 0, none⟩) (by simp) _).trans (belowK_b (w := w) (Nat.le_refl _) _ D _ _ (by omega) hK' rfl rfl)
  case stop =>
    rintro D c pre W hD hSp ⟨⟨⟨rfl, hne⟩, hr⟩, hB⟩ hK
    obtain ⟨x, hx⟩ := List.exists_mem_of_ne_nil pre hne
    have hfr := freeB_no (hSp x hx).1 (hSp x hx).2
    have hc := hr.cell
    gi_wp2
    refine ⟨by simp, .inl ⟨_, _, rfl, run_takeDeferred hK, ?_⟩⟩
    have hc5 := cell_kept hc (grownBy_putObj' _ D (.deferred none)) (fun r e => by cases e; exact ⟨_, hK, rfl⟩)
    refine ⟨.bool false, ?_, ?_, ?_⟩
    · simp [results, Try.f65, go_sem, hc5]
    · rw [hfr]
    · exact hB.trans (belowK_b (w := w) (Nat.le_refl _) _ D _ _ (by omega) hK rfl rfl)

theorem free_any {w : World} {pp pm : Nat} {P : List (Int × Bnd)} (hP : PortsAt w pp pm P) (b : Bnd) :
    Calls Try.prog 65 #[.pointer (some ⟨pp, 0, none⟩), b.val] w fun e w' => e = .returned (.bool (freeB P b)) ∧ Grew w w' :=
  ((callsIn_wide (n := 6)).1 (free_in Fence.wide 6 trivial trivial trivial rfl (by omega) pp pm P b w hP)).mono fun _ _ ⟨h1, h2⟩ => ⟨h1, grew_of_below h2⟩
end Go.Proofs.Ytnpfbdekomhonaa
