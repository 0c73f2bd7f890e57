/- the pivot, at whole numbers: which place it is is left open. -/
import Derived.Test.YtagdolkfefbohaaSrt2
import Derived.BigQuiet
namespace Go.Proofs.Ytagdolkfefbohaa
open Go.RowKit Stv
open Go.Sort (swp)

/-- block s holds the number z alone -/
def CellZ (w : World) (s : Nat) (z : Int) : Prop := ∃ T, w.heap[s]? = some (.cells #[.int .i64 z] T (0, 0))

namespace CellZ
variable {w : World} {s : Nat} {z : Int}
theorem cell (h : CellZ w s z) : w.cell? ⟨s, 0, none⟩ = some (.int .i64 z) := by
  obtain ⟨T, h⟩ := h
  simp [World.cell?, h]
theorem frozen (h : CellZ w s z) : w.frozen? ⟨s, 0, none⟩ = false := by
  obtain ⟨T, h⟩ := h
  simp [World.frozen?, h]
theorem lt (h : CellZ w s z) : s < w.heap.size := by
  obtain ⟨T, h⟩ := h
  exact (Array.getElem?_eq_some_iff.1 h).1
theorem set (h : CellZ w s z) (z' : Int) : CellZ (w.setCell ⟨s, 0, none⟩ (.int .i64 z')) s z' := by
  obtain ⟨T, h⟩ := h
  refine ⟨T, ?_⟩
  simp only [World.setCell, Array.getElem?_modify, if_true, h, Option.map_some]
  simp
theorem off {S : Nat → Prop} {w' : World} (h : CellZ w s z) (ho : Off S w w') (hS : ¬ S s) : CellZ w' s z := by
  have := h.lt
  obtain ⟨T, h⟩ := h
  exact ⟨T, (ho.block s this hS).trans h⟩
theorem drewN (h : CellZ w s z) (n : Nat) : CellZ (w.drewN n) s z := h
end CellZ

/-- what order2 and the medians leave: the count in s moved by at most m -/
structure Moved (s : Nat) (w : World) (z : Int) (m : Nat) (w' : World) : Prop where
  off : Off (fun k => k = s) w w'
  cell : ∃ z', CellZ w' s z' ∧ z ≤ z' ∧ z' ≤ z + m

theorem ord_any {w : World} {g : Nat} {d : Array Int} {R : List Value} (hR : RowB w g d R) {n cap : Nat} (hn : n = d.size) (_hsz : d.size ≤ 1152921504606846976) {s : Nat} (_hs : g ≠ s) {z : Int} (hz : CellZ w s z) (hz0 : 0 ≤ z) (hz1 : z ≤ 1000) {a b : Nat} (ha : a < d.size) (hb : b < d.size) :
    Calls Try.prog 49 #[.slice (some ⟨g, 0, none⟩) n cap, .int .i64 a, .int .i64 b, .pointer (some ⟨s, 0, none⟩)] w fun e w' => ∃ p q : Nat, e = .returned (.tuple #[.int .i64 p, .int .i64 q]) ∧ (p = a ∨ p = b) ∧ (q = a ∨ q = b) ∧ Moved s w z 1 w' := by
  subst hn
  obtain ⟨N, hN⟩ : ∃ N, N = d.size := ⟨_, rfl⟩
  obtain ⟨x, hx, cx, fx⟩ := (SB.start hR).at_ (i := b) hb
  obtain ⟨y, hy, cy, fy⟩ := (SB.start hR).at_ (i := a) ha
  rw [← hN] at ha hb _hsz ⊢
  have cz := hz.cell
  have fz := hz.frozen
  have HZ := Lib.hid hz
  clear hR hN hx hy hz
  by_cases hl : ltI x y = true
  · go_enter Try.func49, Try.ntmps49
    go_wp2
    go_big_quiet ((go_at_call 38; exact Calls.quiet_of_same (less_yes hl _)))
    go_wp2
    go_ret2
    exact ⟨b, a, rfl, .inr rfl, .inl rfl, Off.setCell (p := ⟨s, 0, none⟩) ((Off.refl (fun k => k = s) _).drewN _) (.inl rfl) _, _, (HZ.out.drewN _).set _, by omega, by omega⟩
  · have hl : ltI x y = false := by simpa using hl
    go_enter Try.func49, Try.ntmps49
    go_wp2
    go_big_quiet ((go_at_call 38; exact Calls.quiet_of_same (less_no hl _)))
    go_wp2
    go_ret2
    exact ⟨a, b, rfl, .inl rfl, .inr rfl, (Off.refl _ _).drewN _, _, HZ.out.drewN _, by omega, by omega⟩

theorem Moved.trans {s : Nat} {w w1 w2 : World} {z : Int} {m k : Nat} (h : Moved s w z m w1) (h2 : ∀ z', CellZ w1 s z' → z ≤ z' → z' ≤ z + m → Moved s w1 z' k w2) : Moved s w z (m + k) w2 := by
  obtain ⟨z', c, h0, h1⟩ := h.cell
  have H := h2 z' c h0 h1
  obtain ⟨z2, c2, h3, h4⟩ := H.cell
  exact ⟨h.off.trans H.off, z2, c2, by omega, by omega⟩

set_option maxHeartbeats 800000 in
theorem med_any {w : World} {g : Nat} {d : Array Int} {R : List Value} (hR : RowB w g d R) {n cap : Nat} (hn : n = d.size) (hsz : d.size ≤ 1152921504606846976) {s : Nat} (hs : g ≠ s) {z : Int} (hz : CellZ w s z) (hz0 : 0 ≤ z) (hz1 : z ≤ 900) {a b c : Nat} (ha : a < d.size) (hb : b < d.size) (hc : c < d.size) :
    Calls Try.prog 47 #[.slice (some ⟨g, 0, none⟩) n cap, .int .i64 a, .int .i64 b, .int .i64 c, .pointer (some ⟨s, 0, none⟩)] w fun e w' => (∃ p : Nat, e = .returned (.int .i64 p) ∧ (p = a ∨ p = b ∨ p = c)) ∧ Moved s w z 3 w' := by
  have HR := Lib.hid hR
  have HZ := Lib.hid hz
  have HN := Lib.hid (And.intro hn hsz)
  have HS := Lib.hid hs
  clear hR hz hn hs
  go_enter Try.func47, Try.ntmps47
  go_wp2_with fail
  refine (ord_any HR.out HN.out.1 (cap := cap) HN.out.2 HS.out HZ.out hz0 (by omega) ha hb).mono ?_
  rintro e w1 ⟨p, q, rfl, hp, hq, hm⟩
  obtain ⟨z1, hz1', hz2, hz3⟩ := hm.cell
  have HR1 := Lib.hid (HR.out.off hm.off HS.out)
  have hpN : p < d.size := by rcases hp with h | h <;> rw [h] <;> assumption
  have hqN : q < d.size := by rcases hq with h | h <;> rw [h] <;> assumption
  have HM := Lib.hid hm
  have HPQ := Lib.hid (And.intro hp hq)
  have HZ1 := Lib.hid hz1'
  clear hm hp hq hz1'
  go_wp2_with fail
  refine (ord_any HR1.out HN.out.1 (cap := cap) HN.out.2 HS.out HZ1.out (by omega) (by omega) hqN hc).mono ?_
  rintro e w2 ⟨p2, q2, rfl, hp, hq, hm⟩
  obtain ⟨z2, hz2', hz4, hz5⟩ := hm.cell
  have HR2 := Lib.hid (HR1.out.off hm.off HS.out)
  have hp2N : p2 < d.size := by rcases hp with h | h <;> rw [h] <;> assumption
  have HM2 := Lib.hid hm
  have HPQ2 := Lib.hid (And.intro hp hq)
  have HZ2 := Lib.hid hz2'
  clear hm hp hq hz2'
  go_wp2_with fail
  refine (ord_any HR2.out HN.out.1 (cap := cap) HN.out.2 HS.out HZ2.out (by omega) (by omega) hpN hp2N).mono ?_
  rintro e w3 ⟨p3, q3, rfl, hp, hq, hm⟩
  have HM3 := Lib.hid hm
  have HPQ3 := Lib.hid (And.intro hp hq)
  clear hm hp hq
  go_wp2
  go_ret
  refine ⟨⟨q3, rfl, ?_⟩, ?_⟩
  · have h1 := HPQ.out
    have h2 := HPQ2.out
    have h3 := HPQ3.out
    omega
  · obtain ⟨z3, c3, h6, h7⟩ := HM3.out.cell
    exact ⟨(HM.out.off.trans HM2.out.off).trans HM3.out.off, z3, c3, by omega, by omega⟩

theorem adj_any {w : World} {g : Nat} {d : Array Int} {R : List Value} (hR : RowB w g d R) {n cap : Nat} (hn : n = d.size) (hsz : d.size ≤ 1152921504606846976) {s : Nat} (hs : g ≠ s) {z : Int} (hz : CellZ w s z) (hz0 : 0 ≤ z) (hz1 : z ≤ 900) {a : Nat} (ha : 1 ≤ a) (hb : a + 1 < d.size) :
    Calls Try.prog 46 #[.slice (some ⟨g, 0, none⟩) n cap, .int .i64 a, .pointer (some ⟨s, 0, none⟩)] w fun e w' => (∃ p : Nat, e = .returned (.int .i64 p) ∧ a - 1 ≤ p ∧ p ≤ a + 1) ∧ Moved s w z 3 w' := by
  obtain ⟨b, rfl⟩ : ∃ b, a = b + 1 := ⟨a - 1, by omega⟩
  have HR := Lib.hid hR
  have HZ := Lib.hid hz
  have HN := Lib.hid (And.intro hn hsz)
  have HS := Lib.hid hs
  clear hR hz hn hs
  go_enter Try.func46, Try.ntmps46
  go_wp2_with fail
  refine (med_any HR.out HN.out.1 (cap := cap) HN.out.2 HS.out HZ.out hz0 hz1 (a := b) (b := b + 1) (c := b + 1 + 1) (by omega) (by omega) (by omega)).mono ?_
  rintro e w1 ⟨⟨p, rfl, hp⟩, hm⟩
  have HM := Lib.hid hm
  clear hm
  go_wp2
  go_ret
  exact ⟨⟨p, rfl, by omega, by omega⟩, HM.out⟩

set_option maxHeartbeats 1600000 in
theorem piv_any {w : World} {g : Nat} {d : Array Int} {R : List Value} (hR : RowB w g d R) {n cap : Nat} (hn : n = d.size) (hsz : d.size ≤ 1152921504606846976) {a b : Nat} (hab : a + 12 < b) (hb : b ≤ d.size) :
    Calls Try.prog 35 #[.slice (some ⟨g, 0, none⟩) n cap, .int .i64 a, .int .i64 b] w fun e w' => ∃ (p : Nat) (h : Int), e = .returned (.tuple #[.int .i64 p, .int .i64 h]) ∧ a ≤ p ∧ p < b ∧ 0 ≤ h ∧ h ≤ 2 ∧ Grew w w' := by
  have HR := Lib.hid hR
  have HN := Lib.hid (And.intro hn hsz)
  obtain ⟨s, hs⟩ : ∃ s, w.heap.size = s := ⟨_, rfl⟩
  have HS := Lib.hid (show g ≠ s by have := hR.lt; omega)
  obtain ⟨N, hN⟩ : ∃ N, N = d.size := ⟨_, rfl⟩
  have HNN := Lib.hid hN
  rw [← hN] at hb hsz
  clear hR hn hN
  go_enter Try.func35, Try.ntmps35
  have HR0 := Lib.hid (HR.out.alloc (.cells #[Value.int IntKind.i64 0] 3))
  have HZ0 : Hid (CellZ (w.alloc (.cells #[Value.int IntKind.i64 0] 3)) s 0) := Lib.hid ⟨3, by subst hs; show (w.heap.push _)[w.heap.size]? = _; simp⟩
  have HG0 : Hid (Grew w (w.alloc (.cells #[Value.int IntKind.i64 0] 3))) := Lib.hid ((Off.refl _ _).alloc _)
  have HF : Hid (∀ {m : Nat} {z : Int} {w1 : World}, Moved s (w.alloc (.cells #[Value.int IntKind.i64 0] 3)) z m w1 → Grew w w1) := Lib.hid fun hm => HG0.out.next hm.off fun i hi => .inr (by rw [hi, hs]; exact Nat.le_refl _)
  obtain ⟨q, hq⟩ : ∃ q : Nat, ((b : Int) - a) / 4 = q := ⟨(b - a) / 4, by omega⟩
  obtain ⟨i, hi⟩ : ∃ i : Nat, (a : Int) + q = i := ⟨a + q, rfl⟩
  obtain ⟨j, hj⟩ : ∃ j : Nat, (a : Int) + q * 2 = j := ⟨a + q * 2, rfl⟩
  obtain ⟨k, hk⟩ : ∃ k : Nat, (a : Int) + q * 3 = k := ⟨a + q * 3, rfl⟩
  have HQ := Lib.hid (And.intro hq (And.intro hi (And.intro hj hk)))
  have hi1 : a + 1 ≤ i ∧ i + 1 < b := by omega
  have hj1 : a + 1 ≤ j ∧ j + 1 < b := by omega
  have hk1 : a + 1 ≤ k ∧ k + 1 < b := by omega
  have hlN : d.size = N := HNN.out.symm
  have HlN := Lib.hid hlN
  clear hq hi hj hk hlN
  go_wp2_with fail
  · rw [HQ.out.1, HQ.out.2.1, HQ.out.2.2.1, HQ.out.2.2.2]
    refine (adj_any HR0.out HN.out.1 (cap := cap) HN.out.2 HS.out HZ0.out (by omega) (by omega) (a := i) (by omega) (by rw [HlN.out]; omega)).mono ?_
    rintro e w1 ⟨⟨i2, rfl, hi2⟩, hm⟩
    obtain ⟨z1, hz1, hz2, hz3⟩ := hm.cell
    have HR1 := Lib.hid (HR0.out.off hm.off HS.out)
    have HZ1 := Lib.hid hz1
    have HM := Lib.hid hm
    clear hm hz1
    go_wp2_with fail
    refine (adj_any HR1.out HN.out.1 (cap := cap) HN.out.2 HS.out HZ1.out (by omega) (by omega) (a := j) (by omega) (by rw [HlN.out]; omega)).mono ?_
    rintro e w2 ⟨⟨j2, rfl, hj2⟩, hm⟩
    obtain ⟨z2, hz1, hz4, hz5⟩ := hm.cell
    have HR2 := Lib.hid (HR1.out.off hm.off HS.out)
    have HZ2 := Lib.hid hz1
    have HM2 := Lib.hid hm
    clear hm hz1
    go_wp2_with fail
    refine (adj_any HR2.out HN.out.1 (cap := cap) HN.out.2 HS.out HZ2.out (by omega) (by omega) (a := k) (by omega) (by rw [HlN.out]; omega)).mono ?_
    rintro e w3 ⟨⟨k2, rfl, hk2⟩, hm⟩
    obtain ⟨z3, hz1, hz6, hz7⟩ := hm.cell
    have HR3 := Lib.hid (HR2.out.off hm.off HS.out)
    have HZ3 := Lib.hid hz1
    have HM3 := Lib.hid hm
    clear hm hz1
    go_wp2_with fail
    refine (med_any HR3.out HN.out.1 (cap := cap) HN.out.2 HS.out HZ3.out (by omega) (by omega) (a := i2) (b := j2) (c := k2) (by rw [HlN.out]; omega) (by rw [HlN.out]; omega) (by rw [HlN.out]; omega)).mono ?_
    rintro e w4 ⟨⟨p, rfl, hp⟩, hm⟩
    obtain ⟨z4, hz1, hz8, hz9⟩ := hm.cell
    have cz4 := hz1.cell
    have hG : Grew w w4 := HF.out (m := 12) (z := 0) ⟨((HM.out.off.trans HM2.out.off).trans HM3.out.off).trans hm.off, z4, hz1, by omega, by omega⟩
    have HG := Lib.hid hG
    clear hm hz1 hG
    go_wp2
    all_goals go_ret2
    all_goals refine ⟨p, _, rfl, by omega, by omega, by decide, by decide, HG.out⟩
  · rw [HQ.out.1, HQ.out.2.1, HQ.out.2.2.1, HQ.out.2.2.2]
    refine (med_any HR0.out HN.out.1 (cap := cap) HN.out.2 HS.out HZ0.out (by omega) (by omega) (a := i) (b := j) (c := k) (by rw [HlN.out]; omega) (by rw [HlN.out]; omega) (by rw [HlN.out]; omega)).mono ?_
    rintro e w4 ⟨⟨p, rfl, hp⟩, hm⟩
    obtain ⟨z4, hz1, hz8, hz9⟩ := hm.cell
    have cz4 := hz1.cell
    have HG : Hid (Grew w w4) := Lib.hid (HF.out hm)
    clear hm hz1
    go_wp2
    all_goals go_ret2
    all_goals refine ⟨p, _, rfl, by omega, by omega, by decide, by decide, HG.out⟩
end Go.Proofs.Ytagdolkfefbohaa
