/- slices.Sort at whole numbers: a row in memory; cmp.Less; insertion sort; reversing. -/
import Derived.Test.YtagdolkfefbohaaRows
import Derived.Test.YtagdolkfefbohaaBase4
import Derived.Sort.AssemblyPlain
namespace Go.Proofs.Ytagdolkfefbohaa
open Go.RowKit Stv
open Go.Sort (swp)

/-- block g holds the numbers d, and R behind them -/
def RowB (w : World) (g : Nat) (d : Array Int) (R : List Value) : Prop := w.heap[g]? = some (.cells (d.toList.map (Value.int .u64) ++ R).toArray 30 (0, 0))
/-- as before but for block g -/
abbrev But (g : Nat) (w w' : World) : Prop := Off (fun k => k = g) w w'
def ltI (x y : Int) : Bool := decide (x < y)

namespace RowB
variable {w : World} {g : Nat} {d : Array Int} {R : List Value}
theorem lt (h : RowB w g d R) : g < w.heap.size := (Array.getElem?_eq_some_iff.1 h).1
theorem cell (h : RowB w g d R) {i : Nat} (hi : i < d.size) : w.cell? ⟨g, i, none⟩ = some (.int .u64 d[i]!) := by
  unfold RowB at h
  simp [World.cell?, h]
  rw [List.getElem?_append_left (by simpa using hi)]
  simp [Array.getElem?_eq_getElem hi, getElem!_pos d i hi]
theorem frozen (h : RowB w g d R) (i : Nat) : w.frozen? ⟨g, i, none⟩ = false := by
  unfold RowB at h
  simp [World.frozen?, h]
theorem set (h : RowB w g d R) {i : Nat} (hi : i < d.size) (x : Int) : RowB (w.setCell ⟨g, i, none⟩ (.int .u64 x)) g (d.setIfInBounds i x) R := by
  unfold RowB at h ⊢
  simp only [World.setCell, Array.getElem?_modify, if_true, h, Option.map_some]
  simp only [Option.isSome_none, Bool.false_eq_true, if_false, List.setIfInBounds_toArray, Array.toList_setIfInBounds, Option.some.injEq, Obj.cells.injEq, and_true]
  congr 1
  rw [List.set_append_left _ _ (by simpa using hi), List.map_set]
theorem off {S : Nat → Prop} {w' : World} (h : RowB w g d R) (ho : Off S w w') (hS : ¬ S g) : RowB w' g d R := (ho.block g h.lt hS).trans h
theorem drew (h : RowB w g d R) : RowB w.drew g d R := h
theorem drewN (h : RowB w g d R) (n : Nat) : RowB (w.drewN n) g d R := h
theorem alloc (h : RowB w g d R) (o : Obj) : RowB (w.alloc o) g d R := (RowKit.Below.heap_alloc w o g h.lt).trans h
theorem grew {w' : World} (h : RowB w g d R) (hg : Grew w w') : RowB w' g d R := h.off hg fun h => h
theorem swap (h : RowB w g d R) {i j : Nat} (hi : i < d.size) (hj : j < d.size) : RowB ((w.setCell ⟨g, i, none⟩ (.int .u64 d[j]!)).setCell ⟨g, j, none⟩ (.int .u64 d[i]!)) g (swp d i j) R :=
  (h.set hi d[j]!).set (by simpa using hj) d[i]!
theorem swap' (h : RowB w g d R) {i j : Nat} (hi : i < d.size) (hj : j < d.size) : RowB ((w.setCell ⟨g, j, none⟩ (.int .u64 d[i]!)).setCell ⟨g, i, none⟩ (.int .u64 d[j]!)) g (swp d i j) R := by
  have h1 := (h.set hj d[i]!).set (i := i) (by simpa using hi) d[j]!
  have e : (d.setIfInBounds j d[i]!).setIfInBounds i d[j]! = swp d i j := by
    unfold swp
    apply Array.ext_getElem?
    intro k
    simp only [Array.getElem?_setIfInBounds]
    by_cases h1 : i = k <;> by_cases h2 : j = k <;> simp_all
  rw [← e]; exact h1
end RowB

theorem But.cell2 {w : World} {g i j : Nat} (u v : Value) : But g w ((w.setCell ⟨g, i, none⟩ u).setCell ⟨g, j, none⟩ v) :=
  Off.setCell (p := ⟨g, j, none⟩) (Off.setCell (p := ⟨g, i, none⟩) (Off.refl (fun k => k = g) w) (.inl rfl) _) (.inl rfl) _
theorem swp_size (d : Array Int) (i j : Nat) : (swp d i j).size = d.size := by simp [swp]

/-! ### cmp.Less -/
theorem nan_any (x : Int) (w : World) : Calls Try.prog 48 #[.int .u64 x] w fun e w' => e = .returned (.bool false) ∧ w' = w := by
  go_enter Try.func48, Try.ntmps48
  go_wp2
  go_ret
  exact ⟨rfl, rfl⟩

theorem less_any (x y : Int) (w : World) : Calls Try.prog 38 #[.int .u64 x, .int .u64 y] w fun e w' => e = .returned (.bool (ltI x y)) ∧ w' = w := by
  go_enter Try.func38, Try.ntmps38
  go_wp2_with (go_at_call 48; refine (nan_any _ _).mono ?_; rintro e w' ⟨rfl, rfl⟩)
  go_ret
  exact ⟨rfl, rfl⟩

theorem less_yes {x y : Int} (h : ltI x y = true) (w : World) : Calls Try.prog 38 #[.int .u64 x, .int .u64 y] w fun e w' => e = .returned (.bool true) ∧ w' = w := by
  have := less_any x y w; rwa [h] at this
theorem less_no {x y : Int} (h : ltI x y = false) (w : World) : Calls Try.prog 38 #[.int .u64 x, .int .u64 y] w fun e w' => e = .returned (.bool false) ∧ w' = w := by
  have := less_any x y w; rwa [h] at this

/-! ### The row, behind steps that turn it alone -/
/-- the row holds d now; all else of w is as it was -/
structure SB (w : World) (g : Nat) (R : List Value) (d : Array Int) (w' : World) : Prop where
  row : RowB w' g d R
  but : But g w w'

namespace SB
variable {w w' : World} {g : Nat} {d : Array Int} {R : List Value}
theorem start (h : RowB w g d R) : SB w g R d w := ⟨h, Off.refl _ _⟩
theorem drewN (h : SB w g R d w') (n : Nat) : SB w g R d (w'.drewN n) := ⟨h.row.drewN n, h.but.drewN n⟩
theorem drew (h : SB w g R d w') : SB w g R d w'.drew := ⟨h.row.drew, h.but.drew⟩
theorem then_ {w2 : World} {d2 : Array Int} (h : SB w g R d w') (h2 : SB w' g R d2 w2) : SB w g R d2 w2 := ⟨h2.row, h.but.trans h2.but⟩
theorem swapped (h : SB w g R d w') {i j : Nat} {x y : Int} (hi : i < d.size) (hj : j < d.size) (hx : x = d[i]!) (hy : y = d[j]!) :
    SB w g R (swp d i j) ((w'.setCell ⟨g, i, none⟩ (.int .u64 y)).setCell ⟨g, j, none⟩ (.int .u64 x)) := by
  subst hx hy
  exact ⟨h.row.swap hi hj, h.but.next (But.cell2 _ _) fun _ h => .inl h⟩
/-- what place i holds -/
theorem at_ (h : SB w g R d w') {i : Nat} (hi : i < d.size) : ∃ x, x = d[i]! ∧ w'.cell? ⟨g, i, none⟩ = some (.int .u64 x) ∧ w'.frozen? ⟨g, i, none⟩ = false := ⟨_, rfl, h.row.cell hi, h.row.frozen i⟩
end SB

/-! ### reverseRange -/
theorem revLoop_go {i j : Nat} (d : Array Int) (h : i < j) : Sort.reverseLoop (i + 1) (j - 1) (swp d i j) = Sort.reverseLoop i j d := by
  conv => rhs; rw [Sort.reverseLoop, if_pos h]
theorem revLoop_stop {i j : Nat} (d : Array Int) (h : ¬ i < j) : Sort.reverseLoop i j d = d := by rw [Sort.reverseLoop, if_neg h]

set_option maxHeartbeats 800000 in
theorem rev_any {w : World} {g : Nat} {d : Array Int} {R : List Value} (hR : RowB w g d R) {n cap : Nat} (hn : n = d.size) (hsz : d.size ≤ 4611686018427387904) {a b : Nat} (hab : a ≤ b) (hb : b ≤ d.size) (hb0 : 0 < b) :
    Calls Try.prog 36 #[.slice (some ⟨g, 0, none⟩) n cap, .int .i64 a, .int .i64 b] w fun e w' => e = .returned (.tuple #[]) ∧ SB w g R (Sort.reverseRange d a b) w' := by
  subst hn
  have HR := Lib.hid (SB.start hR)
  obtain ⟨N, hN⟩ : ∃ N, N = d.size := ⟨_, rfl⟩
  rw [← hN] at hb hsz ⊢
  have HN := Lib.hid hN
  clear hR hN
  go_enter Try.func36, Try.ntmps36
  go_wp2
  go_loopw [6, 7] (fun vi vj wr => ∃ (i j : Nat) (dk : Array Int), vi = .int .i64 i ∧ vj = .int .i64 j ∧ i ≤ N ∧ j < N ∧ dk.size = N ∧ SB w g R dk wr ∧ Sort.reverseLoop i j dk = Sort.reverseRange d a b) (fun vi _ _ => N - (intOf vi).toNat)
  case atStart => exact ⟨a, b - 1, d, rfl, by congr 1; omega, by omega, by omega, HN.out.symm, HR.out, rfl⟩
  case round =>
    obtain ⟨i, j, dk, rfl, rfl, hi, hj, hs, hS, hE⟩ := hrel
    have HE := Lib.hid hE
    by_cases hij : i < j
    · obtain ⟨x, hx, cx, fx⟩ := hS.at_ (i := i) (by omega)
      obtain ⟨y, hy, cy, fy⟩ := hS.at_ (i := j) (by omega)
      have HS := Lib.hid hS
      have HX := Lib.hid (And.intro hx hy)
      have HZ := Lib.hid hs
      clear hE hS hx hy hs
      go_wp2
      go_region
      all_goals go_wp2
      go_roundw
      case rel =>
        have hs := HZ.out
        exact ⟨i + 1, j - 1, swp dk i j, rfl, by congr 1; omega, by omega, by omega, by rw [swp_size]; exact hs, (HS.out.swapped (by omega) (by omega) HX.out.1 HX.out.2).drew, (revLoop_go dk hij).trans HE.out⟩
      case measure => simp [intOf]; omega
    · go_wp2
      go_end0
      exact ⟨rfl, by rw [← HE.out, revLoop_stop _ hij]; exact hS⟩

/-! ### insertionSort -/
theorem insInner_go {a j : Nat} {d : Array Int} (hj : a < j) (hl : ltI d[j]! d[j - 1]! = true) : Sort.insInner ltI a (j - 1) (swp d j (j - 1)) = Sort.insInner ltI a j d := by
  obtain ⟨k, rfl⟩ : ∃ k, j = k + 1 := ⟨j - 1, by omega⟩
  conv => rhs; rw [Sort.insInner]
  simp only [Nat.add_sub_cancel] at hl ⊢
  simp [hj, hl]
theorem insInner_stop {a j : Nat} {d : Array Int} (h : j ≤ a ∨ ltI d[j]! d[j - 1]! = false) : Sort.insInner ltI a j d = d := by
  cases j with
  | zero => rw [Sort.insInner]
  | succ k =>
    rw [Sort.insInner]
    simp only [Nat.add_sub_cancel] at h
    rcases h with h | h
    · simp [show ¬ k + 1 > a by omega]
    · simp [h]
theorem insOuter_go {a b i : Nat} {d : Array Int} (h : i < b) : Sort.insOuter ltI a b (i + 1) (Sort.insInner ltI a i d) = Sort.insOuter ltI a b i d := by
  conv => rhs; rw [Sort.insOuter, if_pos h]
theorem insOuter_stop {a b i : Nat} {d : Array Int} (h : ¬ i < b) : Sort.insOuter ltI a b i d = d := by rw [Sort.insOuter, if_neg h]

set_option maxHeartbeats 1600000 in
theorem ins_any {w : World} {g : Nat} {d : Array Int} {R : List Value} (hR : RowB w g d R) {n cap : Nat} (hn : n = d.size) (hsz : d.size ≤ 4611686018427387904) {a b : Nat} (hab : a ≤ b) (hb : b ≤ d.size) :
    Calls Try.prog 32 #[.slice (some ⟨g, 0, none⟩) n cap, .int .i64 a, .int .i64 b] w fun e w' => e = .returned (.tuple #[]) ∧ SB w g R (Sort.insertionSort ltI d a b) w' := by
  subst hn
  have HR := Lib.hid (SB.start hR)
  obtain ⟨N, hN⟩ : ∃ N, N = d.size := ⟨_, rfl⟩
  rw [← hN] at hb hsz ⊢
  have HN := Lib.hid hN
  clear hR hN
  go_enter Try.func32, Try.ntmps32
  go_wp2
  go_loopw [6] (fun vi wr => ∃ (i : Nat) (dk : Array Int), vi = .int .i64 i ∧ a < i ∧ i ≤ b + 1 ∧ dk.size = N ∧ SB w g R dk wr ∧ Sort.insOuter ltI a b i dk = Sort.insOuter ltI a b (a + 1) d) (fun vi _ => b + 1 - (intOf vi).toNat)
  case atStart => exact ⟨a + 1, d, by congr 1, by omega, by omega, HN.out.symm, HR.out, rfl⟩
  case round =>
    obtain ⟨i, dk, rfl, hai, hib, hs, hS, hE⟩ := hrel
    have HE := Lib.hid hE
    have HS := Lib.hid hS
    clear hE hS
    by_cases hi : i < b
    · go_wp2
      go_loopw [7] (fun vj wr2 => ∃ (j : Nat) (dj : Array Int), vj = .int .i64 j ∧ a ≤ j ∧ j ≤ i ∧ dj.size = N ∧ SB w g R dj wr2 ∧ Sort.insInner ltI a j dj = Sort.insInner ltI a i dk) (fun vj _ => (intOf vj).toNat)
      case atStart => exact ⟨i, dk, rfl, by omega, Nat.le_refl _, hs, HS.out, rfl⟩
      case round =>
        obtain ⟨j, dj, rfl, haj, hji, hsj, hSj, hI⟩ := hrel
        have out : (j ≤ a ∨ ltI dj[j]! dj[j - 1]! = false) → ∀ q, ∃ (i' : Nat) (dk' : Array Int), Value.int .i64 ((i : Int) + 1) = .int .i64 i' ∧ a < i' ∧ i' ≤ b + 1 ∧ dk'.size = N ∧ SB w g R dk' (wr.drewN q) ∧ Sort.insOuter ltI a b i' dk' = Sort.insOuter ltI a b (a + 1) d := fun h q =>
          ⟨i + 1, dj, rfl, by omega, by omega, hsj, hSj.drewN q, by rw [← HE.out, ← insOuter_go hi, ← hI, insInner_stop h]⟩
        have OUT := Lib.hid out
        clear out
        have HI := Lib.hid hI
        by_cases hja : a < j
        · obtain ⟨x, hx, cx, fx⟩ := hSj.at_ (i := j) (by omega)
          obtain ⟨y, hy, cy, fy⟩ := hSj.at_ (i := j - 1) (by omega)
          have HSj := Lib.hid hSj
          have HX := Lib.hid (And.intro hx hy)
          have HZ := Lib.hid hsj
          clear hI hSj hx hy hsj
          by_cases hl : ltI x y = true
          · go_wp2
            go_quiet ((go_at_call 38; exact Calls.quiet_of_same (less_yes hl _)))
            go_wp2
            go_region
            all_goals go_wp2
            go_roundw
            case rel =>
              have hsj := HZ.out
              exact ⟨j - 1, swp dj j (j - 1), by congr 1; omega, by omega, by omega, by rw [swp_size]; exact hsj, (HSj.out.drewN _).swapped (by omega) (by omega) HX.out.1 HX.out.2, (insInner_go hja (by rw [← HX.out.1, ← HX.out.2]; exact hl)).trans HI.out⟩
            case measure => simp [intOf]; omega
          · have hl : ltI x y = false := by simpa using hl
            go_wp2
            go_quiet ((go_at_call 38; exact Calls.quiet_of_same (less_no hl _)))
            go_wp2
            go_roundw
            case rel => exact OUT.out (.inr (by rw [← HX.out.1, ← HX.out.2]; exact hl)) _
            case measure => simp [intOf]; omega
        · go_wp2
          go_quiet (fail)
          go_wp2
          go_roundw
          case rel => exact OUT.out (.inl (by omega)) _
          case measure => simp [intOf]; omega
    · go_wp2
      go_end0
      exact ⟨rfl, by unfold Sort.insertionSort; rw [← HE.out, insOuter_stop hi]; exact HS.out⟩
end Go.Proofs.Ytagdolkfefbohaa
