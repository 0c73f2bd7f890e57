/- breaking patterns, at whole numbers: how is left open. -/
import Derived.Test.YtagdolkfefbohaaSrt3
import Derived.BigQuiet
import Derived.Lib.BitFns
import Derived.Laws.Closers25b
import Derived.Laws.Bits64b
import Derived.Lib.Small
import Derived.Lib.Strings
import Derived.Lib.Walk
namespace Go.Proofs.Ytagdolkfefbohaa
open Go.RowKit Stv
open Go.Sort (swp)

theorem tab_at (n : Nat) (h : n < Lib.len8tab.size) : (Lib.len8tab[n]).toNat = Lib.bitLen n := by
  have h2 : n ≤ 255 := by rw [Lib.len8tab_size] at h; omega
  have e := Lib.len8_of n (by omega) (by omega)
  unfold Lib.len8 at e
  rw [Int.toNat_natCast, getElem?_pos Lib.len8tab n h] at e
  exact Int.ofNat.inj e

theorem wrap_small (x : Int) (h0 : 0 ≤ x) (h1 : x ≤ 1000000) : wrap64 x = x := by
  unfold wrap64; omega

set_option maxHeartbeats 4000000 in
set_option maxRecDepth 100000 in
theorem len64_any (x : Int) (w : World) (h0 : 0 ≤ x) (h1 : x ≤ 65535) : Calls Try.prog 42 #[.int .u64 x] w fun e w' => e = .returned (.int .i64 (Lib.bitLen x.toNat)) ∧ w' = w := by
  have e256 := Lib.len8tab_size
  go_enter Try.func42, Try.ntmps42
  go_wp2
  · go_ret
    refine ⟨congrArg Ending.returned (congrArg (Value.int IntKind.i64) ?_), rfl⟩
    have l := Lib.bitLen_le8' (x / 256) (by omega) (by omega)
    have s := Lib.bitLen_shift8 x.toNat (by omega) (by omega)
    have e : (x / 256).toNat = x.toNat / 256 := by omega
    show wrap64 (8 + wrap64 _) = _
    rw [tab_at, wrap_small ((Lib.bitLen (x / 256).toNat : Nat) : Int) (by omega) (by omega), wrap_small _ (by omega) (by omega), s, e]
    omega
  · go_ret
    refine ⟨congrArg Ending.returned (congrArg (Value.int IntKind.i64) ?_), rfl⟩
    have l := Lib.bitLen_le8' x (by omega) (by omega)
    show wrap64 (wrap64 _) = _
    rw [tab_at, wrap_small ((Lib.bitLen x.toNat : Nat) : Int) (by omega) (by omega), wrap_small _ (by omega) (by omega)]

theorem len_any (x : Int) (w : World) (h0 : 0 ≤ x) (h1 : x ≤ 65535) : Calls Try.prog 31 #[.int .u64 x] w fun e w' => e = .returned (.int .i64 (Lib.bitLen x.toNat)) ∧ w' = w := by
  go_enter Try.func31, Try.ntmps31
  go_wp2_with (go_at_call 42; refine (len64_any x _ h0 h1).mono ?_; rintro e w' ⟨rfl, rfl⟩)
  go_ret
  exact ⟨rfl, rfl⟩

theorem bitLen_bounds (n : Nat) (h : n ≤ 65535) : Lib.bitLen n ≤ 16 ∧ (0 < n → 2 ^ Lib.bitLen n ≤ 2 * n) := by
  constructor
  · by_cases h8 : 256 ≤ n
    · have s := Lib.bitLen_shift8 n h8 (by omega)
      have l := Lib.bitLen_le8 ⟨n / 256, by omega⟩
      simp only at l
      omega
    · have l := Lib.bitLen_le8 ⟨n, by omega⟩
      simp only at l
      omega
  · intro h0
    have key : ∀ m : Fin 256, 0 < m.val → 2 ^ Lib.bitLen m.val ≤ 2 * m.val := by decide +kernel
    by_cases h8 : 256 ≤ n
    · have s := Lib.bitLen_shift8 n h8 (by omega)
      have k := key ⟨n / 256, by omega⟩ (by simp only; omega)
      simp only at k
      rw [s, Nat.pow_add]
      have : n / 256 * 256 ≤ n := Nat.div_mul_le_self _ _
      omega
    · exact key ⟨n, by omega⟩ h0

theorem pow_any (n : Nat) (w : World) (h1 : n ≤ 65535) : Calls Try.prog 44 #[.int .i64 n] w fun e w' => e = .returned (.int .u64 ((2 ^ Lib.bitLen n : Nat) : Int)) ∧ w' = w := by
  have hb := (bitLen_bounds n h1).1
  obtain ⟨k, hk⟩ : ∃ k, k = Lib.bitLen n := ⟨_, rfl⟩
  have c := len_any (n : Int)
  rw [Int.toNat_natCast, ← hk] at c
  rw [← hk] at hb ⊢
  have C := Lib.hid c
  clear hk c
  go_enter Try.func44, Try.ntmps44
  go_wp2_with (go_at_call 31; refine (C.out _ (by omega) (by omega)).mono ?_; rintro e w' ⟨rfl, rfl⟩)
  go_ret
  refine ⟨congrArg Ending.returned (congrArg (Value.int IntKind.u64) ?_), rfl⟩
  have h2 : 2 ^ k ≤ 2 ^ 16 := Nat.pow_le_pow_right (by omega) hb
  have h3 : (2 : Int) ^ k = ((2 ^ k : Nat) : Int) := by simp
  rw [h3]
  generalize 2 ^ k = z at h2 ⊢
  rw [IntKind.wrap_u64]
  omega

/-! ### xorshift -/
/-- block s holds the unsigned number z alone -/
def CellU (w : World) (s : Nat) (z : Int) : Prop := ∃ T, w.heap[s]? = some (.cells #[.int .u64 z] T (0, 0))

namespace CellU
variable {w : World} {s : Nat} {z : Int}
theorem cell (h : CellU w s z) : w.cell? ⟨s, 0, none⟩ = some (.int .u64 z) := by
  obtain ⟨T, h⟩ := h
  simp [World.cell?, h]
theorem frozen (h : CellU w s z) : w.frozen? ⟨s, 0, none⟩ = false := by
  obtain ⟨T, h⟩ := h
  simp [World.frozen?, h]
theorem lt (h : CellU w s z) : s < w.heap.size := by
  obtain ⟨T, h⟩ := h
  exact (Array.getElem?_eq_some_iff.1 h).1
theorem set (h : CellU w s z) (z' : Int) : CellU (w.setCell ⟨s, 0, none⟩ (.int .u64 z')) s z' := by
  obtain ⟨T, h⟩ := h
  refine ⟨T, ?_⟩
  simp only [World.setCell, Array.getElem?_modify, if_true, h, Option.map_some]
  simp
theorem off {S : Nat → Prop} {w' : World} (h : CellU w s z) (ho : Off S w w') (hS : ¬ S s) : CellU w' s z := by
  have := h.lt
  obtain ⟨T, h⟩ := h
  exact ⟨T, (ho.block s this hS).trans h⟩
theorem drewN (h : CellU w s z) (n : Nat) : CellU (w.drewN n) s z := h
theorem drew (h : CellU w s z) : CellU w.drew s z := h
end CellU

theorem xor_any {w : World} {s : Nat} {z : Int} (hz : CellU w s z) :
    Calls Try.prog 45 #[.pointer (some ⟨s, 0, none⟩)] w fun e w' => ∃ x : Int, e = .returned (.int .u64 x) ∧ 0 ≤ x ∧ x < 18446744073709551616 ∧ CellU w' s x ∧ Off (fun k => k = s) w w' := by
  have cz := hz.cell
  have fz := hz.frozen
  have HZ := Lib.hid hz
  clear hz
  go_enter Try.func45, Try.ntmps45
  go_wp2
  go_region
  generalize bits BinOp.xor IntKind.u64 z _ = z1
  have H1 : CellU (w.setCell ⟨s, 0, none⟩ (Value.int .u64 z1)).drew s z1 := (HZ.out.set z1).drew
  have O1 : Off (fun k => k = s) w (w.setCell ⟨s, 0, none⟩ (Value.int .u64 z1)).drew := (Off.setCell (p := ⟨s, 0, none⟩) (Off.refl (fun k => k = s) _) (.inl rfl) _).drewN 1
  generalize (w.setCell ⟨s, 0, none⟩ (Value.int .u64 z1)).drew = w1 at H1 O1 ⊢
  have c1 := H1.cell
  have f1 := H1.frozen
  have H1 := Lib.hid H1
  have O1 := Lib.hid O1
  clear cz fz HZ
  go_wp2_with fail
  go_region
  generalize bits BinOp.xor IntKind.u64 z1 _ = z2
  have H2 : CellU (w1.setCell ⟨s, 0, none⟩ (Value.int .u64 z2)).drew s z2 := (H1.out.set z2).drew
  have O2 : Off (fun k => k = s) w1 (w1.setCell ⟨s, 0, none⟩ (Value.int .u64 z2)).drew := (Off.setCell (p := ⟨s, 0, none⟩) (Off.refl (fun k => k = s) _) (.inl rfl) _).drewN 1
  generalize (w1.setCell ⟨s, 0, none⟩ (Value.int .u64 z2)).drew = w2 at H2 O2 ⊢
  have c2 := H2.cell
  have f2 := H2.frozen
  have H2 := Lib.hid H2
  have O2 := Lib.hid O2
  clear c1 f1 H1
  go_wp2_with fail
  go_region
  obtain ⟨z3, hz3⟩ : ∃ z3, z3 = bits BinOp.xor IntKind.u64 z2 (IntKind.u64.wrap (z2 * 131072)) := ⟨_, rfl⟩
  rw [← hz3]
  have hb : 0 ≤ z3 ∧ z3 < 18446744073709551616 := by
    rw [hz3]
    have := bits_within BinOp.xor IntKind.u64 z2 (IntKind.u64.wrap (z2 * 131072))
    have h1 : IntKind.u64.min = 0 := rfl
    have h2 : IntKind.u64.max = 18446744073709551615 := rfl
    omega
  have HB := Lib.hid hb
  clear hb hz3
  have H2 : CellU (w2.setCell ⟨s, 0, none⟩ (Value.int .u64 z3)).drew s z3 := (H2.out.set z3).drew
  have O3 : Off (fun k => k = s) w2 (w2.setCell ⟨s, 0, none⟩ (Value.int .u64 z3)).drew := (Off.setCell (p := ⟨s, 0, none⟩) (Off.refl (fun k => k = s) _) (.inl rfl) _).drewN 1
  generalize (w2.setCell ⟨s, 0, none⟩ (Value.int .u64 z3)).drew = w3 at H2 O3 ⊢
  have c3 := H2.cell
  have f3 := H2.frozen
  have H2 := Lib.hid H2
  have O3 := Lib.hid O3
  clear c2 f2
  go_wp2
  go_ret
  exact ⟨z3, rfl, HB.out.1, HB.out.2, H2.out, (O1.out.trans O2.out).trans O3.out⟩

/-! ### breakPatterns -/
theorem and_small (x : Int) (h0 : 0 ≤ x) (h1 : x < 18446744073709551616) (M : Nat) (hM : 1 ≤ M) (hM2 : M ≤ 1000000) : ∃ y : Nat, bits BinOp.and IntKind.u64 x ((M : Int) - 1) = (y : Int) ∧ y < M := by
  obtain ⟨n, rfl⟩ : ∃ n : Nat, x = n := ⟨x.toNat, by omega⟩
  obtain ⟨m, rfl⟩ : ∃ m, M = m + 1 := ⟨M - 1, by omega⟩
  rw [show (((m + 1 : Nat) : Int) - 1) = (m : Int) by omega]
  refine ⟨n &&& m, bits_and_u64_nat n m (by omega) (by omega), ?_⟩
  have := Nat.and_le_right (n := n) (m := m)
  omega

set_option maxHeartbeats 3200000 in
theorem brk_any {w : World} {g : Nat} {d : Array Int} {R : List Value} (hR : RowB w g d R) {n cap : Nat} (hn : n = d.size) (hsz : d.size ≤ 65535) {a b : Nat} (hab : a + 12 < b) (hb : b ≤ d.size) :
    Calls Try.prog 34 #[.slice (some ⟨g, 0, none⟩) n cap, .int .i64 a, .int .i64 b] w fun e w' => e = .returned (.tuple #[]) ∧ ∃ d', Sort.PermIn a b d d' ∧ SB w g R d' w' := by
  have hg := hR.lt
  obtain ⟨N, hN⟩ : ∃ N, N = d.size := ⟨_, rfl⟩
  have HR := Lib.hid (SB.start hR)
  have HN := Lib.hid hN
  subst hn
  rw [← hN] at hb hsz ⊢
  obtain ⟨s, hs⟩ : ∃ s, w.heap.size = s := ⟨_, rfl⟩
  have HSx := Lib.hid (show g ≠ s by omega)
  have HSn := Lib.hid hs
  clear hR hN
  go_enter Try.func34, Try.ntmps34
  go_wp2_with fail
  obtain ⟨L, hL, hL2⟩ : ∃ L : Nat, (b : Int) - a = L ∧ b = a + L := ⟨b - a, by omega, by omega⟩
  rw [hL]
  have HL := Lib.hid hL
  have HL2 := Lib.hid hL2
  have hL13 : 12 < L := by omega
  have hLb : a + L ≤ N := by omega
  have hLb' : a + L ≤ b := by omega
  have hbL : L ≤ b - a := by omega
  clear hL hL2
  have hW := HR.out.drewN 0
  have HS0 : Hid (SB w g R d (w.alloc (.cells #[Value.int .u64 L] 83))) := Lib.hid ⟨HR.out.row.alloc _, HR.out.but.alloc _⟩
  have HU0 : Hid (CellU (w.alloc (.cells #[Value.int .u64 L] 83)) s L) := Lib.hid ⟨83, by subst hs; show (w.heap.push _)[w.heap.size]? = _; simp⟩
  clear hW
  generalize w.alloc (.cells #[Value.int .u64 L] 83) = w0 at HS0 HU0 ⊢
  have hbl := bitLen_bounds L (by omega)
  have hpos : 1 ≤ 2 ^ Lib.bitLen L := Nat.one_le_two_pow
  have hM2 : 2 ^ Lib.bitLen L ≤ 2 * L := hbl.2 (by omega)
  refine (pow_any L w0 (by omega)).mono ?_
  rintro e w' ⟨rfl, rfl⟩
  generalize 2 ^ Lib.bitLen L = M at hpos hM2 ⊢
  clear hbl hs
  go_wp2_with fail
  obtain ⟨q, hq⟩ : ∃ q : Nat, (L : Int) / 4 = q := ⟨L / 4, by omega⟩
  rw [hq]
  have hq3 : 3 ≤ q ∧ q * 4 ≤ L := by omega
  obtain ⟨i0, hi0⟩ : ∃ i0 : Nat, (a : Int) + (q : Int) * 2 - 1 = i0 := ⟨a + q * 2 - 1, by omega⟩
  rw [hi0]
  have hi1 : a + q * 2 = i0 + 1 := by omega
  have HQ := Lib.hid hq
  clear hq hi0
  go_loopw [9] (fun vi wr => ∃ (idx : Nat) (dk : Array Int) (z : Int), vi = .int .i64 idx ∧ i0 ≤ idx ∧ idx ≤ i0 + 3 ∧ dk.size = N ∧ Sort.PermIn a b d dk ∧ SB w g R dk wr ∧ CellU wr s z) (fun vi _ => i0 + 3 - (intOf vi).toNat)
  case atStart => exact ⟨i0, d, _, rfl, by omega, by omega, HN.out.symm, Sort.permIn_refl _ _ _, HS0.out, HU0.out⟩
  case round =>
    obtain ⟨idx, dk, z, rfl, h1, h2, hs, hP, hS, hU⟩ := hrel
    have HP := Lib.hid hP
    have HS := Lib.hid hS
    have HU := Lib.hid hU
    have HZ := Lib.hid hs
    clear hP hS hU hs
    by_cases hend : idx ≤ i0 + 2
    · have hq := HQ.out
      have hcond : (idx : Int) ≤ (a : Int) + (L : Int) / 4 * 2 + 1 := by omega
      clear hq
      go_wp2_with fail
      refine (xor_any HU.out).mono ?_
      rintro e w1 ⟨x, rfl, hx0, hx1, hu1, ho1⟩
      obtain ⟨y, hy, hyM⟩ := and_small x hx0 hx1 M (by omega) (by omega)
      have HS1 : Hid (SB w g R dk w1) := Lib.hid ⟨HS.out.row.off ho1 HSx.out, HS.out.but.next ho1 fun i hi => .inr (by rw [hi, HSn.out]; exact Nat.le_refl _)⟩
      have HU1 := Lib.hid hu1
      clear hu1 ho1 hx0 hx1
      go_wp2_with fail
      · obtain ⟨o, ho, ho2⟩ : ∃ o : Nat, (y : Int) - L = o ∧ y = L + o := ⟨y - L, by omega, by omega⟩
        rw [ho]
        have HO := Lib.hid ho
        have hoL : o < L := by omega
        clear ho
        obtain ⟨u, hu, cu, fu⟩ := HS1.out.at_ (i := idx) (by rw [HZ.out]; omega)
        obtain ⟨v, hv, cv, fv⟩ := HS1.out.at_ (i := a + o) (by rw [HZ.out]; omega)
        obtain ⟨v', cv'⟩ := cell?_setCell_some (w := w1) (p := ⟨g, idx, none⟩) (x := .int .u64 v) (q := ⟨g, a + o, none⟩) (v := .int .u64 v) cv
        have HX := Lib.hid (And.intro hu hv)
        clear hu hv
        go_region
        go_wp2_with fail
        go_roundw
        case rel =>
          have h2 := (HS1.out.swapped (i := idx) (j := a + o) (by rw [HZ.out]; omega) (by rw [HZ.out]; omega) HX.out.1 HX.out.2).drew
          refine ⟨idx + 1, swp dk idx (a + o), x, rfl, by omega, by omega, by rw [swp_size]; exact HZ.out, Sort.permIn_trans _ _ _ _ _ HP.out (Sort.swp_permIn _ _ _ _ _ (by omega) (by omega) (by omega) (by omega) (by rw [HZ.out]; exact hb)), h2, ?_⟩
          exact HU1.out.off (S := fun k => k = g) ((But.cell2 _ _).drewN 1) (by have := HSx.out; omega)
        case measure => simp [intOf]; omega
      · skip
        obtain ⟨u, hu, cu, fu⟩ := HS1.out.at_ (i := idx) (by rw [HZ.out]; omega)
        obtain ⟨v, hv, cv, fv⟩ := HS1.out.at_ (i := a + y) (by rw [HZ.out]; omega)
        obtain ⟨v', cv'⟩ := cell?_setCell_some (w := w1) (p := ⟨g, idx, none⟩) (x := .int .u64 v) (q := ⟨g, a + y, none⟩) (v := .int .u64 v) cv
        have HX := Lib.hid (And.intro hu hv)
        clear hu hv
        go_region
        go_wp2_with fail
        go_roundw
        case rel =>
          have h2 := (HS1.out.swapped (i := idx) (j := a + y) (by rw [HZ.out]; omega) (by rw [HZ.out]; omega) HX.out.1 HX.out.2).drew
          refine ⟨idx + 1, swp dk idx (a + y), x, rfl, by omega, by omega, by rw [swp_size]; exact HZ.out, Sort.permIn_trans _ _ _ _ _ HP.out (Sort.swp_permIn _ _ _ _ _ (by omega) (by omega) (by omega) (by omega) (by rw [HZ.out]; exact hb)), h2, ?_⟩
          exact HU1.out.off (S := fun k => k = g) ((But.cell2 _ _).drewN 1) (by have := HSx.out; omega)
        case measure => simp [intOf]; omega
    · have hq := HQ.out
      have hcond : ¬ ((idx : Int) ≤ (a : Int) + (L : Int) / 4 * 2 + 1) := by omega
      clear hq
      go_wp2
      go_end0
      exact ⟨rfl, dk, HP.out, HS.out⟩
end Go.Proofs.Ytagdolkfefbohaa
