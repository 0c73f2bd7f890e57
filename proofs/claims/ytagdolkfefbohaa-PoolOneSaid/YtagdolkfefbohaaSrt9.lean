/- slices.Sort, at whole numbers. -/
import Derived.Test.YtagdolkfefbohaaSrt8
namespace Go.Proofs.Ytagdolkfefbohaa
open Go.RowKit Stv
open Go.Sort (PermIn SortedIn Below)

/-- the numbers, ascending -/
def sorted (l : List Int) : List Int := l.mergeSort (fun x y => !ltI y x)

theorem sort_any {w : World} {g : Nat} {d : Array Int} {R : List Value} (hR : RowB w g d R) {n cap : Nat} (hn : n = d.size) (hsz : d.size ≤ 65535) :
    Calls Try.prog 27 #[.slice (some ⟨g, 0, none⟩) n cap] w fun e w' => e = .returned (.tuple #[]) ∧ ∃ d' : Array Int, d'.toList = sorted d.toList ∧ SB w g R d' w' := by
  have hn65 : n ≤ 65535 := by omega
  have hb := (bitLen_bounds n (by omega)).1
  have c1 := fun w => len_any (n : Int) w (by omega) (by omega)
  rw [Int.toNat_natCast] at c1
  have c2 := pdq_all n cap g R (n + 1) w d 0 n (Lib.bitLen n) hR hn hsz (Nat.zero_le _) (by omega) (by omega) (.inl rfl) (by omega)
  obtain ⟨k, hk⟩ : ∃ k, k = Lib.bitLen n := ⟨_, rfl⟩
  rw [← hk] at c1 c2
  have C1 := Lib.hid c1
  have C2 := Lib.hid c2
  have HN := Lib.hid (And.intro hn hsz)
  clear hk c1 c2 hb hR hn
  go_enter Try.func27, Try.ntmps27
  go_wp2_with fail
  refine (C1.out _).mono ?_
  rintro e w' ⟨rfl, rfl⟩
  go_wp2_with fail
  refine (C2.out).mono ?_
  rintro e w2 ⟨rfl, d', hp, hs, h⟩
  have H := Lib.hid (And.intro hp (And.intro hs h))
  clear hp hs h
  go_wp2
  go_end0
  have hn := HN.out.1
  subst hn
  exact ⟨rfl, d', Sort.sorted_unique_holds swoI (fun x y h1 h2 => by simp [ltI] at h1 h2; omega) d d' H.out.1 H.out.2.1, H.out.2.2⟩

/-! ### a slice without a row -/
theorem ins_nil (o : Option Addr) (cap : Nat) (w : World) : Calls Try.prog 32 #[.slice o 0 cap, .int .i64 0, .int .i64 0] w fun e w' => e = .returned (.tuple #[]) ∧ w' = w := by
  go_enter Try.func32, Try.ntmps32
  go_wp2
  go_loopw [6] (fun vi wr => vi = .int .i64 1 ∧ wr = w) (fun _ _ => 0)
  case atStart => exact ⟨rfl, rfl⟩
  case round =>
    obtain ⟨rfl, rfl⟩ := hrel
    go_wp2
    go_end0
    exact ⟨rfl, rfl⟩

set_option maxRecDepth 100000 in
set_option maxHeartbeats 1600000 in
theorem pdq_nil (o : Option Addr) (cap : Nat) (l : Int) (w : World) : Calls Try.prog 30 #[.slice o 0 cap, .int .i64 0, .int .i64 0, .int .i64 l] w fun e w' => e = .returned (.tuple #[]) ∧ w' = w := by
  go_enter Try.func30, Try.ntmps30
  go_wp2
  go_loopw [1, 2] (fun va vb wr => va = .int .i64 0 ∧ vb = .int .i64 0 ∧ wr = w) (fun _ _ _ => 0)
  case atStart => exact ⟨rfl, rfl, rfl⟩
  case round =>
    obtain ⟨rfl, rfl, rfl⟩ := hrel
    go_wp2_with (go_at_call 32; refine (ins_nil _ _ _).mono ?_; rintro e w' ⟨rfl, rfl⟩)
    (try simp only [Exit.inBlock, Exit.then]); refine bodyPost_ret (results_none rfl _ _ _) rfl ?_
    exact ⟨rfl, rfl⟩

theorem sort_nil (o : Option Addr) (cap : Nat) (w : World) : Calls Try.prog 27 #[.slice o 0 cap] w fun e w' => e = .returned (.tuple #[]) ∧ w' = w := by
  have c1 := fun w => len_any 0 w (by omega) (by omega)
  obtain ⟨k, hk⟩ : ∃ k, k = Lib.bitLen (0 : Int).toNat := ⟨_, rfl⟩
  rw [← hk] at c1
  have C1 := Lib.hid c1
  clear hk c1
  go_enter Try.func27, Try.ntmps27
  go_wp2_with fail
  refine (C1.out _).mono ?_
  rintro e w' ⟨rfl, rfl⟩
  go_wp2_with (go_at_call 30; refine (pdq_nil _ _ _ _).mono ?_; rintro e w' ⟨rfl, rfl⟩)
  go_end0
  exact ⟨rfl, rfl⟩
end Go.Proofs.Ytagdolkfefbohaa
