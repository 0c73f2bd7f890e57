/- A script that came in; 'heavy'. -/
import Derived.Test.YtagdolkfefbohaaWorks
namespace Go.Proofs.Ytagdolkfefbohaa
open Go.RowKit Stv

/-- a script in memory -/
def ScriptAt (w : World) (v : Value) (l : List StepV) : Prop :=
  (v = .slice none 0 0 ∧ l = []) ∨ (∃ a cap, v = .slice (some a) 0 cap ∧ l = []) ∨
  ∃ b o cap, v = .slice (some ⟨b, o, none⟩) l.length cap ∧ b < w.heap.size ∧ ∀ i (h : i < l.length), StepOk w l[i] ∧
    w.cell? ⟨b, o + i * 6, none⟩ = some (.int .i64 l[i].doo) ∧ w.cell? ⟨b, o + i * 6 + 1, none⟩ = some (.string l[i].who) ∧ w.cell? ⟨b, o + i * 6 + 2, none⟩ = some (.string l[i].to) ∧
    w.cell? ⟨b, o + i * 6 + 3, none⟩ = some (.string l[i].s) ∧ w.cell? ⟨b, o + i * 6 + 4, none⟩ = some (.int .u64 l[i].n) ∧ w.cell? ⟨b, o + i * 6 + 5, none⟩ = some l[i].l

set_option maxHeartbeats 400000 in
theorem heavy_none (w : World) (a : Option Addr) (cap : Nat) : Calls Try.prog 6 #[.slice a 0 cap] w fun e w' => e = .returned (.bool false) ∧ w = w' := by
  go_enter Try.func6, Try.ntmps6
  go_wp2
  go_loop [3, 4] (fun n i => n = .int .i64 0 ∧ i = .int .i64 0) (fun _ _ => 0)
  case atStart => exact ⟨rfl, rfl⟩
  case round =>
    obtain ⟨rfl, rfl⟩ := hrel
    go_wp2
    go_ret
    exact ⟨rfl, rfl⟩

/-- what 'heavy' leaves -/
def HeavyPost (w : World) (n : Nat) (e : Ending) (w' : World) : Prop := ∃ h, e = .returned (.bool h) ∧ (h = false → n ≤ 200) ∧ Grew w w'

set_option maxHeartbeats 1000000 in
set_option maxRecDepth 100000 in
theorem heavy_some {w : World} {b o cap : Nat} {l : List StepV} (hl : l.length ≤ 9223372036854775807)
    (hc : ∀ i (h : i < l.length), ∃ lv ln lc, l[i].l = .slice lv ln lc ∧ w.cell? ⟨b, o + i * 6 + 1, none⟩ = some (.string l[i].who) ∧ w.cell? ⟨b, o + i * 6 + 2, none⟩ = some (.string l[i].to) ∧
      w.cell? ⟨b, o + i * 6 + 3, none⟩ = some (.string l[i].s) ∧ w.cell? ⟨b, o + i * 6 + 5, none⟩ = some l[i].l) :
    Calls Try.prog 6 #[.slice (some ⟨b, o, none⟩) l.length cap] w (HeavyPost w l.length) := by
  have HC := Lib.hid hc
  clear hc
  go_enter Try.func6, Try.ntmps6
  go_wp2
  go_loopw [3, 4] (fun n i wr => ∃ k : Nat, k ≤ l.length ∧ k ≤ 500 ∧ i = .int .i64 k ∧ (∃ x : Int, n = .int .i64 x) ∧ Grew w wr) (fun _ i _ => l.length - (intOf i).toNat)
  case atStart => exact ⟨0, by omega, by omega, rfl, ⟨_, rfl⟩, Off.refl _ _⟩
  case round =>
    obtain ⟨k, hk, hk5, rfl, ⟨x, rfl⟩, hg⟩ := hrel
    have HG := Lib.hid hg
    clear hg
    by_cases hlt : k < l.length
    · by_cases h5 : k < 500
      · obtain ⟨lv, ln, lc, e0, e1, e2, e3, e5⟩ := HC.out k hlt
        rw [e0] at e5
        obtain ⟨who, hwho⟩ : ∃ y, y = l[k].who := ⟨_, rfl⟩
        obtain ⟨to, hto⟩ : ∃ y, y = l[k].to := ⟨_, rfl⟩
        obtain ⟨s, hs⟩ : ∃ y, y = l[k].s := ⟨_, rfl⟩
        rw [← hwho] at e1; rw [← hto] at e2; rw [← hs] at e3
        have hb : ∀ {p : Addr} {u : Value}, w.cell? p = some u → wr.cell? p = some u := fun {p u} h => by rw [HG.out.cell (World.block_lt_of_cell? _ _ h) fun h => h]; exact h
        have f1 := hb e1
        have f2 := hb e2
        have f3 := hb e3
        have f5 := hb e5
        clear hb e0 e1 e2 e3 e5 hwho hto hs
        go_wp2_with fail
        go_quiet (fail)
        go_wp2_with fail
        · exact ⟨⟨k + 1, by omega, by omega, by go_num, ⟨_, rfl⟩, HG.out.drewN nq⟩, by simp [intOf]; omega⟩
        · go_ret
          exact ⟨true, rfl, by simp, HG.out.drewN nq⟩
        · exact ⟨⟨k + 1, by omega, by omega, by go_num, ⟨_, rfl⟩, HG.out.drewN nq⟩, by simp [intOf]; omega⟩
      · have h2 : 200 < l.length := by omega
        clear HC
        go_wp2_with fail
        go_ret
        exact ⟨true, rfl, by simp, HG.out⟩
    · obtain rfl : k = l.length := by omega
      clear HC
      by_cases h2 : 200 < l.length
      · go_wp2_with fail
        all_goals go_ret
        all_goals exact ⟨true, rfl, by simp, HG.out⟩
      · by_cases h3 : 8192 < x
        · go_wp2_with fail
          all_goals go_ret
          all_goals exact ⟨_, rfl, fun _ => by omega, HG.out⟩
        · go_wp2_with fail
          all_goals go_ret
          all_goals exact ⟨_, rfl, fun _ => by omega, HG.out⟩
end Go.Proofs.Ytagdolkfefbohaa
