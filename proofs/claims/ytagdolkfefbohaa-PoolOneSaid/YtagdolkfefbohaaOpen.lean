/- A script that came in, opened. -/
import Derived.Test.YtagdolkfefbohaaScript
import Derived.Test.YtagdolkfefbohaaBase3
namespace Go.Proofs.Ytagdolkfefbohaa
open Go.ChangeShapes Go.WideShapes Go.ChangeAt Go.RowKit Stv
open Go.ChangeMaps (open_string shut_string)

instance : Inhabited StepV := ⟨⟨0, ⟨#[]⟩, ⟨#[]⟩, ⟨#[]⟩, 0, .slice none 0 0, []⟩⟩

theorem addr_plain {w : World} {a : Addr} {i : Nat} {u : Value} (h : w.cell? (a.add i) = some u) (h0 : ∃ u0, w.cell? (a.add 0) = some u0) : ∃ b o, a = ⟨b, o, none⟩ := by
  obtain ⟨u0, h0⟩ := h0
  obtain ⟨b, o, sp⟩ := a
  have : sp = none := by simpa [Addr.add] using World.cell?_spot h0
  exact ⟨b, o, by rw [this]⟩

theorem add_plain (b o i : Nat) : (⟨b, o, none⟩ : Addr).add i = ⟨b, o + i, none⟩ := by
  unfold Addr.add; split <;> simp_all

theorem script_of {H : Type} {enc : TypeId × Value → H} {w : World} {spare : Nat → Bool} {held : Bool} {fuel : Nat} {v : Value} {x : DataW H × List MemPlace}
    (h : DataW.trod enc Try.prog w 0 spare held fuel 22 [v] = some x) (hr : InReach Try.prog 22 x.1) : ∃ l, ScriptAt w v l ∧ l.length ≤ 9223372036854775807 := by
  rcases open_structs Try.underlying22 Try.underlying38 (by kernel_rfl) (by kernel_rfl) h hr with rfl | ⟨a, len, cap, rfl, hl, hm, hby, hat⟩
  · exact ⟨[], .inl ⟨rfl, rfl⟩, by simp⟩
  · by_cases hlen : len = 0
    · subst hlen
      exact ⟨[], .inr (.inl ⟨a, cap, rfl, rfl⟩), by simp⟩
    · have key : ∀ i, i < len → ∃ s : StepV, StepOk w s ∧ w.cell? (a.add (i * 6 + 0)) = some (.int .i64 s.doo) ∧ w.cell? (a.add (i * 6 + 1)) = some (.string s.who) ∧ w.cell? (a.add (i * 6 + 2)) = some (.string s.to) ∧
          w.cell? (a.add (i * 6 + 3)) = some (.string s.s) ∧ w.cell? (a.add (i * 6 + 4)) = some (.int .u64 s.n) ∧ w.cell? (a.add (i * 6 + 5)) = some s.l := by
        intro i hi
        obtain ⟨u0, c0, f0⟩ := hat i hi 0 _ rfl
        obtain ⟨u1, c1, f1⟩ := hat i hi 1 _ rfl
        obtain ⟨u2, c2, f2⟩ := hat i hi 2 _ rfl
        obtain ⟨u3, c3, f3⟩ := hat i hi 3 _ rfl
        obtain ⟨u4, c4, f4⟩ := hat i hi 4 _ rfl
        obtain ⟨u5, c5, f5⟩ := hat i hi 5 _ rfl
        obtain ⟨d, rfl, _⟩ := f0.int Try.underlying3
        obtain ⟨who, rfl, _⟩ := f1.str Try.underlying9
        obtain ⟨to, rfl, _⟩ := f2.str Try.underlying9
        obtain ⟨t, rfl, _⟩ := f3.str Try.underlying9
        obtain ⟨n, rfl, hn⟩ := f4.int Try.underlying30
        rcases f5.ints Try.underlying36 Try.underlying30 (by kernel_rfl) with rfl | ⟨b, cap', zs, rfl, _, hzb, hz, hzw⟩
        · exact ⟨⟨d, who, to, t, n, .slice none 0 0, []⟩, ⟨hn, by simp, .inl ⟨rfl, rfl⟩, by simp⟩, c0, c1, c2, c3, c4, c5⟩
        · refine ⟨⟨d, who, to, t, n, .slice (some b) zs.length cap', zs⟩, ⟨hn, hzw, .inr ⟨b, cap', rfl, fun j u hu => ?_⟩, ?_⟩, c0, c1, c2, c3, c4, c5⟩
          · rw [List.getElem?_map] at hu
            obtain ⟨z, hz1, rfl⟩ := Option.map_eq_some_iff.1 hu
            obtain ⟨hj, hz2⟩ := List.getElem?_eq_some_iff.1 hz1
            rw [hz j hj, hz2]
          · have h8 : Try.prog.bytesOf 30 = 8 := by kernel_rfl
            rw [h8] at hzb
            have : reachBytes ≤ 140737488355328 := by decide
            simp only; omega
      obtain ⟨X, hX⟩ := Go.Deep.choose_lt key
      have h0 := (hX 0 (by omega)).2.1
      obtain ⟨b, o, rfl⟩ := addr_plain (i := 0) h0 ⟨_, h0⟩
      refine ⟨(List.range len).map X, .inr (.inr ⟨b, o, cap, by simp, World.block_lt_of_cell? _ _ h0, fun i hi => ?_⟩), by simp; unfold maxLen at hm; omega⟩
      have hi' : i < len := by simpa using hi
      obtain ⟨k, k0, k1, k2, k3, k4, k5⟩ := hX i hi'
      simp only [add_plain, Nat.add_zero] at k0 k1 k2 k3 k4 k5
      simp only [List.getElem_map, List.getElem_range]
      exact ⟨k, k0, k1, k2, k3, k4, k5⟩
end Go.Proofs.Ytagdolkfefbohaa
