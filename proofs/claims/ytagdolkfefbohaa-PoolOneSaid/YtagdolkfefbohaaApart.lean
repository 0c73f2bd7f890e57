/- 'PoolApart': the walk. -/
import Derived.Test.YtagdolkfefbohaaScript
namespace Go.Proofs.Ytagdolkfefbohaa
open Go.RowKit Stv

theorem StepOk.grew {w w' : World} {x : StepV} (h : StepOk w x) (hg : Grew w w') : StepOk w' x := by
  refine ⟨h.n, h.ids, ?_, h.len⟩
  rcases h.src with h | ⟨a, cap, hv, hc⟩
  · exact .inl h
  · refine .inr ⟨a, cap, hv, fun j u hu => ?_⟩
    have := hc j u hu
    rw [hg.cell (World.block_lt_of_cell? _ _ this) fun h => h]
    exact this

theorem doesN {w0 w : World} {p : Nat} {most : Int} {s : PS} (h : PoolNew w0 p most s w) (hf : s.Fit most) (hl : s.last ≤ 1000000) {x : StepV} (hx : StepOk w0 x) {v : Value} (hv : x.val = v) :
    Calls Try.prog 9 #[.pointer (some ⟨p, 0, none⟩), v] w fun e w' => e = .returned (.tuple #[.int .u64 (psStep most s x).1.1, .int .i64 (psStep most s x).1.2]) ∧ PoolNew w0 p most (psStep most s x).2 w' := by
  obtain ⟨S, h1, h2, h3⟩ := h
  subst hv
  exact (does_any h1 hf hl (hx.grew h3)).mono fun e w' ⟨he, ht⟩ => ⟨he, .step h2 h3 ht⟩

theorem heavy_any {w : World} {v : Value} {l : List StepV} (h : ScriptAt w v l) (hl : l.length ≤ 9223372036854775807) : Calls Try.prog 6 #[v] w (HeavyPost w l.length) := by
  rcases h with ⟨rfl, rfl⟩ | ⟨a, cap, rfl, rfl⟩ | ⟨b, o, cap, rfl, _, h⟩
  · exact (heavy_none w none 0).mono fun e w' ⟨he, hw⟩ => ⟨false, he, fun _ => by simp, hw ▸ Off.refl _ _⟩
  · exact (heavy_none w (some a) cap).mono fun e w' ⟨he, hw⟩ => ⟨false, he, fun _ => by simp, hw ▸ Off.refl _ _⟩
  · refine heavy_some hl fun i hi => ?_
    obtain ⟨hok, _, h1, h2, h3, _, h5⟩ := h i hi
    rcases hok.src with ⟨e, _⟩ | ⟨a, c, e, _⟩
    · exact ⟨none, 0, 0, e, h1, h2, h3, h5⟩
    · exact ⟨some a, _, c, e, h1, h2, h3, h5⟩

/-- the parts of a script's value -/
theorem ScriptAt.form {w : World} {v : Value} {l : List StepV} (h : ScriptAt w v l) : ∃ a cap, v = .slice a l.length cap ∧ ∀ i (h : i < l.length), ∃ b o, a = some ⟨b, o, none⟩ ∧ b < w.heap.size ∧ StepOk w l[i] ∧
    w.cell? ⟨b, o + i * 6, none⟩ = some (.int .i64 l[i].doo) ∧ w.cell? ⟨b, o + i * 6 + 1, none⟩ = some (.string l[i].who) ∧ w.cell? ⟨b, o + i * 6 + 2, none⟩ = some (.string l[i].to) ∧
    w.cell? ⟨b, o + i * 6 + 3, none⟩ = some (.string l[i].s) ∧ w.cell? ⟨b, o + i * 6 + 4, none⟩ = some (.int .u64 l[i].n) ∧ w.cell? ⟨b, o + i * 6 + 5, none⟩ = some l[i].l := by
  rcases h with ⟨rfl, rfl⟩ | ⟨a, cap, rfl, rfl⟩ | ⟨b, o, cap, rfl, hb, h⟩
  · exact ⟨none, 0, rfl, fun i h => by simp at h⟩
  · exact ⟨some a, cap, rfl, fun i h => by simp at h⟩
  · exact ⟨_, cap, rfl, fun i hi => ⟨b, o, rfl, hb, h i hi⟩⟩

set_option maxHeartbeats 2000000 in
set_option maxRecDepth 100000 in
theorem apart_any {w : World} {v : Value} {l : List StepV} (h : ScriptAt w v l) (hl : l.length ≤ 9223372036854775807) (one other text : ByteArray) (h1 : one.size ≤ 140737488355328) (h2 : other.size ≤ 140737488355328) (h3 : text.size ≤ 140737488355328) :
    Calls Try.prog 4 #[.string one, .string other, .string text, v] w fun e w' => e = .returned (.bool true) ∧ Grew w w' := by
  have HH : Hid (∀ w', Grew w w' → Calls Try.prog 6 #[v] w (HeavyPost w l.length)) := Lib.hid fun _ _ => heavy_any h hl
  obtain ⟨a, cap, rfl, hf⟩ := h.form
  have HF := Lib.hid hf
  clear h hf
  go_enter Try.func4, Try.ntmps4
  go_wp2_with fail
  refine (HH.out w (Off.refl _ _)).mono ?_
  rintro e wa ⟨hv, rfl, hle, hga⟩
  have HGa := Lib.hid hga
  clear hga
  cases hv with
  | true =>
    clear hle
    go_wp2_with fail
    refine (works_any _).mono ?_
    rintro e wb ⟨rfl, hgb⟩
    have HGb := Lib.hid hgb
    clear hgb
    go_wp2_with fail
    go_ret
    exact ⟨rfl, HGa.out.trans HGb.out⟩
  | false =>
    have hle := hle rfl
    by_cases hsum : 1024 < (one.size : Int) + other.size + text.size
    · go_wp2_with fail
      refine (works_any _).mono ?_
      rintro e wb ⟨rfl, hgb⟩
      have HGb := Lib.hid hgb
      clear hgb
      go_wp2_with fail
      go_ret
      exact ⟨rfl, HGa.out.trans HGb.out⟩
    · by_cases hone : one.size = 0
      · have hs := str_emp_yes hone
        have HO := Lib.hid hone
        clear hone
        go_wp2_with fail
        refine (works_any _).mono ?_
        rintro e wb ⟨rfl, hgb⟩
        have HGb := Lib.hid hgb
        clear hgb
        go_wp2_with fail
        go_ret
        exact ⟨rfl, HGa.out.trans HGb.out⟩
      · have hs := str_emp_no hone
        have HO := Lib.hid hone
        have ht : text.size ≤ 65549 := by omega
        clear hone
        go_wp2_with fail
        refine (newsN (by decide) (by decide) HGa.out).mono ?_
        rintro e wb ⟨rfl, hp⟩
        have H0 := Lib.hid hp
        clear hp
        go_wp2_with fail
        refine (takesN H0.out (fit0 (by decide)) (by decide) one text (r := ((1, 0), ⟨1, [⟨1, one, text⟩]⟩)) (by unfold psTake; rw [if_neg HO.out, if_neg (by omega)]; rfl)).mono ?_
        rintro e wc ⟨rfl, hp⟩
        have H1 := Lib.hid hp
        clear hp
        go_wp2_with fail
        go_loopw [13] (fun i wr => ∃ (k : Nat) (s : PS), k ≤ l.length ∧ i = .int .i64 k ∧ PoolNew w (wa.heap.size + 1) 10 s wr ∧ s.Fit 10 ∧ vget s.V 1 = some ⟨1, one, text⟩ ∧ s.last ≤ 1 + k) (fun i _ => l.length - (intOf i).toNat)
        case atStart => exact ⟨0, _, Nat.zero_le _, rfl, H1.out, ⟨by simp, by simp, by simp, by simp⟩, rfl, by simp⟩
        case round =>
          obtain ⟨k, s, hk, rfl, hP, hfit, hget, hlast⟩ := hrel
          have HP := Lib.hid hP
          have HG := Lib.hid hget
          have HFit := Lib.hid hfit
          clear hP hget hfit
          by_cases hlt : k < l.length
          · obtain ⟨b, o, rfl, hb, hok, e0, e1, e2, e3, e4, e5⟩ := HF.out k hlt
            have g : ∀ {q : Addr} {u : Value}, w.cell? q = some u → wr.cell? q = some u := fun {q u} h => by rw [HP.out.base.cell (World.block_lt_of_cell? _ _ h) fun h => h]; exact h
            replace e0 := g e0
            replace e1 := g e1
            replace e2 := g e2
            replace e3 := g e3
            replace e4 := g e4
            replace e5 := g e5
            have HK := Lib.hid hok
            clear g hok HH
            generalize l[k] = x at *
            by_cases hw : x.who = one
            · have hs2 := str_yes hw
              have HW := Lib.hid hw
              clear hw
              go_wp2_with fail
              go_roundw
              case rel => exact ⟨k + 1, s, by omega, by go_num, HP.out, HFit.out, HG.out, by omega⟩
              case measure => simp [intOf]; omega
            · have hs2 := str_no hw
              have HW := Lib.hid hw
              clear hw
              go_wp2_with fail
              refine (doesN HP.out HFit.out (by omega) HK.out rfl).mono ?_
              rintro e wd ⟨rfl, hp⟩
              have HD := Lib.hid hp
              clear hp
              go_wp2_with fail
              go_roundw
              case rel =>
                have hst := Fit.step HFit.out x
                exact ⟨k + 1, _, by omega, by go_num, HD.out, hst.1, step_apart HG.out rfl HW.out, by omega⟩
              case measure => simp [intOf]; omega
          · go_wp2_with fail
            refine (getsN HP.out (by decide) HG.out).mono ?_
            rintro e wd ⟨rfl, hp⟩
            have HD := Lib.hid hp
            clear hp
            by_cases hoo : other = one
            · have hs2 := str_yes hoo
              have HW := Lib.hid hoo
              clear hoo
              go_wp2_with fail
              refine (works_any _).mono ?_
              rintro e we ⟨rfl, hgb⟩
              have HGb := Lib.hid hgb
              clear hgb
              go_wp2_with fail
              go_ret
              exact ⟨rfl, (HD.out.base.trans (grew_alloc _ _)).trans HGb.out⟩
            · have hs2 := str_no hoo
              have HW := Lib.hid hoo
              clear hoo
              go_wp2_with fail
              refine (gives1 (HD.out.alloc _) other (give_other HG.out fun e => HW.out e.symm) (by simp)).mono ?_
              rintro e we ⟨rfl, hp⟩
              have HE := Lib.hid hp
              clear hp
              go_wp2_with fail
              refine (movesN HE.out (by decide) other one (move_other HG.out HO.out fun e => HW.out e.symm)).mono ?_
              rintro e wf ⟨rfl, hp⟩
              have HF := Lib.hid hp
              clear hp
              go_wp2_with fail
              refine (setsN HF.out (by decide) other _ (set_other HG.out fun e => HW.out e.symm)).mono ?_
              rintro e wg ⟨rfl, hp⟩
              have HGG := Lib.hid hp
              clear hp
              go_wp2_with fail
              refine (gives1 HGG.out one (give_one HG.out) (by simp)).mono ?_
              rintro e wh ⟨rfl, hp⟩
              have HHH := Lib.hid hp
              clear hp
              go_wp2_with fail
              refine (gives1 HHH.out one (give_none (vget_vdel_same HFit.out.uniq 1) one) (by simp)).mono ?_
              rintro e wi ⟨rfl, hp⟩
              have HI := Lib.hid hp
              clear hp
              go_wp2_with fail
              refine (works_any _).mono ?_
              rintro e wj ⟨rfl, hgb⟩
              have HGb := Lib.hid hgb
              clear hgb
              go_wp2_with fail
              go_ret
              exact ⟨rfl, HI.out.base.trans HGb.out⟩
end Go.Proofs.Ytagdolkfefbohaa
