/- 'PoolPlays': the walk. -/
import Derived.Test.YtagdolkfefbohaaTold
import Derived.Test.YtagdolkfefbohaaApart
namespace Go.Proofs.Ytagdolkfefbohaa
open Go.RowKit Stv

set_option maxHeartbeats 400000 in
theorem free_drew {w : World} {p m : Nat} {most last : Int} {L : List Ent} (hp : PoolAt w p m most last L) (h0 : 0 ≤ most) (h1 : most ≤ 4096) (hL : L.length ≤ 4096) :
    Calls Try.prog 11 #[.pointer (some ⟨p, 0, none⟩)] w fun e w' => e = .returned (.int .i64 (most - L.length)) ∧ ∃ n, w' = w.drewN n := by
  have hl : ∀ n, (Builtin.len_ #[55] 3 #[.map (some m)]).run Try.prog (w.drewN n) = .ok (.int .i64 (L.length : Int)) (w.drewN n) := fun n => by
    have := (hp.map.of_block (w' := w.drewN n) rfl).len (t := 55) (e := 59) Try.underlying55 3
    simpa using this
  have g0 := hp.c0
  have g2 := hp.c2
  clear hp
  go_enter Try.func11, Try.ntmps11
  go_wp2
  go_quiet (fail)
  go_wp2
  go_ret
  exact ⟨rfl, _, rfl⟩

/-- both pools, apart from each other, newer than w -/
def Both (w wr : World) (p r : Nat) (most : Int) (s t : PS) : Prop :=
  ∃ S T, PoolIs wr p most s S ∧ RefIs wr r most t T ∧ (∀ k, S k → ¬ T k) ∧ (∀ k, S k → w.heap.size ≤ k) ∧ (∀ k, T k → w.heap.size ≤ k) ∧ Grew w wr

theorem Both.grew {w wr w2 : World} {p r : Nat} {most : Int} {s t : PS} (h : Both w wr p r most s t) (hg : Grew wr w2) : Both w w2 p r most s t := by
  obtain ⟨S, T, h1, h2, h3, h4, h5, h6⟩ := h
  exact ⟨S, T, h1.off hg fun _ _ h => h, h2.off hg fun _ _ h => h, h3, h4, h5, h6.trans hg⟩
theorem Both.base {w wr : World} {p r : Nat} {most : Int} {s t : PS} (h : Both w wr p r most s t) : Grew w wr := by
  obtain ⟨_, _, _, _, _, _, _, h⟩ := h; exact h

theorem both_does {w wr : World} {p r : Nat} {most : Int} {s t : PS} (h : Both w wr p r most s t) (hf : s.Fit most) (hl : s.last ≤ 1000000) {x : StepV} (hx : StepOk w x) {v : Value} (hv : x.val = v) :
    Calls Try.prog 9 #[.pointer (some ⟨p, 0, none⟩), v] wr fun e w' => e = .returned (.tuple #[.int .u64 (psStep most s x).1.1, .int .i64 (psStep most s x).1.2]) ∧ Both w w' p r most (psStep most s x).2 t := by
  obtain ⟨S, T, h1, h2, h3, h4, h5, h6⟩ := h
  subst hv
  refine (does_any h1 hf hl (hx.grew h6)).mono fun e w' ⟨he, S', hp, hS, ho⟩ => ⟨he, S', T, hp, h2.off ho fun k hT hS => h3 k hS hT, fun k hk hT => ?_, fun k hk => ?_, h5, h6.next ho fun i hi => .inr (h4 i hi)⟩
  · rcases hS k hk with h | h
    · exact h3 k h hT
    · obtain ⟨lv, _, _, hlt⟩ := h2
      have := hlt k hT
      omega
  · rcases hS k hk with h | h
    · exact h4 k h
    · exact Nat.le_trans h6.size h

theorem both_told {w wr : World} {p r : Nat} {most : Int} {s t : PS} (h : Both w wr p r most s t) (hf : t.Fit most) (hl : t.last ≤ 1000000) (hm : most ≤ 4096) {x : StepV} (hx : StepOk w x) {v : Value} (hv : x.val = v) :
    Calls Try.prog 10 #[.pointer (some ⟨r, 0, none⟩), v] wr fun e w' => e = .returned (.tuple #[.int .u64 (psStep most t x).1.1, .int .i64 (psStep most t x).1.2]) ∧ Both w w' p r most s (psStep most t x).2 := by
  obtain ⟨S, T, h1, h2, h3, h4, h5, h6⟩ := h
  subst hv
  refine (told_any h2 hf hl hm (hx.grew h6)).mono fun e w' ⟨he, T', hp, hT, ho⟩ => ⟨he, S, T', h1.off ho h3, hp, fun k hS hk => ?_, h4, fun k hk => ?_, h6.next ho fun i hi => .inr (h5 i hi)⟩
  · rcases hT k hk with h | h
    · exact h3 k hS h
    · obtain ⟨m, L, _, _, _, hlt⟩ := h1
      have := hlt k hS
      omega
  · rcases hT k hk with h | h
    · exact h5 k h
    · exact Nat.le_trans h6.size h

theorem both_free {w wr : World} {p r : Nat} {most : Int} {s t : PS} (h : Both w wr p r most s t) (hf : s.Fit most) (hm : most ≤ 4096) (n : Nat) :
    Calls Try.prog 11 #[.pointer (some ⟨p, 0, none⟩)] (wr.drewN n) fun e w' => e = .returned (.int .i64 (most - s.V.length)) ∧ ∃ n', w' = (wr.drewN n).drewN n' := by
  obtain ⟨S, T, ⟨m, L, hp, hv, hS, hlt⟩, _⟩ := h
  have hlen : s.V.length = L.length := by rw [← hv]; simp
  have := hf.len
  rw [hlen]
  exact free_drew (hp.off ((Off.refl (fun _ => False) wr).drewN n) fun _ _ h => h) (by omega) hm (by omega)

theorem both_get {w wr : World} {p r : Nat} {most : Int} {s t : PS} (h : Both w wr p r most s t) {id : Int} (hid : (Lit.int .u64 id).wf = true) :
    Calls Try.prog 12 #[.pointer (some ⟨p, 0, none⟩), .int .u64 id] wr fun e w' => e = .returned (match vget s.V id with
      | none => .tuple #[.agg #[.int .u64 0, .string ⟨#[]⟩, .string ⟨#[]⟩], .bool false]
      | some x => .tuple #[.agg #[.int .u64 x.id, .string x.holder, .string x.text], .bool true]) ∧ Both w w' p r most s t := by
  have h' := h
  obtain ⟨S, T, h1, _⟩ := h
  exact (gets h1 hid).mono fun e w' ⟨he, hg⟩ => ⟨he, h'.grew hg⟩

theorem both_at {w wr : World} {p r : Nat} {most : Int} {s t : PS} (h : Both w wr p r most s t) (id : Int) (hlen : t.V.length ≤ 9223372036854775807) :
    Calls Try.prog 13 #[.pointer (some ⟨r, 0, none⟩), .int .u64 id] wr fun e w' => e = .returned (.int .i64 (vidx t.V id)) ∧ wr = w' := by
  obtain ⟨S, T, _, ⟨lv, hr, _⟩, _⟩ := h
  exact at_any hr id hlen

theorem Both.ref {w wr : World} {p r : Nat} {most : Int} {s t : PS} (h : Both w wr p r most s t) : ∃ lv, RefAt wr r most t.last lv t.V := by
  obtain ⟨S, T, _, ⟨lv, hr, _⟩, _⟩ := h
  exact ⟨lv, hr⟩

set_option maxHeartbeats 2000000 in
set_option maxRecDepth 100000 in
theorem plays_any {w : World} {v : Value} {l : List StepV} (h : ScriptAt w v l) (hl : l.length ≤ 9223372036854775807) (most : Int) :
    Calls Try.prog 3 #[.int .i64 most, v] w fun e w' => e = .returned (.bool true) ∧ Grew w w' := by
  have HH : Hid (∀ w', Grew w w' → Calls Try.prog 6 #[v] w (HeavyPost w l.length)) := Lib.hid fun _ _ => heavy_any h hl
  obtain ⟨a, cap, rfl, hf⟩ := h.form
  have HF := Lib.hid hf
  clear h hf
  go_enter Try.func3, Try.ntmps3
  go_wp2_with fail
  refine (HH.out w (Off.refl _ _)).mono ?_
  rintro e wa ⟨hv, rfl, hle, hga⟩
  have HGa := Lib.hid hga
  clear hga
  cases hv with
  | true =>
    clear hle
    go_wp2_with fail
    refine (works_any _).mono ?_
    rintro e wb ⟨rfl, hgb⟩
    have HGb := Lib.hid hgb
    clear hgb
    go_wp2_with fail
    go_ret
    exact ⟨rfl, HGa.out.trans HGb.out⟩
  | false =>
    have hle := hle rfl
    by_cases hm1 : most < 1
    · go_wp2_with fail
      refine (new_bad most (.inl hm1) _).mono ?_
      rintro e wb ⟨rfl, rfl⟩
      go_wp2_with fail
      refine (works_any _).mono ?_
      rintro e wb ⟨rfl, hgb⟩
      have HGb := Lib.hid hgb
      clear hgb
      go_wp2_with fail
      go_ret
      exact ⟨rfl, HGa.out.trans HGb.out⟩
    · by_cases hm2 : 4096 < most
      · go_wp2_with fail
        refine (new_bad most (.inr hm2) _).mono ?_
        rintro e wb ⟨rfl, rfl⟩
        go_wp2_with fail
        refine (works_any _).mono ?_
        rintro e wb ⟨rfl, hgb⟩
        have HGb := Lib.hid hgb
        clear hgb
        go_wp2_with fail
        go_ret
        exact ⟨rfl, HGa.out.trans HGb.out⟩
      · go_wp2_with fail
        refine (news (n := most) (by omega) (by omega) wa).mono ?_
        rintro e wb ⟨rfl, hp, hgb⟩
        have HP := Lib.hid hp
        have HGb := Lib.hid hgb
        clear hp hgb
        go_wp2_with fail
        have HB0 : Hid (Both w (wb.alloc (.cells #[.int .i64 most, .int .u64 0, .slice none 0 0] 33)) (wa.heap.size + 1) wb.heap.size most ⟨0, []⟩ ⟨0, []⟩) := by
          have hsz := HGa.out.size
          refine Lib.hid ⟨_, fun k => k = wb.heap.size, HP.out.alloc _, ⟨.slice none 0 0, ⟨(MapKept.heap_alloc wb _).1, OwnRow.nil _ _ _⟩, ?_, ?_⟩, ?_, ?_, ?_, (HGa.out.trans HGb.out).alloc _⟩
          · rintro k (h | h)
            · exact h
            · cases h
          · rintro k rfl; simp
          · intro k hk hkb
            obtain ⟨_, _, _, _, _, hlt⟩ := HP.out
            have := hlt k hk
            omega
          · rintro k (rfl | rfl) <;> omega
          · rintro k rfl; exact (HGa.out.trans HGb.out).size
        go_loopw [8] (fun i wr => ∃ (k : Nat) (s : PS), k ≤ l.length ∧ i = .int .i64 k ∧ Both w wr (wa.heap.size + 1) wb.heap.size most s s ∧ s.Fit most ∧ s.last ≤ k) (fun i _ => l.length - (intOf i).toNat)
        case atStart => exact ⟨0, ⟨0, []⟩, Nat.zero_le _, rfl, HB0.out, fit0 (by omega), by simp⟩
        case round =>
          obtain ⟨k, s, hk, rfl, hB, hfit, hlast⟩ := hrel
          have HB := Lib.hid hB
          have HFit := Lib.hid hfit
          clear hB hfit HB0 HP
          by_cases hlt : k < l.length
          · obtain ⟨b, o, rfl, hb, hok, e0, e1, e2, e3, e4, e5⟩ := HF.out k hlt
            have HE := Lib.hid (And.intro e0 (And.intro e1 (And.intro e2 (And.intro e3 (And.intro e4 e5)))))
            have g : ∀ {q : Addr} {u : Value}, w.cell? q = some u → wr.cell? q = some u := fun {q u} h => by rw [HB.out.base.cell (World.block_lt_of_cell? _ _ h) fun h => h]; exact h
            replace e0 := g e0
            replace e1 := g e1
            replace e2 := g e2
            replace e3 := g e3
            replace e4 := g e4
            replace e5 := g e5
            have HK := Lib.hid hok
            clear g hok HH
            generalize l[k] = x at *
            go_wp2_with fail
            refine (both_does HB.out HFit.out (by omega) HK.out rfl).mono ?_
            rintro e wd ⟨rfl, hp⟩
            have HD := Lib.hid hp
            clear hp e0 e1 e2 e3 e4 e5
            obtain ⟨e0, e1, e2, e3, e4, e5⟩ := HE.out
            have g : ∀ {q : Addr} {u : Value}, w.cell? q = some u → wd.cell? q = some u := fun {q u} h => by rw [HD.out.base.cell (World.block_lt_of_cell? _ _ h) fun h => h]; exact h
            replace e0 := g e0
            replace e1 := g e1
            replace e2 := g e2
            replace e3 := g e3
            replace e4 := g e4
            replace e5 := g e5
            clear g
            go_wp2_with fail
            refine (both_told HD.out HFit.out (by omega) (by omega) HK.out rfl).mono ?_
            rintro e we ⟨rfl, hp⟩
            have HT := Lib.hid hp
            clear hp e0 e1 e2 e3 e4 e5
            have hst := Fit.step HFit.out x
            have HSt := Lib.hid hst
            generalize psStep most s x = R at *
            obtain ⟨⟨ra, rb⟩, s2⟩ := R
            have hlast2 : s2.last ≤ k + 1 := by have := HSt.out.2.1; simp only at this; omega
            have hlast3 : 0 ≤ s2.last := by have := HSt.out.1.last; simpa using this
            have hlen2 : s2.V.length ≤ 4096 := by have := HSt.out.1.len; simp only at this; omega
            clear hst
            obtain ⟨lv, hlv⟩ := HT.out.ref
            obtain ⟨ra', rcap, hlve, hcap1, hcap2, hnone, hplaces⟩ := hlv.form
            have c1 := hlv.c1
            have c2 := hlv.c2
            simp only at hlve c1 c2
            rw [hlve] at c2
            have HFree := Lib.hid (fun n => both_free HT.out HSt.out.1 (by omega) n)
            clear hlv hlve hnone hplaces hcap1 hcap2
            go_wp2_with fail
            go_quiet ((go_at_call 11; exact Calls.quiet_of (HFree.out _)))
            go_wp2_with fail
            clear c1 c2 HFree
            go_loopw [13] (fun q wr => ∃ j : Nat, (j : Int) ≤ s2.last + 2 ∧ q = .int .u64 j ∧ Both w wr (wa.heap.size + 1) wb.heap.size most s2 s2) (fun q _ => (s2.last + 2 - intOf q).toNat)
            case atStart => exact ⟨0, by omega, rfl, HT.out.grew ((Off.refl _ _).drewN _)⟩
            case round =>
              obtain ⟨j, hj, rfl, hB⟩ := hrel
              have HB2 := Lib.hid hB
              clear hB
              obtain ⟨lv, hlv⟩ := HB2.out.ref
              have c1 := hlv.c1
              have HLV := Lib.hid hlv
              clear hlv
              by_cases hjl : (j : Int) ≤ s2.last + 1
              · have hidw : (Lit.int .u64 (j : Int)).wf = true := u64wf (by omega) (by omega)
                have HId := Lib.hid hidw
                clear hidw
                rcases vidx_cases s2.V j with ⟨hi, hg⟩ | ⟨i, hik, hi, hg, hid, _⟩
                · have HGet : Hid (Calls Try.prog 12 #[.pointer (some ⟨wa.heap.size + 1, 0, none⟩), .int .u64 (j : Int)] wr fun e w' => e = .returned (.tuple #[.agg #[.int .u64 0, .string ⟨#[]⟩, .string ⟨#[]⟩], .bool false]) ∧ Both w w' (wa.heap.size + 1) wb.heap.size most s2 s2) := by
                    have := both_get HB2.out HId.out
                    simp only [hg] at this
                    exact Lib.hid this
                  have HI := Lib.hid hi
                  clear hi hg
                  go_wp2_with fail
                  refine HGet.out.mono ?_
                  rintro e wf ⟨rfl, hB⟩
                  have HB3 := Lib.hid hB
                  clear hB
                  have HAt : Hid (∀ O, Calls Try.prog 13 #[.pointer (some ⟨wb.heap.size, 0, none⟩), .int .u64 (j : Int)] (wf.alloc O) fun e w' => e = .returned (.int .i64 (-1)) ∧ wf.alloc O = w') := Lib.hid fun O => by
                    have := both_at (HB3.out.grew (grew_alloc _ O)) (j : Int) (by omega)
                    rw [HI.out] at this
                    exact this
                  go_wp2_with fail
                  refine (HAt.out _).mono ?_
                  rintro e wg ⟨rfl, rfl⟩
                  go_wp2_with fail
                  go_quiet (fail)
                  go_wp2_with fail
                  go_roundw
                  case rel => exact ⟨j + 1, by omega, by go_num, (HB3.out.grew (grew_alloc _ _)).grew ((Off.refl _ _).drewN _)⟩
                  case measure => simp [intOf]; omega
                · have HGet : Hid (Calls Try.prog 12 #[.pointer (some ⟨wa.heap.size + 1, 0, none⟩), .int .u64 (j : Int)] wr fun e w' => e = .returned (.tuple #[.agg #[.int .u64 s2.V[i].id, .string s2.V[i].holder, .string s2.V[i].text], .bool true]) ∧ Both w w' (wa.heap.size + 1) wb.heap.size most s2 s2) := by
                    have := both_get HB2.out HId.out
                    simp only [hg] at this
                    exact Lib.hid this
                  have HI := Lib.hid hi
                  clear hi hg hid
                  go_wp2_with fail
                  refine HGet.out.mono ?_
                  rintro e wf ⟨rfl, hB⟩
                  have HB3 := Lib.hid hB
                  clear hB
                  have HAt : Hid (∀ O, Calls Try.prog 13 #[.pointer (some ⟨wb.heap.size, 0, none⟩), .int .u64 (j : Int)] (wf.alloc O) fun e w' => e = .returned (.int .i64 (i : Int)) ∧ wf.alloc O = w') := Lib.hid fun O => by
                    have := both_at (HB3.out.grew (grew_alloc _ O)) (j : Int) (by omega)
                    rw [HI.out] at this
                    exact this
                  obtain ⟨lv3, hlv3⟩ := HB3.out.ref
                  obtain ⟨g, cap3, _, d2, d3, d4, d5, _, _, _⟩ := hlv3.place hik
                  have hgl : g < wf.heap.size := World.block_lt_of_cell? _ _ d3
                  have hrl : wb.heap.size < wf.heap.size := hlv3.lt
                  clear hlv3
                  generalize s2.V[i] = y at *
                  have hys := str_yes (a := y.holder) rfl
                  go_wp2_with fail
                  refine (HAt.out _).mono ?_
                  rintro e wg ⟨rfl, rfl⟩
                  go_wp2_with fail
                  go_quiet (fail)
                  go_wp2_with fail
                  go_roundw
                  case rel => exact ⟨j + 1, by omega, by go_num, (HB3.out.grew (grew_alloc _ _)).grew ((Off.refl _ _).drewN _)⟩
                  case measure => simp [intOf]; omega
              · go_wp2_with fail
                go_roundw
                case rel => exact ⟨k + 1, s2, by omega, by go_num, HB2.out, HSt.out.1, by omega⟩
                case measure => simp [intOf]; omega
          · go_wp2_with fail
            refine (works_any _).mono ?_
            rintro e wd ⟨rfl, hgb⟩
            have HGb2 := Lib.hid hgb
            clear hgb
            go_wp2_with fail
            go_ret
            exact ⟨rfl, HB.out.base.trans HGb2.out⟩
end Go.Proofs.Ytagdolkfefbohaa
