/- 'Held' of the pool. -/
import Derived.Test.YtagdolkfefbohaaHeld1
import Derived.Test.YtagdolkfefbohaaDoes
import Derived.Test.YtagdolkfefbohaaBase4
namespace Go.Proofs.Ytagdolkfefbohaa
open Go.RowKit Stv

theorem info30 : (Try.prog.info? 30).map (fun i => (i.zero, i.size, i.bytes)) = some (some (.int .u64 0), 1, 8) := by kernel_rfl
theorem own_app {w : World} {v : Value} {n : Nat} {xs : List Value} (h : OwnRow w 30 1 v n xs) {sv : Value} {m : Nat} {news : List Value} (hs : SrcRow w sv m news) (hl : news.length = m) (h1 : ∀ u ∈ news, u.oneCell' = true) (h63 : n + m ≤ 10000000) :
    ∃ v' w', (Builtin.append_ #[36, 36] 36 #[v, sv]).run Try.prog w = .ok v' w' ∧ OwnRow w' 30 1 v' (n + m) (xs ++ news) ∧ Off (fun k => v.ownBlock = some k) w w' ∧
      (∀ k, v'.ownBlock = some k → v.ownBlock = some k ∨ w.heap.size ≤ k) := by
  obtain ⟨i0, hi, hz0, hz1, hz2⟩ := info_parts info30
  obtain ⟨v', w', a, b, c, d, _⟩ := run_append_row 36 36 Try.underlying36 hi hz0 hz1 hz2 rfl (by decide) h hs (by omega) h1 (by unfold maxLen; omega) (by omega)
  exact ⟨v', w', a, b, c, d⟩

/-- a new slice of numbers, its block newer than w -/
def NewNums (w : World) (w' : World) (v : Value) (ids : List Int) : Prop :=
  OwnRow w' 30 1 v ids.length (ids.map (Value.int .u64)) ∧ ∀ k, v.ownBlock = some k → w.heap.size ≤ k

def HeldPost (w : World) (ids : List Int) (e : Ending) (w' : World) : Prop := ∃ v, e = .returned v ∧ Grew w w' ∧ NewNums w w' v ids

theorem nums_form {w w' : World} {v : Value} {ids : List Int} (h : NewNums w w' v ids) : ∃ a cap, v = .slice a ids.length cap ∧ ∀ j (hj : j < ids.length), ∃ g, a = some ⟨g, 0, none⟩ ∧ w.heap.size ≤ g ∧ g < w'.heap.size ∧ w'.cell? ⟨g, j, none⟩ = some (.int .u64 ids[j]) := by
  obtain ⟨a, cap, hv, h1, h2, h3, h4⟩ := h.1.form
  refine ⟨a, cap, hv, fun j hj => ?_⟩
  cases a with
  | none => have := (h3 rfl).1; omega
  | some b =>
    obtain ⟨g, rfl, hl, ho, hc⟩ := h4 b rfl
    exact ⟨g, rfl, h.2 g ho, hl, (hc j _ (by simp [List.getElem?_eq_getElem hj])).1⟩

theorem eget_none {L : List Ent} {id : Int} (h : eget L id = none) : ∀ x ∈ L, x.id ≠ id := by
  induction L with
  | nil => intro x hx; cases hx
  | cons e r ih =>
    simp only [eget] at h
    split at h
    · cases h
    · rename_i hne
      intro x hx
      rcases List.mem_cons.1 hx with rfl | hx
      · exact hne
      · exact ih h x hx

/-- the sorted keys, to be read -/
theorem keys_form {w' : World} {B n : Nat} {v : Value} {ids : List Int} (hn : ids.length = n) (h : (v = .slice none 0 0 ∧ n = 0) ∨ ∃ (k cap : Nat) (R : List Value), B ≤ k ∧ v = .slice (some ⟨k, 0, none⟩) n cap ∧ RowB w' k ids.toArray R) :
    ∃ a cap, v = .slice a n cap ∧ ∀ j (hj : j < ids.length), ∃ g, a = some ⟨g, 0, none⟩ ∧ B ≤ g ∧ w'.cell? ⟨g, j, none⟩ = some (.int .u64 ids[j]) := by
  subst hn
  rcases h with ⟨rfl, h0⟩ | ⟨k, cap, R, hk, rfl, hr⟩
  · exact ⟨none, 0, by rw [h0], fun j hj => by omega⟩
  · refine ⟨_, cap, rfl, fun j hj => ⟨k, rfl, hk, ?_⟩⟩
    unfold RowB at hr
    rw [cell_of hr j]
    simp only [List.getElem?_toArray]
    rw [List.getElem?_append_left (by simpa using hj)]
    simp [hj]

set_option maxHeartbeats 1000000 in
theorem held_any {w : World} {p m : Nat} {most last : Int} {L : List Ent} (hp : PoolAt w p m most last L) (hL : L.length ≤ 4096) (hw : ∀ e ∈ L, (Lit.int .u64 e.id).wf = true) (h : ByteArray) :
    Calls Try.prog 18 #[.pointer (some ⟨p, 0, none⟩), .string h] w (HeldPost w (vheld (L.map Ent.val) h)) := by
  obtain ⟨V, hV⟩ : ∃ V, V = L.map Ent.val := ⟨_, rfl⟩
  have hVi : V.map (·.id) = L.map (·.id) := by rw [hV, List.map_map]; rfl
  have hKi : (L.map Ent.pair).map (·.1) = V.map (·.id) := by rw [hVi, List.map_map]; rfl
  have g2 := hp.c2
  have hsz : (sorted (V.map (·.id))).length = L.length := by rw [sorted_len, hVi, List.length_map]
  have HS : Hid (Calls Try.prog 24 #[.func (.func 28) #[] #[.pointer (some ⟨w.heap.size, 0, none⟩)]] (w.alloc (.cells #[.map (some m)] 55)) fun e W' => ∃ v, e = .returned v ∧ Grew (w.alloc (.cells #[.map (some m)] 55)) W' ∧
      ∃ a cap, v = .slice a L.length cap ∧ ∀ j (hj : j < (sorted (V.map (·.id))).length), ∃ g, a = some ⟨g, 0, none⟩ ∧ w.heap.size ≤ g ∧ W'.cell? ⟨g, j, none⟩ = some (.int .u64 (sorted (V.map (·.id)))[j])) := by
    have c := sorted_any w.heap.size m (L.map Ent.pair) (w.alloc (.cells #[.map (some m)] 55)) (by simp) (by simp) (hp.map.of_block (Below.heap_alloc _ _ _ hp.map.lt)) (by simp; omega)
    refine Lib.hid (c.mono fun e W' ⟨v, he, hg, hv⟩ => ⟨v, he, hg, ?_⟩)
    rw [hKi] at hv
    refine keys_form (B := w.heap.size) hsz ?_
    rcases hv with ⟨h1, h2⟩ | ⟨k, cap, R, h1, h2, h3⟩
    · exact .inl ⟨h1, by simpa using congrArg List.length h2⟩
    · exact .inr ⟨k, cap, R, by simp at h1; omega, by simpa using h2, h3⟩
  have HP := Lib.hid hp
  have HV := Lib.hid hV
  have HW := Lib.hid hw
  have HSz := Lib.hid hsz
  have HVi := Lib.hid hVi
  rw [← hV]
  clear hp hV hw hsz hVi hKi
  go_enter Try.func18, Try.ntmps18
  go_wp2_with (go_at_call 25; refine (keys_any _ _).mono ?_; rintro e w' ⟨rfl, rfl⟩)
  refine (HS.out).mono ?_
  rintro e w1 ⟨v, rfl, hg, a, cap, rfl, hf⟩
  have HG := Lib.hid (((Off.refl (fun _ => False) w).alloc (.cells #[.map (some m)] 55)).trans hg)
  have HF := Lib.hid hf
  clear hg hf HS
  go_wp2_with fail
  go_loopw [4, 16] (fun l i wr => ∃ k : Nat, k ≤ L.length ∧ i = .int .i64 k ∧ Grew w wr ∧ Grew w1 wr ∧ NewNums w1 wr l (((sorted (V.map (·.id))).take k).filter (vhas V h))) (fun _ i _ => L.length - (intOf i).toNat)
  case atStart =>
    refine ⟨0, Nat.zero_le _, rfl, HG.out, Off.refl _ _, ?_⟩
    simp only [List.take_zero, List.filter_nil]
    exact ⟨OwnRow.nil _ _ _, fun k hk => nomatch hk⟩
  case round =>
    obtain ⟨k, hk, rfl, hg, hg1, hN⟩ := hrel
    have HG0 := Lib.hid hg
    have HG1 := Lib.hid hg1
    obtain ⟨la, lcap, rfl, _⟩ := nums_form hN
    have HN := Lib.hid hN
    clear hg hg1 hN
    by_cases hlt : k < L.length
    · obtain ⟨g, rfl, hgs, hc⟩ := HF.out k (by rw [HSz.out]; exact hlt)
      have htk := List.take_succ_eq_append_getElem (l := sorted (V.map (·.id))) (i := k) (by rw [HSz.out]; exact hlt)
      have hmem : (sorted (V.map (·.id)))[k]'(by rw [HSz.out]; exact hlt) ∈ L.map (·.id) := by rw [← HVi.out]; exact (sorted_perm _).mem_iff.1 (List.getElem_mem _)
      generalize (sorted (V.map (·.id)))[k]'(by rw [HSz.out]; exact hlt) = id at *
      have hcell : wr.cell? ⟨g, k, none⟩ = some (.int .u64 id) := by rw [HG1.out.cell (World.block_lt_of_cell? _ _ hc) fun h => h]; exact hc
      obtain ⟨x, hx, rfl⟩ := List.mem_map.1 hmem
      have hid : (Lit.int .u64 x.id).wf = true := HW.out x hx
      have hpr := HP.out.off HG0.out fun _ _ h => h
      have hget : eget L x.id = some x := by
        cases he : eget L x.id with
        | none => exact absurd rfl (eget_none he x hx)
        | some y => obtain ⟨h1, h2⟩ := eget_mem he; rw [nodup_inj hpr.ids h1 hx h2]
      have hlk := hpr.map.look_some (t := 55) (e := 59) Try.underlying55 (k := x.id) hid (by rw [mget_pair, hget]; rfl) false
      change (Instr.lookup 55 (.map (some m)) (.int .u64 x.id) false).run Try.prog wr = .ok (.pointer (some ⟨x.blk, 0, none⟩)) wr at hlk
      have c2 := hpr.c2
      have c3 : wr.cell? ⟨x.blk, 1, none⟩ = some (.string x.holder) := cell_of (hpr.ents x hx) 1
      have hvh : vhas V h x.id = decide (x.holder = h) := by unfold vhas; rw [HV.out, eget_val, hget]; rfl
      have HT := Lib.hid htk
      have HVH := Lib.hid hvh
      have HL := Lib.hid hlt
      clear hc hmem hx hid hpr hget htk hvh
      by_cases hh : x.holder = h
      · have hs := str_yes hh
        have HH := Lib.hid hh
        obtain ⟨v', w2, hrun, hown, ho2, hb2⟩ := own_app (HN.out.1.off (grew_alloc wr (.cells #[.int .u64 x.id] 30)) fun _ _ h => h) (sv := .slice (some ⟨wr.heap.size, 0, none⟩) 1 1) (m := 1) (news := [.int .u64 x.id])
          (.inr ⟨_, 1, rfl, cell_one_new _ _ _⟩) rfl (by simp [Value.oneCell']) (by
              have := List.length_filter_le (vhas V h) ((sorted (V.map (·.id))).take k)
              have := List.length_take_le k (sorted (V.map (·.id)))
              omega)
        have HR := Lib.hid hrun
        have HO := Lib.hid (And.intro hown (And.intro ho2 hb2))
        clear hh hrun hown ho2 hb2
        go_wp2_with (at_builtin; refine wpList_append_run rfl (.tmp 31) (.tmp 33) 36 36 rfl rfl _ (.slice (some ⟨wr.heap.size, 0, none⟩) 1 1) v' w2 rfl rfl HR.out ?_)
        go_roundw
        case rel =>
          obtain ⟨h1, h2, h3⟩ := HO.out
          have hz := HG.out.size
          refine ⟨k + 1, by omega, by go_num, (HG0.out.alloc _).next h2 fun i hi => .inr (Nat.le_trans hz (HN.out.2 i hi)), (HG1.out.alloc _).next h2 fun i hi => .inr (HN.out.2 i hi), ?_⟩
          rw [HT.out, List.filter_append]
          simp only [List.filter_cons, HVH.out, HH.out, decide_true, if_true, List.filter_nil]
          refine ⟨?_, fun q hq => ?_⟩
          · simpa using h1
          · rcases h3 q hq with h | h
            · exact HN.out.2 q h
            · have := HG1.out.size; simp at h; omega
        case measure => simp [intOf]; omega
      · have hs := str_no hh
        have HH := Lib.hid hh
        clear hh
        go_wp2_with fail
        go_roundw
        case rel =>
          refine ⟨k + 1, by omega, by go_num, HG0.out, HG1.out, ?_⟩
          rw [HT.out, List.filter_append]
          simp only [List.filter_cons, HVH.out, HH.out, decide_false, List.filter_nil, Bool.false_eq_true, if_false, List.append_nil]
          exact HN.out
        case measure => simp [intOf]; omega
    · obtain rfl : k = L.length := by omega
      go_wp2_with fail
      go_ret
      have e : (sorted (V.map (·.id))).take L.length = sorted (V.map (·.id)) := List.take_of_length_le (by rw [HSz.out]; exact Nat.le_refl _)
      have h2 := HN.out
      refine ⟨.slice la _ lcap, rfl, HG0.out, ?_⟩
      rw [e] at h2 ⊢
      exact ⟨h2.1, fun q hq => by have := h2.2 q hq; have := HG.out.size; omega⟩
end Go.Proofs.Ytagdolkfefbohaa
