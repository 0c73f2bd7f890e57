/- 'Give' of the pool: the walk. -/
import Derived.Test.YtagdolkfefbohaaPool5
namespace Go.Proofs.Ytagdolkfefbohaa
open Go.RowKit Stv

theorem ones_snoc (ids : List Int) (i : Int) : ones (ids ++ [i]) = ones ids ++ [(i, .int .i64 1)] := by simp [ones]

theorem Give1.fin {w wr w2 : World} {p m : Nat} {most last : Int} {L : List Ent} {h : ByteArray} {ids : List Int} {k : Nat} (hG : Give1 w wr p m most last L h ids k) (hp : PoolAt w p m most last L) (ht : wr.mapTurned w2 w.heap.size) :
    PoolAt w2 p m most last L ∧ Grew w w2 :=
  have g := hG.grew.turned ht (.inr (Nat.le_refl _))
  ⟨hp.off g fun _ _ h => h, g⟩

/-- what 'Give' leaves -/
def GivePost (w : World) (p m : Nat) (most last : Int) (L : List Ent) (h : ByteArray) (ids : List Int) (e : Ending) (w' : World) : Prop :=
  e = .returned (.int .i64 (giveErr L h ids [])) ∧ PoolAt w' p m most last (if giveErr L h ids [] = 0 then ids.foldl edel L else L) ∧ Off (poolBlks p m L) w w'

theorem GivePost.bad {w w2 : World} {p m : Nat} {most last : Int} {L : List Ent} {h : ByteArray} {ids : List Int} {c : Int} (hc : giveErr L h ids [] = c) (h0 : c ≠ 0) (hp : PoolAt w2 p m most last L ∧ Grew w w2) :
    GivePost w p m most last L h ids (.returned (.int .i64 c)) w2 := by
  subst hc
  exact ⟨rfl, by rw [if_neg h0]; exact hp.1, hp.2.mono fun _ _ h => h.elim⟩

set_option maxHeartbeats 1000000 in
theorem give_any {w : World} {p m : Nat} {most last : Int} {L : List Ent} (hp : PoolAt w p m most last L) (h : ByteArray) {ids : List Int} (hw : ∀ id ∈ ids, (Lit.int .u64 id).wf = true)
   {b o cap : Nat} (hr : ∀ j, j < ids.length → w.cell? ⟨b, o + j, none⟩ = some (.int .u64 (ids.getD j 0))) (hb : ¬ poolBlks p m L b) (hbl : b < w.heap.size) (hlen : ids.length ≤ 9223372036854775807) :
    Calls Try.prog 15 #[.pointer (some ⟨p, 0, none⟩), .string h, .slice (some ⟨b, o, none⟩) ids.length cap] w (GivePost w p m most last L h ids) := by
  have m1 := fun w => run_eql_map_nil (P := Try.prog) w 55 30 59 (some m) Try.underlying55
  have hmm := @run_makeMap Try.prog
  have g2 := hp.c2
  have HP := Lib.hid hp
  have HR := Lib.hid hr
  have HB := Lib.hid hb
  have HW := Lib.hid hw
  clear hp hr hb hw
  go_enter Try.func15, Try.ntmps15
  go_wp2
  go_loopw [26] (fun i wr => ∃ k : Nat, k ≤ ids.length ∧ i = .int .i64 k ∧ Give1 w wr p m most last L h ids k) (fun i _ => ids.length - (intOf i).toNat)
  case atStart =>
    refine ⟨0, Nat.zero_le _, rfl, ⟨HP.out.off ((Off.refl (fun _ => False) w).alloc _) (fun _ _ h => h), (Off.refl _ _).alloc _, ?_, by simp, by simp⟩⟩
    exact MapIs.made K30 w
  case round =>
    obtain ⟨k, hk, rfl, hG⟩ := hrel
    by_cases hlt : k < ids.length
    · obtain ⟨id, hid⟩ : ∃ i, ids[k] = i := ⟨_, rfl⟩
      have hcell : wr.cell? ⟨b, o + k, none⟩ = some (.int .u64 id) := by
        rw [hG.grew.cell (p := ⟨b, o + k, none⟩) hbl (fun h => h), HR.out k hlt, ← hid]
        simp [List.getD_eq_getElem?_getD, List.getElem?_eq_getElem hlt]
      have hwf : (Lit.int .u64 id).wf = true := HW.out id (by rw [← hid]; exact List.getElem_mem hlt)
      have hlk := hG.gone.look (t := 52) (e := 3) Try.underlying52 (k := id) hwf (zero3 wr) false
      have htk := take_snoc_get ids k hlt
      have hdk := drop_cons_get ids k hlt
      rw [hid] at htk hdk
      have HT := Lib.hid htk
      have HD := Lib.hid hdk
      have HG := Lib.hid hG
      clear htk hdk hG hid
      by_cases hin : id ∈ ids.take k
      · obtain ⟨x, hx, hxh⟩ := HG.out.ok id hin
        have hfin : giveErr L h ids [] = 5 := by rw [HG.out.err, HD.out]; simp [giveErr, hin]
        have HX := Lib.hid hx
        have HH := Lib.hid hxh
        have HF := Lib.hid hfin
        rw [ones_get, if_pos hin] at hlk
        have HI := Lib.hid hin
        clear hx hxh hfin hin
        change (Instr.lookup 52 (.map (some w.heap.size)) (.int .u64 id) false).run Try.prog wr = .ok (.int .i64 1) wr at hlk
        go_wp2_with (first | (go_at_call 23; refine (of_ok HG.out.pool hwf _ HX.out HH.out).mono ?_; rintro e w' ⟨rfl, rfl⟩) | (at_mapUpdate; refine wpList_mput K30 _ rfl _ _ _ 52 rfl 3 Try.underlying52 w.heap.size _ id (.int .i64 2) rfl rfl rfl HG.out.gone hwf ?_; intro w2 hm2 ht2; have hlk2 := hm2.look_some (t := 52) (e := 3) Try.underlying52 (k := id) hwf (v := .int .i64 2) (by rw [mget_mput, if_pos rfl]) false; change (Instr.lookup 52 (.map (some w.heap.size)) (.int .u64 id) false).run Try.prog w2 = .ok (.int .i64 2) w2 at hlk2; have HT2 := Lib.hid ht2; clear ht2 hm2))
        go_ret
        exact GivePost.bad HF.out (by decide) (HG.out.fin HP.out HT2.out)
      · have hmg : mget (ones (ids.take k)) id = none := by rw [ones_get, if_neg hin]
        have hmp : mput (ones (ids.take k)) id (.int .i64 1) = ones (ids.take (k + 1)) := by
          rw [mput_none (mget_none_iff.1 hmg), HT.out, ones_snoc]
        have HM := Lib.hid hmp
        rw [hmg] at hlk
        have HI := Lib.hid hin
        clear hmg hmp hin
        change (Instr.lookup 52 (.map (some w.heap.size)) (.int .u64 id) false).run Try.prog wr = .ok (.int .i64 0) wr at hlk
        cases he : eget L id with
        | none =>
          have hfin : giveErr L h ids [] = 5 := by rw [HG.out.err, HD.out]; simp [giveErr, HI.out, he]
          have HF := Lib.hid hfin
          have HE := Lib.hid he
          clear hfin he
          go_wp2_with (first | (go_at_call 23; refine (of_none HG.out.pool hwf _ HE.out).mono ?_; rintro e w' ⟨rfl, rfl⟩) | (at_mapUpdate; refine wpList_mput K30 _ rfl _ _ _ 52 rfl 3 Try.underlying52 w.heap.size _ id (.int .i64 1) rfl rfl rfl HG.out.gone hwf ?_; intro w2 hm2 ht2; have hlk2 := hm2.look_some (t := 52) (e := 3) Try.underlying52 (k := id) hwf (v := .int .i64 1) (by rw [mget_mput, if_pos rfl]) false; change (Instr.lookup 52 (.map (some w.heap.size)) (.int .u64 id) false).run Try.prog w2 = .ok (.int .i64 1) w2 at hlk2; have HT2 := Lib.hid ht2; clear ht2 hm2))
          go_ret
          exact GivePost.bad HF.out (by decide) (HG.out.fin HP.out HT2.out)
        | some x =>
          by_cases hxh : x.holder = h
          · have hfin : giveErr L h (ids.drop k) (ids.take k) = giveErr L h (ids.drop (k + 1)) (ids.take (k + 1)) := by rw [HD.out, HT.out]; simp [giveErr, HI.out, he, hxh]
            have HF := Lib.hid hfin
            have HE := Lib.hid he
            have HH := Lib.hid hxh
            clear hfin he hxh
            go_wp2_with (first | (go_at_call 23; refine (of_ok HG.out.pool hwf _ HE.out HH.out).mono ?_; rintro e w' ⟨rfl, rfl⟩) | (at_mapUpdate; refine wpList_mput K30 _ rfl _ _ _ 52 rfl 3 Try.underlying52 w.heap.size _ id (.int .i64 1) rfl rfl rfl HG.out.gone hwf ?_; intro w2 hm2 ht2; have hlk2 := hm2.look_some (t := 52) (e := 3) Try.underlying52 (k := id) hwf (v := .int .i64 1) (by rw [mget_mput, if_pos rfl]) false; change (Instr.lookup 52 (.map (some w.heap.size)) (.int .u64 id) false).run Try.prog w2 = .ok (.int .i64 1) w2 at hlk2; have hm3 : MapIs K30 w2 w.heap.size (ones (ids.take (k + 1))) := (by rw [← HM.out]; exact hm2); have HM2 := Lib.hid hm3; have HT2 := Lib.hid ht2; clear ht2 hm2 hm3))
            go_roundw
            case rel =>
              refine ⟨k + 1, by omega, by go_num, ?_⟩
              have := HG.out.fin HP.out HT2.out
              refine ⟨this.1, this.2, HM2.out, HG.out.err.trans HF.out, fun i hi => ?_⟩
              rw [HT.out] at hi
              rcases List.mem_append.1 hi with hi | hi
              · exact HG.out.ok i hi
              · simp at hi; subst hi; exact ⟨x, HE.out, HH.out⟩
            case measure => simp [intOf]; omega
          · have hfin : giveErr L h ids [] = 3 := by rw [HG.out.err, HD.out]; simp [giveErr, HI.out, he, hxh]
            have HF := Lib.hid hfin
            have HE := Lib.hid he
            clear hfin he
            go_wp2_with (first | (go_at_call 23; refine (of_state HG.out.pool hwf _ HE.out hxh).mono ?_; rintro e w' ⟨rfl, rfl⟩) | (at_mapUpdate; refine wpList_mput K30 _ rfl _ _ _ 52 rfl 3 Try.underlying52 w.heap.size _ id (.int .i64 1) rfl rfl rfl HG.out.gone hwf ?_; intro w2 hm2 ht2; have hlk2 := hm2.look_some (t := 52) (e := 3) Try.underlying52 (k := id) hwf (v := .int .i64 1) (by rw [mget_mput, if_pos rfl]) false; change (Instr.lookup 52 (.map (some w.heap.size)) (.int .u64 id) false).run Try.prog w2 = .ok (.int .i64 1) w2 at hlk2; have HT2 := Lib.hid ht2; clear ht2 hm2))
            go_ret
            exact GivePost.bad HF.out (by decide) (HG.out.fin HP.out HT2.out)
    · obtain rfl : k = ids.length := by omega
      have hgd := hG.err
      rw [List.drop_length] at hgd
      have HE0 : Hid (giveErr L h ids [] = 0) := Lib.hid hgd
      have HG := Lib.hid hG
      clear hgd hG
      have c2 : wr.cell? ⟨p, 2, none⟩ = some (.map (some m)) := HG.out.pool.c2
      go_wp2_with fail
      go_loopw [51] (fun i wx => ∃ k : Nat, k ≤ ids.length ∧ i = .int .i64 k ∧ PoolAt wx p m most last ((ids.take k).foldl edel L) ∧ Off (poolBlks p m L) w wx) (fun i _ => ids.length - (intOf i).toNat)
      case atStart => exact ⟨0, Nat.zero_le _, rfl, HG.out.pool, HG.out.grew.mono fun _ _ h => h.elim⟩
      case round =>
        obtain ⟨k, hk, rfl, hP, hO⟩ := hrel
        have HPP := Lib.hid hP
        have HO := Lib.hid hO
        clear hP hO
        by_cases hlt : k < ids.length
        · obtain ⟨id, hid⟩ : ∃ i, ids[k] = i := ⟨_, rfl⟩
          have hcell : wr.cell? ⟨b, o + k, none⟩ = some (.int .u64 id) := by
            rw [HO.out.cell (p := ⟨b, o + k, none⟩) hbl HB.out, HR.out k hlt, ← hid]
            simp [List.getD_eq_getElem?_getD, List.getElem?_eq_getElem hlt]
          have hwf : (Lit.int .u64 id).wf = true := HW.out id (by rw [← hid]; exact List.getElem_mem hlt)
          have htk := take_snoc_get ids k hlt
          rw [hid] at htk
          have HT := Lib.hid htk
          have c3 := HPP.out.c2
          clear htk hid
          go_wp2_with (at_delete; refine wpList_mdel K30 _ rfl _ _ 55 rfl 59 Try.underlying55 m _ id rfl rfl HPP.out.map hwf ?_; intro w2 hm2 ht2; have HM2 := Lib.hid hm2; have HT2 := Lib.hid ht2; clear hm2 ht2)
          go_roundw
          case rel =>
            refine ⟨k + 1, by omega, by go_num, ?_, HO.out.turned HT2.out (.inl (.inr (.inl rfl)))⟩
            rw [HT.out, List.foldl_append]
            exact pool_del HPP.out HM2.out HT2.out
          case measure => simp [intOf]; omega
        · obtain rfl : k = ids.length := by omega
          go_wp2_with fail
          go_ret
          have hpp := HPP.out
          rw [List.take_length] at hpp
          exact ⟨by rw [HE0.out]; rfl, by rw [HE0.out, if_pos rfl]; exact hpp, HO.out⟩
end Go.Proofs.Ytagdolkfefbohaa
