/- The document's pool: 'Give'. -/
import Derived.Test.YtagdolkfefbohaaRef3
namespace Go.Proofs.Ytagdolkfefbohaa
open Go.RowKit Stv

def rgiveErr (V : List Buf) (h : ByteArray) : List Int → Int
  | [] => 0
  | id :: r => match vget V id with
    | none => 5
    | some x => if x.holder = h then rgiveErr (vdel V id) h r else 3

theorem vdel_uniq {V : List Buf} (hu : (V.map (·.id)).Nodup) (id : Int) : ((vdel V id).map (·.id)).Nodup := ((vdel_sub V id).map _).nodup hu

theorem vget_vdels_mem {V : List Buf} (hu : (V.map (·.id)).Nodup) (seen : List Int) (id : Int) : vget (seen.foldl vdel V) id = if id ∈ seen then none else vget V id := by
  induction seen generalizing V with
  | nil => simp
  | cons i r ih =>
    rw [List.foldl_cons, ih (vdel_uniq hu i)]
    by_cases h1 : id ∈ r
    · simp [h1]
    · rw [if_neg h1]
      by_cases h2 : id = i
      · subst h2; simp [vget_vdel_same hu]
      · rw [vget_vdel h2]; simp [h1, h2]

theorem vget_none_iff {V : List Buf} {id : Int} : vget V id = none ↔ ∀ b ∈ V, b.id ≠ id := by
  induction V with
  | nil => simp [vget]
  | cons c r ih =>
    simp only [vget, List.mem_cons, forall_eq_or_imp]
    by_cases h : c.id = id
    · simp [h]
    · simp [h, ih]

theorem rgive_same {V : List Buf} (hu : (V.map (·.id)).Nodup) (h : ByteArray) : ∀ (ids seen : List Int), rgiveErr (seen.foldl vdel V) h ids = vgiveErr V h ids seen := by
  intro ids
  induction ids with
  | nil => exact fun _ => rfl
  | cons i r ih =>
    intro seen
    simp only [rgiveErr, vgiveErr, vget_vdels_mem hu]
    by_cases h1 : i ∈ seen
    · simp [h1]
    · simp only [if_neg h1]
      cases vget V i with
      | none => rfl
      | some x =>
        simp only
        have := ih (seen ++ [i])
        rw [List.foldl_append] at this
        split
        · exact this
        · rfl

theorem vdel_at {V : List Buf} (hu : (V.map (·.id)).Nodup) {id : Int} : ∀ {i : Nat} (hi : i < V.length), V[i].id = id → vdel V id = V.eraseIdx i := by
  induction V with
  | nil => intro i hi; simp at hi
  | cons c r ih =>
    intro i hi he
    simp only [List.map_cons, List.nodup_cons] at hu
    cases i with
    | zero => simp at he; simp [vdel, he]
    | succ i =>
      simp only [List.getElem_cons_succ] at he
      have hne : c.id ≠ id := fun e => hu.1 (List.mem_map.2 ⟨r[i]'(by simpa using hi), List.getElem_mem _, by rw [he, e]⟩)
      simp only [vdel]
      rw [if_neg hne, ih hu.2 (by simpa using hi) he]
      rfl

theorem flat_erase {V : List Buf} {i : Nat} (hi : i < V.length) : flat (V.eraseIdx i) = (flat V).take (i * 3) ++ (flat V).drop ((i + 1) * 3) := by
  rw [List.eraseIdx_eq_take_drop_succ, flat_append]
  have h1 : flat V = flat (V.take i) ++ flat (V.drop i) := by rw [← flat_append, List.take_append_drop]
  have h2 : flat V = flat (V.take (i + 1)) ++ flat (V.drop (i + 1)) := by rw [← flat_append, List.take_append_drop]
  congr 1
  · rw [h1, List.take_left']
    rw [flat_len, List.length_take]; congr 1; omega
  · rw [h2, List.drop_left']
    rw [flat_len, List.length_take]; congr 1; omega

/-- what 'Give' leaves -/
def RGivePost (w : World) (r : Nat) (most last : Int) (V : List Buf) (h : ByteArray) (ids : List Int) (e : Ending) (w' : World) : Prop :=
  e = .returned (.int .i64 (rgiveErr V h ids)) ∧ (rgiveErr V h ids ≠ 0 → Grew w w') ∧
    (rgiveErr V h ids = 0 → ∃ v', RefAt w' r most last v' (ids.foldl vdel V) ∧ Off (fun k => k = r) w w' ∧ ∀ k, v'.ownBlock = some k → w.heap.size ≤ k)

/-- the outer loop's relation: the row l, what is left to do -/
structure RG (w wr : World) (V : List Buf) (h : ByteArray) (ids : List Int) (k : Nat) (a : Option Addr) (cap : Nat) (Vk : List Buf) : Prop where
  now : Vk = (ids.take k).foldl vdel V
  row : OwnRow wr 42 3 (.slice a Vk.length cap) Vk.length (flat Vk)
  grew : Grew w wr
  new : ∀ b, (Value.slice a Vk.length cap).ownBlock = some b → w.heap.size ≤ b
  err : rgiveErr V h ids = rgiveErr Vk h (ids.drop k)

theorem SrcAt.parts {w : World} {v : Value} {ids : List Int} (h : SrcAt w v ids) : ∃ a cap, v = .slice a ids.length cap ∧ ∀ j (h : j < ids.length), ∃ b o, a = some ⟨b, o, none⟩ ∧ w.cell? ⟨b, o + j, none⟩ = some (.int .u64 ids[j]) := by
  rcases h with ⟨rfl, rfl⟩ | ⟨a, cap, rfl, hc⟩
  · exact ⟨none, 0, rfl, fun j h => by simp at h⟩
  · refine ⟨some a, cap, rfl, fun j hj => ?_⟩
    have h0 := hc 0 (.int .u64 ids[0]) (by simp)
    have hj' := hc j (.int .u64 ids[j]) (by simp)
    obtain ⟨b, o, sp⟩ := a
    have : sp = none := by simpa [Addr.add] using World.cell?_spot h0
    subst this
    have e : (⟨b, o, none⟩ : Addr).add j = ⟨b, o + j, none⟩ := by unfold Addr.add; split <;> simp_all
    rw [e] at hj'
    exact ⟨b, o, rfl, hj'⟩

/-- at a place of a row of buffers -/
theorem row_place {w : World} {a : Option Addr} {cap : Nat} {V : List Buf} (h : OwnRow w 42 3 (.slice a V.length cap) V.length (flat V)) {k : Nat} (hk : k < V.length) : ∃ g, a = some ⟨g, 0, none⟩ ∧ g < w.heap.size ∧ V.length ≤ cap ∧
    w.cell? ⟨g, k * 3, none⟩ = some (.int .u64 V[k].id) ∧ w.cell? ⟨g, k * 3 + 1, none⟩ = some (.string V[k].holder) ∧ ∀ j u, (flat V)[j]? = some u → w.cell? ⟨g, j, none⟩ = some u := by
  obtain ⟨a', cap', hv, hc1, _, hn, hc⟩ := h.form
  simp only [Value.slice.injEq, true_and] at hv
  obtain ⟨rfl, rfl⟩ := hv
  cases a with
  | none => have := (hn rfl).1; omega
  | some b =>
    obtain ⟨g, rfl, hl, _, hcell⟩ := hc b rfl
    have hV : V[k]? = some V[k] := List.getElem?_eq_getElem hk
    exact ⟨g, rfl, hl, hc1, (hcell (k * 3 + 0) _ (flat_get hV 0 (by omega))).1, (hcell (k * 3 + 1) _ (flat_get hV 1 (by omega))).1, fun j u hu => (hcell j u hu).1⟩

set_option maxHeartbeats 2000000 in
set_option maxRecDepth 100000 in
theorem rgive_any {w : World} {r : Nat} {most last : Int} {lv : Value} {V : List Buf} (hr : RefAt w r most last lv V) (hu : (V.map (·.id)).Nodup) (hV : V.length ≤ 100000) (h : ByteArray) {l : Value} {ids : List Int} (hs : SrcAt w l ids) (hlen : ids.length ≤ 9223372036854775807) :
    Calls Try.prog 20 #[.pointer (some ⟨r, 0, none⟩), .string h, l] w (RGivePost w r most last V h ids) := by
  obtain ⟨la, lcap, rfl, hids⟩ := hs.parts
  obtain ⟨v1, w1, hrun, hown, hoff, hblk, _⟩ := app42 (OwnRow.nil w 42 3) hr.row.src (flat_len V) (flat_one V) (by omega)
  rw [Nat.zero_add, List.nil_append] at hown
  obtain ⟨a1, cap1, rfl, _⟩ := hown.form
  have g1 : Grew w w1 := hoff.mono fun _ _ h => nomatch h
  have HG0 : Hid (RG w w1 V h ids 0 a1 cap1 V) := Lib.hid ⟨rfl, hown, g1, fun b hb => (hblk b hb).resolve_left (fun h => nomatch h), rfl⟩
  have HR := Lib.hid hr
  have c2 := hr.c2
  have HRun := Lib.hid hrun
  have HI := Lib.hid hids
  have HU := Lib.hid hu
  clear hrun hown hoff hblk g1 hr hids hs hu
  go_enter Try.func20, Try.ntmps20
  go_wp2_with (at_builtin; refine wpList_append_run rfl (.tmp 12) (.tmp 16) 31 31 rfl rfl (.slice none 0 0) lv _ w1 rfl rfl HRun.out ?_)
  clear c2
  go_loopw [7, 8] (fun l i wr => ∃ (k : Nat) (a : Option Addr) (cap : Nat) (Vk : List Buf), k ≤ ids.length ∧ i = .int .i64 k ∧ l = .slice a Vk.length cap ∧ RG w wr V h ids k a cap Vk) (fun _ i _ => ids.length - (intOf i).toNat)
  case atStart => exact ⟨0, a1, cap1, V, Nat.zero_le _, rfl, rfl, HG0.out⟩
  case round =>
    obtain ⟨k, a, cap, Vk, hk, rfl, rfl, hG⟩ := hrel
    have HG := Lib.hid hG
    clear hG HG0 HRun
    by_cases hlt : k < ids.length
    · obtain ⟨b, o, rfl, hc⟩ := HI.out k hlt
      have hc' : wr.cell? ⟨b, o + k, none⟩ = some (.int .u64 ids[k]) := by rw [HG.out.grew.cell (World.block_lt_of_cell? _ _ hc) fun h => h]; exact hc
      obtain ⟨id, hid⟩ : ∃ x, x = ids[k] := ⟨_, rfl⟩
      rw [← hid] at hc'
      have HID := Lib.hid hid
      have hVk : Vk.length ≤ 100000 := by
        have := (vdels_sub (ids.take k) V).length_le
        rw [← HG.out.now] at this; omega
      clear hc hid
      obtain ⟨wo, hwo⟩ : ∃ wo : World, wo = wr := ⟨_, rfl⟩
      subst hwo
      have HCI := Lib.hid hc'
      clear hc'
      obtain ⟨ra, hra⟩ : ∃ x, x = a := ⟨_, rfl⟩
      have HRA := Lib.hid hra
      clear hra
      go_wp2_with fail
      go_loopw [9, 10] (fun at_ j wr => ∃ (m : Nat) (x : Int), m ≤ Vk.length ∧ j = .int .i64 m ∧ at_ = .int .i64 x ∧ Grew wo wr ∧ Hid ((x = -1 ∧ ∀ i (hi : i < Vk.length), i < m → Vk[i].id ≠ id) ∨ (∃ i, ∃ hi : i < Vk.length, i < m ∧ x = (i : Int) ∧ Vk[i].id = id))) (fun _ j _ => Vk.length - (intOf j).toNat)
      case atStart => exact ⟨0, -1, Nat.zero_le _, rfl, rfl, Off.refl _ _, .inl ⟨rfl, fun i _ hi => by omega⟩⟩
      case round =>
        obtain ⟨m, x, hm, rfl, rfl, hg, hx⟩ := hrel
        have HGr := Lib.hid hg
        clear hg
        have hrow : OwnRow wr 42 3 (.slice a Vk.length cap) Vk.length (flat Vk) := HG.out.row.off HGr.out fun _ _ h => h
        have HRow := Lib.hid hrow
        clear hrow
        have hcid : wr.cell? ⟨b, o + k, none⟩ = some (.int .u64 id) := by rw [HGr.out.cell (World.block_lt_of_cell? _ _ HCI.out) fun h => h]; exact HCI.out
        have HX := Lib.hid hx.out
        clear hx
        by_cases hmt : m < Vk.length
        · obtain ⟨g, rfl, hgl, hcap, e0, e1, _⟩ := row_place HRow.out hmt
          obtain ⟨y, hy⟩ : ∃ y, y = Vk[m].id := ⟨_, rfl⟩
          rw [← hy] at e0
          have HY := Lib.hid hy
          clear e1 hy
          by_cases hyi : y = id
          · have hb : (y == id) = true := beq_iff_eq.2 hyi
            have HE := Lib.hid hyi
            clear hyi
            go_wp2_with fail
            go_quiet (fail)
            go_wp2_with fail
            go_roundw
            case rel => exact ⟨m + 1, (m : Int), by omega, by go_num, rfl, HGr.out.drewN _, .inr ⟨m, hmt, by omega, rfl, HY.out.symm.trans HE.out⟩⟩
            case measure => simp [intOf]; omega
          · have hb : (y == id) = false := beq_eq_false_iff_ne.2 hyi
            have HE := Lib.hid hyi
            clear hyi
            go_wp2_with fail
            go_quiet (fail)
            go_wp2_with fail
            go_roundw
            case rel =>
              refine ⟨m + 1, x, by omega, by go_num, rfl, HGr.out.drewN _, ?_⟩
              rcases HX.out with ⟨h1, h2⟩ | ⟨i, hi, h1, h2, h3⟩
              · refine .inl ⟨h1, fun i hi him => ?_⟩
                by_cases him2 : i < m
                · exact h2 i hi him2
                · obtain rfl : i = m := by omega
                  rw [← HY.out]; exact HE.out
              · exact .inr ⟨i, hi, by omega, h2, h3⟩
            case measure => simp [intOf]; omega
        · obtain rfl : m = Vk.length := by omega
          rcases HX.out with ⟨rfl, hno⟩ | ⟨i, hi, _, rfl, hat⟩
          · have hfin : rgiveErr V h ids = 5 := by
              rw [HG.out.err, List.drop_eq_getElem_cons hlt, ← HID.out]
              simp [rgiveErr, vget_none_of fun j hj => hno j hj hj]
            have HF := Lib.hid hfin
            clear hno hfin HX
            go_wp2_with fail
            go_ret
            exact ⟨by rw [HF.out]; rfl, fun _ => HG.out.grew.trans HGr.out, fun h0 => by rw [HF.out] at h0; cases h0⟩
          · have huk : (Vk.map (·.id)).Nodup := by rw [HG.out.now]; exact ((vdels_sub _ V).map _).nodup HU.out
            have hget : vget Vk id = some Vk[i] := by
              rcases vidx_cases Vk id with ⟨_, hg⟩ | ⟨i', hi', _, hg, hid', _⟩
              · exact absurd hat (by
                  intro hat
                  have := vget_none_iff.1 hg Vk[i] (List.getElem_mem hi)
                  exact this hat)
              · have : i' = i := (List.getElem_inj (h₀ := by simpa using hi') (h₁ := by simpa using hi) huk).1 (by simp [hat, hid'])
                subst this; exact hg
            obtain ⟨g, rfl, hgl, hcap, e0, e1, hcells⟩ := row_place HRow.out hi
            obtain ⟨y, hy⟩ : ∃ y, y = Vk[i].holder := ⟨_, rfl⟩
            rw [← hy] at e1
            have HY := Lib.hid hy
            have HGet := Lib.hid hget
            have HCells := Lib.hid hcells
            have HUk := Lib.hid huk
            have HAt := Lib.hid hat
            clear hy hget hcells huk hat e0 HX
            by_cases hyh : y = h
            · have hs := str_yes hyh
              have HE := Lib.hid hyh
              clear hyh
              have hfl := flat_len Vk
              obtain ⟨v2, w2, hrun2, hown2, hoff2, hblk2, _⟩ := app42 (w := wr) (OwnRow.nil wr 42 3) (sv := .slice (some ⟨g, 0, none⟩) i cap) (m := i) (news := (flat Vk).take (i * 3))
                (.inr ⟨_, cap, rfl, fun j u hu => by
                  have hadd : (⟨g, 0, none⟩ : Addr).add j = ⟨g, j, none⟩ := by unfold Addr.add; split <;> simp_all
                  rw [hadd]
                  refine HCells.out j u ?_
                  rw [List.getElem?_take] at hu
                  split at hu
                  · exact hu
                  · cases hu⟩) (by rw [List.length_take]; omega) (fun u hu => flat_one Vk u (List.mem_of_mem_take hu)) (by omega)
              rw [Nat.zero_add, List.nil_append] at hown2
              obtain ⟨a2, cap2, rfl, _⟩ := hown2.form
              have g2 : Grew wr w2 := hoff2.mono fun _ _ h => nomatch h
              have hsrc : ∀ j u, ((flat Vk).drop ((i + 1) * 3))[j]? = some u → w2.cell? ⟨g, (i + 1) * 3 + j, none⟩ = some u := fun j u hu => by
                rw [List.getElem?_drop] at hu
                have := HCells.out _ u hu
                rw [g2.cell (World.block_lt_of_cell? _ _ this) fun h => h]
                exact this
              obtain ⟨sv, hsv, hsrc2⟩ : ∃ sv, sv = (if i + 1 = cap then .slice (some ⟨g, 0, none⟩) (Vk.length - (i + 1)) (cap - (i + 1)) else .slice (some ⟨g, (i + 1) * 3, none⟩) (Vk.length - (i + 1)) (cap - (i + 1))) ∧ SrcRow w2 sv (Vk.length - (i + 1)) ((flat Vk).drop ((i + 1) * 3)) := by
                refine ⟨_, rfl, ?_⟩
                by_cases hc : i + 1 = cap
                · rw [if_pos hc]
                  refine .inr ⟨_, _, rfl, fun j u hu => ?_⟩
                  have : (flat Vk).drop ((i + 1) * 3) = [] := List.drop_eq_nil_of_le (by omega)
                  rw [this] at hu; simp at hu
                · rw [if_neg hc]
                  refine .inr ⟨_, _, rfl, fun j u hu => ?_⟩
                  have hadd : (⟨g, (i + 1) * 3, none⟩ : Addr).add j = ⟨g, (i + 1) * 3 + j, none⟩ := by unfold Addr.add; split <;> simp_all
                  rw [hadd]; exact hsrc j u hu
              obtain ⟨v3, w3, hrun3, hown3, hoff3, hblk3, _⟩ := app42 hown2 hsrc2 (by rw [List.length_drop]; omega) (fun u hu => flat_one Vk u (List.mem_of_mem_drop hu)) (by omega)
              have HR2 := Lib.hid hrun2
              have HR3 := Lib.hid hrun3
              have HO3 := Lib.hid hown3
              have HF3 := Lib.hid hoff3
              have HB3 := Lib.hid hblk3
              have HB2 := Lib.hid hblk2
              have HG2 := Lib.hid g2
              have HS := Lib.hid hsv
              clear hrun2 hrun3 hown2 hown3 hoff2 hoff3 hblk2 hblk3 g2 hsrc hsrc2 hfl hsv
              have hrel : ∃ a' cap' Vk', v3 = .slice a' Vk'.length cap' ∧ RG w w3 V h ids (k + 1) a' cap' Vk' := by
                have hde := vdel_at HUk.out hi HAt.out
                have hle : i + (Vk.length - (i + 1)) = (vdel Vk id).length := by rw [hde, List.length_eraseIdx_of_lt hi]; omega
                obtain ⟨a3, cap3, rfl, _⟩ := HO3.out.form
                have ho3 := HO3.out
                rw [hle, ← flat_erase hi, ← hde] at ho3
                refine ⟨a3, cap3, vdel Vk id, by rw [hle], ?_, ?_, ?_, ?_, ?_⟩
                · rw [List.take_succ_eq_append_getElem hlt, List.foldl_append, ← HG.out.now, ← HID.out]; rfl
                · exact ho3
                · refine ((HG.out.grew.trans HGr.out).trans HG2.out).next HF3.out fun b hb => .inr ?_
                  have h1 := (HB2.out b hb).resolve_left (fun h => nomatch h)
                  have h2 := (HG.out.grew.trans HGr.out).size
                  omega
                · intro b hb
                  have h2 := ((HG.out.grew.trans HGr.out).trans HG2.out).size
                  rcases HB3.out b (by rw [hle]; exact hb) with h1 | h1
                  · have h3 := (HB2.out b h1).resolve_left (fun h => nomatch h)
                    have h4 := (HG.out.grew.trans HGr.out).size
                    omega
                  · omega
                · rw [HG.out.err, List.drop_eq_getElem_cons hlt, ← HID.out]
                  simp only [rgiveErr, HGet.out]
                  rw [if_pos (by rw [← HY.out]; exact HE.out)]
              have HRel := Lib.hid hrel
              clear hrel
              by_cases hcc : i + 1 = cap
              · obtain rfl : cap = i + 1 := hcc.symm
                have hsv2 : sv = .slice (some ⟨g, 0, none⟩) 0 0 := by rw [HS.out, if_pos rfl, Nat.sub_self, show Vk.length - (i + 1) = 0 by omega]
                subst hsv2
                clear hcc
                go_wp2_with (first | (at_builtin; refine wpList_append_run rfl (.tmp 50) (.tmp 53) 31 31 rfl rfl (.slice none 0 0) (.slice (some ⟨g, 0, none⟩) i (i + 1)) _ w2 rfl rfl HR2.out ?_) | (at_builtin; refine wpList_append_run rfl (.tmp 55) (.tmp 59) 31 31 rfl rfl _ (.slice (some ⟨g, 0, none⟩) 0 0) v3 w3 rfl rfl HR3.out ?_))
                obtain ⟨a', cap', Vk', h1, h2⟩ := HRel.out
                exact ⟨⟨k + 1, a', cap', Vk', by omega, by go_num, h1, h2⟩, by simp [intOf]; omega⟩
              · have hsv2 : sv = .slice (some ⟨g, (i + 1) * 3, none⟩) (Vk.length - (i + 1)) (cap - (i + 1)) := by rw [HS.out, if_neg hcc]
                subst hsv2
                go_wp2_with (first | (at_builtin; refine wpList_append_run rfl (.tmp 50) (.tmp 53) 31 31 rfl rfl (.slice none 0 0) (.slice (some ⟨g, 0, none⟩) i cap) _ w2 rfl rfl HR2.out ?_) | (at_builtin; refine wpList_append_run rfl (.tmp 55) (.tmp 59) 31 31 rfl rfl _ (.slice (some ⟨g, (i + 1) * 3, none⟩) (Vk.length - (i + 1)) (cap - (i + 1))) v3 w3 rfl rfl HR3.out ?_))
                obtain ⟨a', cap', Vk', h1, h2⟩ := HRel.out
                exact ⟨⟨k + 1, a', cap', Vk', by omega, by go_num, h1, h2⟩, by simp [intOf]; omega⟩
            · have hs := str_no hyh
              have hfin : rgiveErr V h ids = 3 := by
                rw [HG.out.err, List.drop_eq_getElem_cons hlt, ← HID.out]
                simp only [rgiveErr, HGet.out]
                rw [if_neg (by rw [← HY.out]; exact hyh)]
              have HF := Lib.hid hfin
              clear hyh hfin
              go_wp2_with fail
              go_ret
              exact ⟨by rw [HF.out]; rfl, fun _ => HG.out.grew.trans HGr.out, fun h0 => by rw [HF.out] at h0; cases h0⟩
    · obtain rfl : k = ids.length := by omega
      have hnow := HG.out.now
      rw [List.take_length] at hnow
      have herr := HG.out.err
      rw [List.drop_length] at herr
      have HE : Hid (rgiveErr V h ids = 0) := Lib.hid herr
      have HN := Lib.hid hnow
      have c2 : wr.cell? ⟨r, 2, none⟩ = some lv := by rw [HG.out.grew.cell (p := ⟨r, 2, none⟩) HR.out.lt fun h => h]; exact HR.out.c2
      have f2 : wr.frozen? ⟨r, 2, none⟩ = false := by rw [HG.out.grew.frozen (p := ⟨r, 2, none⟩) HR.out.lt fun h => h]; exact HR.out.f 2
      clear hnow herr
      go_wp2_with fail
      go_ret
      refine ⟨by rw [HE.out]; rfl, fun h0 => absurd HE.out h0, fun _ => ⟨.slice a Vk.length cap, ?_, ?_, HG.out.new⟩⟩
      · have hrb : ∀ b, (Value.slice a Vk.length cap).ownBlock = some b → b ≠ r := fun b hb e => by
          have h1 := HG.out.new b hb
          have h2 := HR.out.lt
          omega
        refine ⟨?_, ?_⟩
        · have : wr.heap[r]? = w.heap[r]? := HG.out.grew.block r HR.out.lt fun h => h
          simp only [World.setCell, Array.getElem?_modify, if_true, this, HR.out.self]
          simp
        · rw [← HN.out]
          exact HG.out.row.off (Off.setCell (p := ⟨r, 2, none⟩) (Off.refl (fun k => k = r) wr) (.inl rfl) _) hrb
      · exact Off.setCell (S := fun k => k = r) (p := ⟨r, 2, none⟩) (HG.out.grew.mono fun _ _ h => h.elim) (.inl rfl) _

theorem rgives {w : World} {r : Nat} {most : Int} {s : PS} {S : Nat → Prop} (h : RefIs w r most s S) (hf : s.Fit most) (hm : most ≤ 4096) (ho : ByteArray) {l : Value} {ids : List Int} (hs : SrcAt w l ids) (hlen : ids.length ≤ 9223372036854775807) :
    Calls Try.prog 20 #[.pointer (some ⟨r, 0, none⟩), .string ho, l] w fun e w' => e = .returned (.int .i64 (psGive s ho ids).1) ∧ RefTo w r most (psGive s ho ids).2 S w' := by
  obtain ⟨lv, hp, hS, hlt⟩ := h
  have hh : RefIs w r most s S := ⟨lv, hp, hS, hlt⟩
  have hV := hf.len
  unfold psGive
  have hsame := rgive_same hf.uniq ho ids []
  rw [List.foldl_nil] at hsame
  rw [← hsame]
  refine (rgive_any hp hf.uniq (by omega) ho hs hlen).mono fun e w' ⟨he, h1, h2⟩ => ⟨he, ?_⟩
  by_cases h0 : rgiveErr s.V ho ids = 0
  · rw [if_pos h0]
    obtain ⟨v', hr', hoff, hnew⟩ := h2 h0
    refine ⟨refBlks r v', ⟨v', hr', fun _ h => h, ?_⟩, ?_, hoff.mono fun k _ hk => hS k (.inl hk)⟩
    · intro k hk
      rcases hk with rfl | hk
      · exact hr'.lt
      · exact hr'.row.lt hk
    · intro k hk
      rcases hk with hk | hk
      · exact .inl (hS k (.inl hk))
      · exact .inr (hnew k hk)
  · rw [if_neg h0]
    exact hh.grew (h1 h0)
end Go.Proofs.Ytagdolkfefbohaa
