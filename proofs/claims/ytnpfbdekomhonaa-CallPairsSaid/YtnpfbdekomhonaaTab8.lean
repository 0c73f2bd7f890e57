/- 'Listen' and 'New' of the table. -/
import Derived.Test.YtnpfbdekomhonaaTab6
namespace Go.Proofs.Ytnpfbdekomhonaa
open Go.RowKit Stv

section
variable {w : World} {t fm sm pp pm : Nat} {ownv : Value} {most last : Int} {own : List Int} {F : List (Int × FileV)} {L : List (Int × (Nat × DeskV))} {P : List (Int × Bnd)}

def listenErr (d : DeskV) : Int := askErr [⟨38, #[], cond (d.proto == 2) 2⟩, ⟨39, #[], cond (d.is != 3) 292⟩, ⟨40, #[], cond (d.is != 0) 294⟩]
def qs : Obj := .cells #[.func (.func 38) #[] #[], .func (.func 39) #[] #[], .func (.func 40) #[] #[]] 88

theorem listen_asks (h : TabAt w t fm sm pp pm ownv most last own F L P) {fd : Int} (hfd : (Lit.int .i64 fd).wf = true) {f : FileV} (hf : mget F fd = some f) (hk : f.kind = 1) (hid : (Lit.int .u64 f.id).wf = true) {b : Nat} {d : DeskV} (hb : mget L f.id = some (b, d)) :
    Calls Try.prog 29 #[.pointer (some ⟨t, 0, none⟩), .int .i64 fd, .slice (some ⟨w.heap.size, 0, none⟩) 3 3] (w.alloc qs) (AskPost (w.alloc qs) f.id b (listenErr d)) := by
  have h2 : (w.alloc qs).heap[w.heap.size]? = some (.cells #[.func (.func 38) #[] #[], .func (.func 39) #[] #[], .func (.func 40) #[] #[]] 88 (0, 0)) := (MapKept.heap_alloc w qs).1
  have hT := h.grew (grew_alloc w qs)
  refine (asks_ok hT hfd hf hk hid hb (l := [⟨38, #[], cond (d.proto == 2) 2⟩, ⟨39, #[], cond (d.is != 3) 292⟩, ⟨40, #[], cond (d.is != 0) 294⟩]) (q := w.heap.size) (n := 3) (cap := 3) rfl (by simp) ?_ ?_ ?_)
  · intro i hi
    match i, hi with
    | 0, _ => exact cell_of h2 0
    | 1, _ => exact cell_of h2 1
    | 2, _ => exact cell_of h2 2
  · intro a ha
    simp only [List.mem_cons, List.not_mem_nil, or_false] at ha
    rcases ha with rfl | rfl | rfl
    · exact enters_of Try.func38 (by kernel_rfl) rfl
    · exact enters_of Try.func39 (by kernel_rfl) rfl
    · exact enters_of Try.func40 (by kernel_rfl) rfl
  · intro a ha w' hg'
    have hT' := hT.grew hg'
    simp only [List.mem_cons, List.not_mem_nil, or_false] at ha
    rcases ha with rfl | rfl | rfl
    · exact q_tcp (hT'.desks _ (mget_mem hb))
    · exact q_nopair (hT'.desks _ (mget_mem hb))
    · exact q_bound (hT'.desks _ (mget_mem hb))

theorem cells_set' {w : World} {b : Nat} {c : Array Value} {t : TypeId} (h : w.heap[b]? = some (.cells c t (0, 0))) (i : Nat) (v : Value) : (w.setCell ⟨b, i, none⟩ v).heap[b]? = some (.cells (c.setIfInBounds i v) t (0, 0)) := by
  simp only [World.setCell, Array.getElem?_modify, if_true, h, Option.map_some, Option.isSome_none, Bool.false_eq_true, if_false]

def ListenPost (w : World) (t fm sm pp pm : Nat) (ownv : Value) (most last : Int) (own : List Int) (F : List (Int × FileV)) (L : List (Int × (Nat × DeskV))) (P : List (Int × Bnd)) (id : Int) (b : Nat) (d : DeskV) (e : Ending) (w' : World) : Prop :=
  e = .returned (.int .i64 (listenErr d)) ∧ TabAt w' t fm sm pp pm ownv most last own F (if listenErr d = 0 then mput L id (b, { d with is := 2 }) else L) P ∧ Off (fun k => k = b) w w'

set_option maxRecDepth 100000 in
set_option maxHeartbeats 2000000 in
theorem listen_any (h : TabAt w t fm sm pp pm ownv most last own F L P) {fd : Int} (hfd : (Lit.int .i64 fd).wf = true) {f : FileV} (hf : mget F fd = some f) (hk : f.kind = 1) (hid : (Lit.int .u64 f.id).wf = true) {b : Nat} {d : DeskV} (hb : mget L f.id = some (b, d)) :
    Calls Try.prog 13 #[.pointer (some ⟨t, 0, none⟩), .int .i64 fd] w (ListenPost w t fm sm pp pm ownv most last own F L P f.id b d) := by
  have hAsk := listen_asks h hfd hf hk hid hb
  have HAsk := Lib.hid hAsk
  have H := Lib.hid h
  have HB := Lib.hid hb
  by_cases hc : listenErr d = 0
  · rw [hc] at HAsk
    have HC := Lib.hid hc
    clear h hf hb hAsk hc
    go_enter Try.func13, Try.ntmps13
    go_wp2_with fail
    refine HAsk.out.mono ?_
    rintro e w1 ⟨he, hg1⟩
    rw [if_pos rfl] at he
    subst he
    have HG1 := Lib.hid ((grew_alloc w qs).trans hg1)
    have HT1 := Lib.hid (H.out.grew HG1.out)
    have hd := HT1.out.desks _ (mget_mem HB.out)
    have HD := Lib.hid hd
    simp only [DeskV.cells] at hd
    have d1 : w1.cell? ⟨b, 1, none⟩ = some (.int .u8 d.is) := cell_of hd 1
    have f1 := frozen_of hd 1
    clear hg1 hd
    go_wp2_with fail
    go_ret
    have ho : Off (fun k => k = b) w1 (w1.setCell ⟨b, 1, none⟩ (.int .u8 2)) := (Off.refl (fun k => k = b) w1).setCell (p := ⟨b, 1, none⟩) (.inl rfl) _
    refine ⟨by rw [HC.out]; rfl, ?_, (HG1.out.mono fun _ _ h => h.elim).trans ho⟩
    rw [HC.out, if_pos rfl]
    refine HT1.out.setDesk HB.out ho ?_
    have h5 := cells_set' HD.out 1 (.int .u8 2)
    have e : d.cells.setIfInBounds 1 (.int .u8 2) = { d with is := 2 : DeskV }.cells := by simp [DeskV.cells]
    rw [e] at h5
    exact h5
  · obtain ⟨c, hcc⟩ : ∃ c, listenErr d = c := ⟨_, rfl⟩
    rw [hcc] at HAsk hc
    have HCC := Lib.hid hcc
    have HC := Lib.hid hc
    have hb1 : (c == 0) = false := beq_eq_false_iff_ne.2 hc
    have hb2 : (c != 0) = true := by rw [bne, hb1]; rfl
    clear h hf hb hAsk hc hcc
    go_enter Try.func13, Try.ntmps13
    go_wp2_with fail
    refine HAsk.out.mono ?_
    rintro e w1 ⟨he, hg1⟩
    rw [if_neg HC.out] at he
    subst he
    have HG1 := Lib.hid ((grew_alloc w qs).trans hg1)
    clear hg1
    go_wp2_with fail
    go_ret
    refine ⟨by rw [HCC.out]; rfl, ?_, HG1.out.mono fun _ _ h => h.elim⟩
    rw [HCC.out, if_neg HC.out]
    exact H.out.grew HG1.out
end

/-! ### New -/
theorem own_lit {w : World} {g : Nat} {l : List Int} (h : w.heap[g]? = some (.cells (l.map (Value.int .u32)).toArray 22 (0, 0))) (hl : l.length ≤ maxLen) : OwnRow w 22 1 (.slice (some ⟨g, 0, none⟩) l.length l.length) l.length (l.map (Value.int .u32)) := by
  refine ⟨by simp, .inr ⟨g, l.length, _, rfl, Nat.zero_le _, h, Nat.le_refl _, hl, by simp, ?_⟩⟩
  simp
  exact List.take_of_length_le (by simp)

theorem info22 : (Try.prog.info? 22).map (fun i => (i.zero, i.size, i.bytes)) = some (some (.int .u32 0), 1, 4) := by kernel_rfl

def ClonePost (w : World) (own : List Int) (e : Ending) (w' : World) : Prop := ∃ v, e = .returned v ∧ OwnRow w' 22 1 v own.length (own.map (Value.int .u32)) ∧ Grew w w' ∧ ∀ k, v.ownBlock = some k → w.heap.size ≤ k

set_option maxRecDepth 100000 in
set_option maxHeartbeats 2000000 in
theorem clone_any {w : World} {a : Addr} {n cap : Nat} {own : List Int} (hn : n = own.length) (h : OwnRow w 22 1 (.slice (some a) n cap) own.length (own.map (Value.int .u32))) (hl : own.length ≤ 1000000) :
    Calls Try.prog 26 #[.slice (some a) n cap] w (ClonePost w own) := by
  subst hn
  obtain ⟨i0, hi, hz0, hz1, hz2⟩ := info_parts info22
  have h0 : OwnRow (w.alloc (.cells #[] 22)) 22 1 (.slice (some ⟨w.heap.size, 0, none⟩) 0 0) 0 [] :=
    ⟨by simp, .inr ⟨w.heap.size, 0, _, rfl, Nat.zero_le _, (MapKept.heap_alloc w _).1, Nat.le_refl _, Nat.zero_le _, by simp, by simp⟩⟩
  obtain ⟨v', w2, hrun, hown, ho, hb, _⟩ := run_append_row (P := Try.prog) 72 72 Try.underlying72 hi hz0 hz1 hz2 rfl (by decide) h0 ((h.src).grew (grew_alloc w (.cells #[] 22))) (by simp) (fun u hu => by obtain ⟨x, _, rfl⟩ := List.mem_map.1 hu; rfl) (by unfold maxLen; omega) (by omega)
  rw [Nat.zero_add, List.nil_append] at hown
  have HRun := Lib.hid hrun
  have HF : Hid (OwnRow w2 22 1 v' own.length (own.map (Value.int .u32)) ∧ Grew w w2 ∧ ∀ k, v'.ownBlock = some k → w.heap.size ≤ k) := by
    refine Lib.hid ⟨hown, (grew_alloc w _).next ho fun i hi => .inr (by cases hi; exact Nat.le_refl _), fun k hk => ?_⟩
    rcases hb k hk with h | h
    · cases h; exact Nat.le_refl _
    · simp at h; omega
  have he : ∀ w : World, (binOp .eql 72 (.slice (some a) own.length cap) (.slice none 0 0)).run Try.prog w = .ok (.bool false) w := fun _ => rfl
  clear h h0 hrun hown ho hb
  go_enter Try.func26, Try.ntmps26
  go_wp2_with (at_builtin; refine wpList_append_run rfl (.tmp 5) (.tmp 6) 72 72 rfl rfl (.slice (some ⟨w.heap.size, 0, none⟩) 0 0) (.slice (some a) own.length cap) v' w2 rfl rfl HRun.out ?_)
  go_ret
  exact ⟨_, rfl, HF.out.1, HF.out.2.1, HF.out.2.2⟩

theorem pnew_any (w : World) : Calls Try.prog 27 #[] w fun e w' => e = .returned (.pointer (some ⟨w.heap.size + 1, 0, none⟩)) ∧ PortsAt w' (w.heap.size + 1) w.heap.size [] ∧ Grew w w' ∧ w'.heap.size = w.heap.size + 2 := by
  have hmm := @run_makeMap Try.prog
  go_enter Try.func27, Try.ntmps27
  go_wp2
  go_ret
  refine ⟨rfl, ⟨?_, ?_⟩, (grew_alloc _ _).alloc _, by simp⟩
  · have := (MapKept.heap_alloc (w.alloc (.map #[] 0)) (.cells #[.map (some w.heap.size)] 111)).1
    simpa only [World.size_alloc] using this
  · exact (MapIs.made KU w).of_block (Below.heap_alloc _ _ _ (by simp))

/-- what 'New' leaves -/
def NewPost (w : World) (n : Int) (own : List Int) (e : Ending) (w' : World) : Prop :=
  ∃ t fm sm pp pm v, e = .returned (.tuple #[.pointer (some ⟨t, 0, none⟩), .int .i64 0]) ∧ TabAt w' t fm sm pp pm v n 0 own [] [] [] ∧ Grew w w' ∧ ∀ k, tabBlks t fm sm pp pm v [] k → w.heap.size ≤ k

set_option maxRecDepth 100000 in
set_option maxHeartbeats 2000000 in
theorem new_ok {w : World} {n : Int} (h1 : 1 ≤ n) (h2 : n ≤ 64) {a : Addr} {m cap : Nat} {own : List Int} (hm : m = own.length) (h : OwnRow w 22 1 (.slice (some a) m cap) own.length (own.map (Value.int .u32))) (hl : own.length ≤ 1000) (h0 : own.any (· == 0) = false) :
    Calls Try.prog 7 #[.int .i64 n, .slice (some a) m cap] w (NewPost w n own) := by
  subst hm
  have hcon := contains_any h (by omega) 0
  rw [h0] at hcon
  have HCon := Lib.hid hcon
  have HCl := Lib.hid (clone_any rfl h (by omega))
  have hmm := @run_makeMap Try.prog
  have n1 : ¬ n < 1 := by omega
  have n2 : ¬ 64 < n := by omega
  clear h hcon h0
  go_enter Try.func7, Try.ntmps7
  go_wp2_with fail
  refine HCon.out.mono ?_
  rintro e w' ⟨rfl, rfl⟩
  go_wp2_with fail
  refine HCl.out.mono ?_
  rintro e w1 ⟨v, rfl, hown, hg, hb⟩
  have HG1 := Lib.hid hg
  have HOwn := Lib.hid (And.intro hown hb)
  obtain ⟨va, vc, rfl, _⟩ := hown.form
  clear hg hown hb
  go_wp2_with fail
  refine (pnew_any _).mono ?_
  rintro e w2 ⟨rfl, hp, hg2, hs2⟩
  have HP := Lib.hid hp
  have HG2 := Lib.hid hg2
  have HS2 := Lib.hid hs2
  clear hp hg2 hs2
  go_wp2_with fail
  go_ret2
  have e2 : ((w1.alloc (.map #[] 0)).alloc (.map #[] 0)).heap.size = w1.heap.size + 2 := by simp
  have hs2 := HS2.out
  have hp := HP.out
  have hg2 := HG2.out
  rw [e2] at hs2 hp
  have hga : Grew ((w1.alloc (.map #[] 0)).alloc (.map #[] 0)) (w2.alloc (.cells #[.int .i64 n, .slice va own.length vc, .map (some w1.heap.size), .map (some (w1.heap.size + 1)), .pointer (some ⟨w1.heap.size + 1 + 1 + 1, 0, none⟩), .int .u64 0] 80)) := hg2.alloc _
  have hgb : Grew w1 (w2.alloc (.cells #[.int .i64 n, .slice va own.length vc, .map (some w1.heap.size), .map (some (w1.heap.size + 1)), .pointer (some ⟨w1.heap.size + 1 + 1 + 1, 0, none⟩), .int .u64 0] 80)) := ((grew_alloc w1 _).alloc _).trans hga
  have hs1 := HG1.out.size
  have f1 : MapIs KI ((w1.alloc (.map #[] 0)).alloc (.map #[] 0)) w1.heap.size [] := (MapIs.made KI w1).of_block (Below.heap_alloc _ _ _ (by simp))
  have f2 : MapIs KU ((w1.alloc (.map #[] 0)).alloc (.map #[] 0)) (w1.heap.size + 1) [] := by
    have := MapIs.made KU (w1.alloc (.map #[] 0))
    rwa [World.size_alloc] at this
  refine ⟨w2.heap.size, w1.heap.size, w1.heap.size + 1, w1.heap.size + 1 + 1 + 1, w1.heap.size + 2, .slice va own.length vc, rfl, ⟨(MapKept.heap_alloc w2 _).1, HOwn.out.1.off hgb fun _ _ h => h, hga.map f1 fun h => h, hga.map f2 fun h => h, ?_, by simp, by simp, ?_⟩, HG1.out.trans hgb, ?_⟩
  · have := hp.off (grew_alloc w2 (.cells #[.int .i64 n, .slice va own.length vc, .map (some w1.heap.size), .map (some (w1.heap.size + 1)), .pointer (some ⟨w1.heap.size + 1 + 1 + 1, 0, none⟩), .int .u64 0] 80)) (fun h => h) fun h => h
    exact this
  · omega
  · intro k hk
    rcases hk with rfl | rfl | rfl | rfl | rfl | hk | ⟨e, he, _⟩
    · omega
    · omega
    · omega
    · omega
    · omega
    · exact HOwn.out.2 k hk
    · cases he
end Go.Proofs.Ytnpfbdekomhonaa
