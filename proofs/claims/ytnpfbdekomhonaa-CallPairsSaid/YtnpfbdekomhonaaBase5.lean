/- a range over a map that lies still: which keys have come. -/
import Derived.Test.YtnpfbdekomhonaaBase4
import Derived.Maps.RangeWalk
import Derived.RangeFuncSeq
namespace Stv
open Go Go.RowKit Go.ChangeMaps Go.MapKept

section
variable {P : Program} {kt : TypeId} {κ : Type} {C : KeyC P kt κ} {w : World} {b r : Nat} {l : List (κ × Value)} {done : List κ}

/-- BLOCK r OF w RANGES OVER THE MAP b, WHOSE ENTRIES ARE l; done: the keys that have come. -/
def Ranging (C : KeyC P kt κ) (w : World) (b r : Nat) (l : List (κ × Value)) (done : List κ) : Prop :=
  ∃ es clock since seen c0, w.heap[b]? = some (.map es clock) ∧ Stamped es clock ∧ es.toList.map (fun e => (e.key, e.val)) = l.map (fun p => (C.enc p.1, p.2)) ∧ (∀ p ∈ l, C.ok p.1) ∧
    w.heap[r]? = some (.mapIter (some b) since seen c0) ∧ (∀ x ∈ es.toList, x.born < since) ∧ since ≤ c0 ∧ since ≤ clock ∧
    (∀ x ∈ es.toList, seen.contains x.born = true ↔ ∃ k ∈ done, x.key = C.enc k) ∧ done.Nodup ∧ (∀ k ∈ done, k ∈ l.map (·.1)) ∧ seen.size = done.length

/-- how many have come, read off the world: for a loop's measure -/
def seenAt (w : World) (r : Nat) : Nat := match w.heap[r]? with
  | some (.mapIter _ _ seen _) => seen.size
  | _ => 0

theorem Ranging.map (h : Ranging C w b r l done) : MapIs C w b l := by
  obtain ⟨es, clock, since, seen, c0, hb, hs, hl, hk, _⟩ := h
  exact ⟨es, clock, hb, hs, hl, hk⟩
theorem Ranging.nodup (h : Ranging C w b r l done) : done.Nodup := by
  obtain ⟨es, clock, since, seen, c0, hb, hs, hl, hk, hr, h1, h2, h3, h4, h5, h6⟩ := h
  exact h5
theorem Ranging.sub (h : Ranging C w b r l done) : ∀ k ∈ done, k ∈ l.map (·.1) := by
  obtain ⟨es, clock, since, seen, c0, hb, hs, hl, hk, hr, h1, h2, h3, h4, h5, h6, h7⟩ := h
  exact h6
theorem Ranging.seen (h : Ranging C w b r l done) : seenAt w r = done.length := by
  obtain ⟨es, clock, since, seen, c0, hb, hs, hl, hk, hr, h1, h2, h3, h4, h5, h6, h7⟩ := h
  unfold seenAt
  rw [hr]; exact h7
theorem Ranging.lt (h : Ranging C w b r l done) : b < w.heap.size ∧ r < w.heap.size ∧ r ≠ b := by
  obtain ⟨es, clock, since, seen, c0, hb, hs, hl, hk, hr, _⟩ := h
  refine ⟨(Array.getElem?_eq_some_iff.1 hb).1, (Array.getElem?_eq_some_iff.1 hr).1, ?_⟩
  rintro rfl
  rw [hb] at hr
  cases hr
theorem Ranging.off {S : Nat → Prop} {w' : World} (h : Ranging C w b r l done) (ho : Off S w w') (hb : ¬ S b) (hr : ¬ S r) : Ranging C w' b r l done := by
  obtain ⟨h1, h2, _⟩ := h.lt
  obtain ⟨es, clock, since, seen, c0, eb, hs, hl, hk, er, rest⟩ := h
  exact ⟨es, clock, since, seen, c0, (ho.block b h1 hb).trans eb, hs, hl, hk, (ho.block r h2 hr).trans er, rest⟩

theorem Ranging.start (h : MapIs C w b l) {t e : TypeId} (ht : P.underlying t = some (.map kt e)) :
    ∃ o, (Instr.range t (.map (some b))).run P w = .ok (.pointer (some ⟨w.heap.size, 0, none⟩)) (w.alloc o) ∧ Ranging C (w.alloc o) b w.heap.size l [] := by
  have hlt := h.lt
  obtain ⟨es, clock, hb, hs, hl, hk⟩ := h
  refine ⟨_, run_range_map w t kt e b es clock ht hb, es, clock, clock, #[], clock, ((MapKept.heap_alloc w _).2 b hlt).trans hb, hs, hl, hk, (MapKept.heap_alloc w _).1, hs.1, Nat.le_refl _, Nat.le_refl _, ?_, List.nodup_nil, by simp, rfl⟩
  intro x _
  simp

theorem Ranging.next (h : Ranging C w b r l done) (ty : TypeId) :
    ((∀ p ∈ l, p.1 ∈ done) ∧ (Instr.next (.pointer (some ⟨r, 0, none⟩)) false ty).run P w = .ok (.tuple #[.bool false]) w) ∨
    ∃ k v w', (k, v) ∈ l ∧ k ∉ done ∧ (Instr.next (.pointer (some ⟨r, 0, none⟩)) false ty).run P w = .ok (.tuple #[.bool true, C.enc k, v]) w' ∧ Ranging C w' b r l (done ++ [k]) ∧ Off (fun i => i = r) w w' ∧ w'.heap.size = w.heap.size ∧
      (Instr.entry (.pointer (some ⟨r, 0, none⟩))).run P w' = .ok (.tuple #[C.enc k, v]) w' := by
  obtain ⟨_, _, hne⟩ := h.lt
  obtain ⟨es, clock, since, seen, c0, hb, hs, hl, hk, hr, hold, hsc, hsk, hseen, hnd, hsub, hsz⟩ := h
  have hst := (stamped_iff es clock).1 hs
  rcases run_next_at (P := P) w ty r b since c0 seen es clock hr hb hold hsc with ⟨h0, hrun⟩ | ⟨e, he, w1, hal, hrun⟩
  · left
    refine ⟨fun p hp => ?_, hrun⟩
    have hm : (C.enc p.1, p.2) ∈ es.toList.map (fun e => (e.key, e.val)) := by rw [hl]; exact List.mem_map.2 ⟨p, hp, rfl⟩
    obtain ⟨x, hx, ex⟩ := List.mem_map.1 hm
    obtain ⟨k, hkd, hxk⟩ := (hseen x hx).1 (all_seen es seen h0 x hx)
    have : C.enc p.1 = C.enc k := by
      have := congrArg Prod.fst ex
      simp only at this
      rw [← this, hxk]
    rw [C.inj this]; exact hkd
  · right
    obtain ⟨hem, hes⟩ := mem_left he
    have hm : (e.key, e.val) ∈ l.map (fun p => (C.enc p.1, p.2)) := by rw [← hl]; exact List.mem_map.2 ⟨e, hem, rfl⟩
    obtain ⟨⟨k, v⟩, hp, ep⟩ := List.mem_map.1 hm
    simp only [Prod.mk.injEq] at ep
    have hr1 : w1.heap[r]? = some (.mapIter (some b) since seen c0) := by rcases hal with rfl | rfl <;> exact hr
    have hb1 : w1.heap[b]? = some (.map es clock) := by rcases hal with rfl | rfl <;> exact hb
    have hset := heap_set (o' := .mapIter (some b) since (seen.push e.born) clock) hr1
    have hb' : (setBlock w1 r (.mapIter (some b) since (seen.push e.born) clock)).heap[b]? = some (.map es clock) := (hset.2 b (fun e1 => hne e1.symm)).trans hb1
    have hkd : k ∉ done := fun hd => by
      have := (hseen e hem).2 ⟨k, hd, ep.1.symm⟩
      rw [hes] at this; cases this
    refine ⟨k, v, _, hp, hkd, ?_, ⟨es, clock, since, seen.push e.born, clock, hb', hs, hl, hk, hset.1, hold, hsk, hsk, fun x hx => ?_, ?_, ?_, by simp [hsz]⟩, ?_, ?_, ?_⟩
    · rw [ep.1, ep.2]; exact hrun
    · rw [contains_push, Bool.or_eq_true, hseen x hx]
      constructor
      · rintro (⟨k', h1, h2⟩ | h1)
        · exact ⟨k', by simp [h1], h2⟩
        · have : x = e := born_inj hst.2.1 hx hem (by simpa using h1)
          exact ⟨k, by simp, by rw [this, ep.1]⟩
      · rintro ⟨k', h1, h2⟩
        rcases List.mem_append.1 h1 with h1 | h1
        · exact .inl ⟨k', h1, h2⟩
        · right
          have : k' = k := by simpa using h1
          subst this
          have : x = e := entry_eq_of_key hst.2.2 hx hem (by rw [h2, ep.1])
          simp [this]
    · rw [List.nodup_append]
      refine ⟨hnd, by simp, ?_⟩
      intro a ha c hc
      have : c = k := by simpa using hc
      subst this
      rintro rfl
      exact hkd ha
    · intro k' h'
      rcases List.mem_append.1 h' with h' | h'
      · exact hsub k' h'
      · have : k' = k := by simpa using h'
        subst this
        exact List.mem_map.2 ⟨_, hp, rfl⟩
    · rcases hal with rfl | rfl <;> exact ⟨rfl, rfl, rfl, by simp [setBlock], fun i _ hi => hset.2 i hi⟩
    · rcases hal with rfl | rfl <;> simp [setBlock]
    · rw [ep.1, ep.2]
      exact run_entry_at _ r b since seen es clock e hset.1 hb' hem hst.2.1

theorem nodup_len {κ : Type} [DecidableEq κ] : ∀ (d ks : List κ), d.Nodup → (∀ k ∈ d, k ∈ ks) → d.length ≤ ks.length
  | [], _, _, _ => by simp
  | k :: d, ks, hn, hs => by
    obtain ⟨h1, h2⟩ := List.nodup_cons.1 hn
    have hk := hs k (by simp)
    have := nodup_len d (ks.erase k) h2 (fun x hx => (List.mem_erase_of_ne (fun e => h1 (by rw [← e]; exact hx))).2 (hs x (by simp [hx])))
    rw [List.length_erase_of_mem hk] at this
    have : 0 < ks.length := List.length_pos_of_mem hk
    simp; omega
theorem Ranging.len [DecidableEq κ] (h : Ranging C w b r l done) : done.length ≤ l.length := by
  have := nodup_len done (l.map (·.1)) h.nodup h.sub
  simpa using this
theorem Ranging.iter (h : Ranging C w b r l done) : ∃ o : Obj, w.heap[r]? = some o ∧ o.isWalk = true := by
  obtain ⟨es, clock, since, seen, c0, eb, hs, hl, hok, er, rest⟩ := h
  exact ⟨_, er, rfl⟩

/-- all have come: each once -/
theorem Ranging.all (h : Ranging C w b r l done) (ha : ∀ p ∈ l, p.1 ∈ done) : done.Perm (l.map (·.1)) := by
  have hu := h.map.uniq
  have hn : (l.map (·.1)).Nodup := hu
  refine (List.perm_ext_iff_of_nodup h.nodup hn).2 fun k => ⟨h.sub k, fun hk => ?_⟩
  obtain ⟨p, hp, rfl⟩ := List.mem_map.1 hk
  exact ha p hp
end

section
variable {P : Program} {kt : TypeId} {κ : Type} (C : KeyC P kt κ)
theorem wpList_mrange (w : World) {ops : Array Oper} {rest : List Oper} {o : Oper} {a : Act} {Q : Exit → Act → World → Prop}
    (hg : o.guard = none) (m : Operand) (t : TypeId) (hop : o.op = Op.range t m) (e : TypeId) (ht : P.underlying t = some (.map kt e)) (b : Nat) (l : List (κ × Value))
    (hm : a.eval m = .map (some b)) (h : MapIs C w b l)
    (hK : ∀ x : Obj, Ranging C (w.alloc x) b w.heap.size l [] → wpList P ops Q rest (a.put o.dst (.pointer (some ⟨w.heap.size, 0, none⟩))) (w.alloc x)) :
    wpList P ops Q (o :: rest) a w := by
  refine wpList_plain hg fun K' hK' => ?_
  obtain ⟨x, hrun, hr⟩ := Ranging.start h ht
  unfold Oper.wp
  simp [execOp, hop, hm, hrun, Result.andThen]
  exact hK' _ _ (hK x hr)

theorem wpList_mnext (w : World) {ops : Array Oper} {rest : List Oper} {o : Oper} {a : Act} {Q : Exit → Act → World → Prop}
    (hg : o.guard = none) (it : Operand) (hop : o.op = Op.next it false) (b r : Nat) (l : List (κ × Value)) (done : List κ)
    (hit : a.eval it = .pointer (some ⟨r, 0, none⟩)) (h : Ranging C w b r l done)
    (hDone : (∀ p ∈ l, p.1 ∈ done) → wpList P ops Q rest (a.put o.dst (.tuple #[.bool false])) w)
    (hMore : ∀ (k : κ) (v : Value) (w' : World), (k, v) ∈ l → k ∉ done → Ranging C w' b r l (done ++ [k]) → Off (fun i => i = r) w w' → w'.heap.size = w.heap.size →
      (Instr.entry (.pointer (some ⟨r, 0, none⟩))).run P w' = .ok (.tuple #[C.enc k, v]) w' → wpList P ops Q rest (a.put o.dst (.tuple #[.bool true, C.enc k, v])) w') :
    wpList P ops Q (o :: rest) a w := by
  refine wpList_plain hg fun K' hK' => ?_
  unfold Oper.wp
  rcases h.next o.type with ⟨h0, hrun⟩ | ⟨k, v, w', h1, h2, hrun, h3, h4, h5, h6⟩
  · simp [execOp, hop, hit, hrun, Result.andThen]
    exact hK' _ _ (hDone h0)
  · simp [execOp, hop, hit, hrun, Result.andThen]
    exact hK' _ _ (hMore k v w' h1 h2 h3 h4 h5 h6)
end
end Stv
