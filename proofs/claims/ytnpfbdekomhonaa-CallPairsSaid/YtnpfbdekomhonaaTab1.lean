/- The table of descriptors in memory. -/
import Derived.Test.YtnpfbdekomhonaaPrt5
import Derived.Test.YtnpfbdekomhonaaBase7
namespace Go.Proofs.Ytnpfbdekomhonaa
open Go.RowKit Stv

abbrev KI : KeyC Try.prog 3 Int := intKey Try.underlying3

structure FileV where
  kind : Int
  proto : Int
  id : Int
  calm : Bool
def FileV.val (f : FileV) : Value := .agg #[.int .u8 f.kind, .int .u8 f.proto, .int .u64 f.id, .bool f.calm]

structure DeskV where
  proto : Int
  is : Int
  b : Bnd
  fip : Int
  fport : Int
  tip : Int
  tport : Int
  share : Bool
  was : Int
def DeskV.cells (d : DeskV) : Array Value := #[.int .u8 d.proto, .int .u8 d.is, .int .u8 d.b.kind, .int .u32 d.b.ip, .int .u16 d.b.port, .bool d.b.share, .int .u32 d.fip, .int .u16 d.fport, .int .u32 d.tip, .int .u16 d.tport, .bool d.share, .int .u8 d.was]

def skPtr (x : Nat × DeskV) : Value := .pointer (some ⟨x.1, 0, none⟩)

/-- BLOCK t OF w IS A TABLE. -/
structure TabAt (w : World) (t fm sm pp pm : Nat) (ownv : Value) (most last : Int) (own : List Int) (F : List (Int × FileV)) (L : List (Int × (Nat × DeskV))) (P : List (Int × Bnd)) : Prop where
  self : w.heap[t]? = some (.cells #[.int .i64 most, ownv, .map (some fm), .map (some sm), .pointer (some ⟨pp, 0, none⟩), .int .u64 last] 80 (0, 0))
  own : OwnRow w 22 1 ownv own.length (own.map (Value.int .u32))
  files : MapIs KI w fm (vmap FileV.val F)
  socks : MapIs KU w sm (vmap skPtr L)
  ports : PortsAt w pp pm P
  desks : ∀ e ∈ L, w.heap[e.2.1]? = some (.cells e.2.2.cells 84 (0, 0))
  blks : (L.map (·.2.1)).Nodup
  apart : fm ≠ sm ∧ fm ≠ pm ∧ sm ≠ pm

/-- the blocks of a table -/
def tabBlks (t fm sm pp pm : Nat) (ownv : Value) (L : List (Int × (Nat × DeskV))) (k : Nat) : Prop :=
  k = t ∨ k = fm ∨ k = sm ∨ k = pp ∨ k = pm ∨ ownv.ownBlock = some k ∨ ∃ e ∈ L, e.2.1 = k

theorem map_not_cells {P : Program} {kt : TypeId} {κ : Type} {C : KeyC P kt κ} {w : World} {b : Nat} {l : List (κ × Value)} (h : MapIs C w b l) {k : Nat} {c : Array Value} {t : TypeId} {f : Nat × Nat} (hk : w.heap[k]? = some (.cells c t f)) : k ≠ b := by
  rintro rfl
  obtain ⟨es, clock, hb, _⟩ := h
  rw [hk] at hb; cases hb
theorem own_cells {w : World} {e : TypeId} {size : Nat} {v : Value} {n : Nat} {xs : List Value} (h : OwnRow w e size v n xs) {k : Nat} (hk : v.ownBlock = some k) : ∃ c, w.heap[k]? = some (.cells c e (0, 0)) := by
  rcases h.2 with ⟨rfl, _⟩ | ⟨g, cap, cur, rfl, _, hg, _⟩
  · cases hk
  · cases hk; exact ⟨_, hg⟩

namespace TabAt
variable {w w' : World} {t fm sm pp pm : Nat} {ownv : Value} {most last : Int} {own : List Int} {F : List (Int × FileV)} {L : List (Int × (Nat × DeskV))} {P : List (Int × Bnd)}
theorem c0 (h : TabAt w t fm sm pp pm ownv most last own F L P) : w.cell? ⟨t, 0, none⟩ = some (.int .i64 most) := cell_of h.self 0
theorem c1 (h : TabAt w t fm sm pp pm ownv most last own F L P) : w.cell? ⟨t, 1, none⟩ = some ownv := cell_of h.self 1
theorem c2 (h : TabAt w t fm sm pp pm ownv most last own F L P) : w.cell? ⟨t, 2, none⟩ = some (.map (some fm)) := cell_of h.self 2
theorem c3 (h : TabAt w t fm sm pp pm ownv most last own F L P) : w.cell? ⟨t, 3, none⟩ = some (.map (some sm)) := cell_of h.self 3
theorem c4 (h : TabAt w t fm sm pp pm ownv most last own F L P) : w.cell? ⟨t, 4, none⟩ = some (.pointer (some ⟨pp, 0, none⟩)) := cell_of h.self 4
theorem c5 (h : TabAt w t fm sm pp pm ownv most last own F L P) : w.cell? ⟨t, 5, none⟩ = some (.int .u64 last) := cell_of h.self 5
theorem f (h : TabAt w t fm sm pp pm ownv most last own F L P) (i : Nat) : w.frozen? ⟨t, i, none⟩ = false := frozen_of h.self i
theorem lt (h : TabAt w t fm sm pp pm ownv most last own F L P) : t < w.heap.size := (Array.getElem?_eq_some_iff.1 h.self).1
theorem blks_lt (h : TabAt w t fm sm pp pm ownv most last own F L P) {k : Nat} (hk : tabBlks t fm sm pp pm ownv L k) : k < w.heap.size := by
  rcases hk with rfl | rfl | rfl | rfl | rfl | hk | ⟨e, he, rfl⟩
  · exact h.lt
  · exact h.files.lt
  · exact h.socks.lt
  · exact h.ports.lt
  · exact h.ports.map.lt
  · exact h.own.lt hk
  · exact (Array.getElem?_eq_some_iff.1 (h.desks e he)).1
theorem off {S : Nat → Prop} (h : TabAt w t fm sm pp pm ownv most last own F L P) (ho : Off S w w') (hS : ∀ k, tabBlks t fm sm pp pm ownv L k → ¬ S k) : TabAt w' t fm sm pp pm ownv most last own F L P where
  self := (ho.block t h.lt (hS t (.inl rfl))).trans h.self
  own := h.own.off ho fun k hk => hS k (by unfold tabBlks; simp [hk])
  files := ho.map h.files (hS fm (by unfold tabBlks; simp))
  socks := ho.map h.socks (hS sm (by unfold tabBlks; simp))
  ports := h.ports.off ho (hS pp (by unfold tabBlks; simp)) (hS pm (by unfold tabBlks; simp))
  desks e he := by
    have hk : tabBlks t fm sm pp pm ownv L e.2.1 := by unfold tabBlks; exact .inr (.inr (.inr (.inr (.inr (.inr ⟨e, he, rfl⟩)))))
    exact (ho.block _ (h.blks_lt hk) (hS _ hk)).trans (h.desks e he)
  blks := h.blks
  apart := h.apart
theorem grew (h : TabAt w t fm sm pp pm ownv most last own F L P) (ho : Grew w w') : TabAt w' t fm sm pp pm ownv most last own F L P := h.off ho fun _ _ h => h
theorem sUniq (h : TabAt w t fm sm pp pm ownv most last own F L P) : Uniq L := vmap_uniq h.socks.uniq
theorem fUniq (h : TabAt w t fm sm pp pm ownv most last own F L P) : Uniq F := vmap_uniq h.files.uniq

/-- a number is set -/
theorem setLast (h : TabAt w t fm sm pp pm ownv most last own F L P) (v : Int) : TabAt (w.setCell ⟨t, 5, none⟩ (.int .u64 v)) t fm sm pp pm ownv most v own F L P ∧ Off (fun k => k = t) w (w.setCell ⟨t, 5, none⟩ (.int .u64 v)) := by
  have ho : Off (fun k => k = t) w (w.setCell ⟨t, 5, none⟩ (.int .u64 v)) := (Off.refl (fun k => k = t) w).setCell (p := ⟨t, 5, none⟩) (.inl rfl) _
  have hd : ∀ e ∈ L, e.2.1 ≠ t := fun e he e1 => by have := h.desks e he; rw [e1, h.self] at this; cases this
  refine ⟨⟨?_, h.own.off ho fun k hk e => ?_, ho.map h.files fun e => ?_, ho.map h.socks fun e => ?_, h.ports.off ho (fun e => ?_) fun e => ?_, fun e he => ?_, h.blks, h.apart⟩, ho⟩
  · simp only [World.setCell, Array.getElem?_modify, if_true, h.self]
    simp
  · obtain ⟨c, hc⟩ := own_cells h.own hk
    rw [e, h.self] at hc; cases hc
  · exact map_not_cells h.files h.self e.symm
  · exact map_not_cells h.socks h.self e.symm
  · have := h.ports.self; rw [e, h.self] at this; cases this
  · exact map_not_cells h.ports.map h.self e.symm
  · exact (ho.block _ (Array.getElem?_eq_some_iff.1 (h.desks e he)).1 (hd e he)).trans (h.desks e he)

/-- the map of files has turned -/
theorem turnFiles (h : TabAt w t fm sm pp pm ownv most last own F L P) {F' : List (Int × FileV)} (hm : MapIs KI w' fm (vmap FileV.val F')) (ht : w.mapTurned w' fm) : TabAt w' t fm sm pp pm ownv most last own F' L P ∧ Off (fun k => k = fm) w w' := by
  have ho : Off (fun k => k = fm) w w' := (Off.refl _ _).turned ht (.inl rfl)
  refine ⟨⟨(ho.block t h.lt (map_not_cells h.files h.self)).trans h.self, h.own.off ho fun k hk e => ?_, hm, ho.map h.socks fun e => h.apart.1 e.symm, h.ports.off ho (map_not_cells h.files h.ports.self) fun e => h.apart.2.1 e.symm, fun e he => ?_, h.blks, h.apart⟩, ho⟩
  · obtain ⟨c, hc⟩ := own_cells h.own hk
    exact map_not_cells h.files hc e
  · exact (ho.block _ (Array.getElem?_eq_some_iff.1 (h.desks e he)).1 (map_not_cells h.files (h.desks e he))).trans (h.desks e he)

/-- the map of sockets has turned -/
theorem turnSocks (h : TabAt w t fm sm pp pm ownv most last own F L P) {L' : List (Int × (Nat × DeskV))} (hm : MapIs KU w' sm (vmap skPtr L')) (ht : w.mapTurned w' sm) (hd : ∀ e ∈ L', w.heap[e.2.1]? = some (.cells e.2.2.cells 84 (0, 0))) (hb : (L'.map (·.2.1)).Nodup) : TabAt w' t fm sm pp pm ownv most last own F L' P ∧ Off (fun k => k = sm) w w' := by
  have ho : Off (fun k => k = sm) w w' := (Off.refl _ _).turned ht (.inl rfl)
  refine ⟨⟨(ho.block t h.lt (map_not_cells h.socks h.self)).trans h.self, h.own.off ho fun k hk e => ?_, ho.map h.files h.apart.1, hm, h.ports.off ho (map_not_cells h.socks h.ports.self) fun e => h.apart.2.2 e.symm, fun e he => ?_, hb, h.apart⟩, ho⟩
  · obtain ⟨c, hc⟩ := own_cells h.own hk
    exact map_not_cells h.socks hc e
  · have := hd e he
    exact (ho.block _ (Array.getElem?_eq_some_iff.1 this).1 (map_not_cells h.socks this)).trans this

/-- a new desk at a new block -/
theorem newSock (h : TabAt w t fm sm pp pm ownv most last own F L P) {id : Int} {d : DeskV} {b : Nat} (hn : mget L id = none) (hb : w.heap[b]? = some (.cells d.cells 84 (0, 0))) (hnew : ∀ e ∈ L, e.2.1 ≠ b) (hm : MapIs KU w' sm (mput (vmap skPtr L) id (.pointer (some ⟨b, 0, none⟩)))) (ht : w.mapTurned w' sm) :
    TabAt w' t fm sm pp pm ownv most last own F (L ++ [(id, b, d)]) P ∧ Off (fun k => k = sm) w w' := by
  have e1 : mput (vmap skPtr L) id (.pointer (some ⟨b, 0, none⟩)) = vmap skPtr (L ++ [(id, b, d)]) := by
    rw [show Value.pointer (some ⟨b, 0, none⟩) = skPtr (b, d) from rfl, vmap_put, mput_none (mget_none_iff.1 hn)]
  rw [e1] at hm
  refine h.turnSocks hm ht (fun e he => ?_) ?_
  · rcases List.mem_append.1 he with he | he
    · exact h.desks e he
    · have : e = (id, b, d) := by simpa using he
      subst this; exact hb
  · rw [List.map_append, List.nodup_append]
    refine ⟨h.blks, by simp, fun a ha c hc => ?_⟩
    obtain ⟨e, he, rfl⟩ := List.mem_map.1 ha
    simp at hc
    subst hc
    exact hnew e he

/-- a desk's cells have turned -/
theorem setDesk (h : TabAt w t fm sm pp pm ownv most last own F L P) {id : Int} {b : Nat} {d d' : DeskV} (hg : mget L id = some (b, d)) (ho : Off (fun k => k = b) w w') (hb : w'.heap[b]? = some (.cells d'.cells 84 (0, 0))) : TabAt w' t fm sm pp pm ownv most last own F (mput L id (b, d')) P := by
  have hm := mget_mem hg
  have hd := h.desks _ hm
  simp only at hd
  refine ⟨(ho.block t h.lt fun e => ?_).trans h.self, h.own.off ho fun k hk e => ?_, ho.map h.files fun e => map_not_cells h.files hd e.symm, ?_, h.ports.off ho (fun e => ?_) fun e => map_not_cells h.ports.map hd e.symm, fun e he => ?_, ?_, h.apart⟩
  · rw [← e, h.self] at hd; cases hd
  · obtain ⟨c, hc⟩ := own_cells h.own hk
    rw [e, hd] at hc; cases hc
  · rw [← vmap_put]
    have : mput (vmap skPtr L) id (skPtr (b, d')) = vmap skPtr L := by
      have e1 : mget (vmap skPtr L) id = some (skPtr (b, d')) := by rw [vmap_get, hg]; rfl
      clear hb ho hd hm h
      induction L with
      | nil => cases hg
      | cons p r ih =>
        obtain ⟨a, x⟩ := p
        simp only [mget] at hg
        simp only [vmap, List.map_cons, mget, mput] at e1 ih ⊢
        split
        · rename_i e2
          rw [if_pos e2] at e1
          simp only [Option.some.injEq] at e1
          rw [e1, e2]
        · rename_i e2
          rw [if_neg e2] at hg e1
          rw [ih hg e1]
    rw [this]
    exact ho.map h.socks fun e => map_not_cells h.socks hd e.symm
  · have := h.ports.self; rw [e, hd] at this; cases this
  · rcases mem_mput_uniq h.sUniq he with rfl | ⟨he, hne⟩
    · exact hb
    · have hx := h.desks e he
      refine (ho.block _ (Array.getElem?_eq_some_iff.1 hx).1 fun e1 => ?_).trans hx
      have : e = (id, b, d) := nodup_inj h.blks he hm e1
      exact hne (by rw [this])
  · have := map_mput_same (fun x : Nat × DeskV => x.1) (v := (b, d')) hg rfl
    have e1 : (mput L id (b, d')).map (·.2.1) = L.map (·.2.1) := this
    rw [e1]; exact h.blks

/-- the ports' table has turned -/
theorem turnPorts (h : TabAt w t fm sm pp pm ownv most last own F L P) {P' : List (Int × Bnd)} (ho : Off (fun k => k = pm) w w') (hp : PortsAt w' pp pm P') : TabAt w' t fm sm pp pm ownv most last own F L P' := by
  refine ⟨(ho.block t h.lt (map_not_cells h.ports.map h.self)).trans h.self, h.own.off ho fun k hk e => ?_, ho.map h.files h.apart.2.1, ho.map h.socks h.apart.2.2, hp, fun e he => ?_, h.blks, h.apart⟩
  · obtain ⟨c, hc⟩ := own_cells h.own hk
    exact map_not_cells h.ports.map hc e
  · exact (ho.block _ (Array.getElem?_eq_some_iff.1 (h.desks e he)).1 (map_not_cells h.ports.map (h.desks e he))).trans (h.desks e he)
end TabAt
end Go.Proofs.Ytnpfbdekomhonaa
