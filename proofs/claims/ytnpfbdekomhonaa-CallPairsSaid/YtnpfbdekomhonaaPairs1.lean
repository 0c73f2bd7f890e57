/- 'CallPairs': its states and its calls. -/
import Derived.Test.YtnpfbdekomhonaaWorks
import Derived.Test.YtnpfbdekomhonaaTab10
namespace Go.Proofs.Ytnpfbdekomhonaa
open Go.RowKit Stv

def prS (p : Int) (d : DeskV) (P : List (Int × Bnd)) : TS := ⟨9, 1, [7, 8], [(0, ⟨1, p, 1, false⟩)], [(1, d)], P⟩
def prT (p : Int) (d : DeskV) (P : List (Int × Bnd)) (e : DeskV) : TS := ⟨9, 2, [7, 8], [(0, ⟨1, p, 1, false⟩), (1, ⟨1, 2, 2, false⟩)], [(1, d), (2, e)], P⟩
def pb (p : Int) : Bnd := ⟨p, 0, 99, false⟩
def pd1 (p : Int) : DeskV := { desk0 p with is := 1, b := pb p }
def p1000 : Bnd := ⟨2, 0, 1000, false⟩

def pairsW (w : World) (i1 p1 i2 p2 : Int) : World := (w.alloc (.cells #[.int .u32 i1, .int .u16 p1] 25)).alloc (.cells #[.int .u32 i2, .int .u16 p2] 25)
theorem pairsW_grew (w : World) (i1 p1 i2 p2 : Int) : Grew w (pairsW w i1 p1 i2 p2) := (grew_alloc _ _).alloc _

def PairArgs (w w' : World) (i1 p1 i2 p2 : Int) : Prop :=
  w'.cell? ⟨w.heap.size, 0, none⟩ = some (.int .u32 i1) ∧ w'.cell? ⟨w.heap.size, 1, none⟩ = some (.int .u16 p1) ∧ w'.cell? ⟨w.heap.size + 1, 0, none⟩ = some (.int .u32 i2) ∧ w'.cell? ⟨w.heap.size + 1, 1, none⟩ = some (.int .u16 p2) ∧ w.heap.size < w'.heap.size ∧ w.heap.size + 1 < w'.heap.size

theorem pairs_args {w w' : World} {i1 p1 i2 p2 : Int} (hg : Grew (pairsW w i1 p1 i2 p2) w') : PairArgs w w' i1 p1 i2 p2 := by
  have h0 : (pairsW w i1 p1 i2 p2).heap[w.heap.size]? = some (.cells #[.int .u32 i1, .int .u16 p1] 25 (0, 0)) := by
    unfold pairsW
    rw [Below.heap_alloc _ _ _ (by simp)]
    exact (MapKept.heap_alloc _ _).1
  have h1 : (pairsW w i1 p1 i2 p2).heap[w.heap.size + 1]? = some (.cells #[.int .u32 i2, .int .u16 p2] 25 (0, 0)) := by
    unfold pairsW
    have := (MapKept.heap_alloc (w.alloc (.cells #[.int .u32 i1, .int .u16 p1] 25)) (.cells #[.int .u32 i2, .int .u16 p2] 25)).1
    rwa [World.size_alloc] at this
  have k0 := (hg.block _ (Array.getElem?_eq_some_iff.1 h0).1 fun h => h).trans h0
  have k1 := (hg.block _ (Array.getElem?_eq_some_iff.1 h1).1 fun h => h).trans h1
  exact ⟨cell_of k0 0, cell_of k0 1, cell_of k1 0, cell_of k1 1, (Array.getElem?_eq_some_iff.1 k0).1, (Array.getElem?_eq_some_iff.1 k1).1⟩

theorem pairs_new (w : World) (i1 p1 i2 p2 : Int) :
    Calls Try.prog 7 #[.int .i64 9, .slice (some ⟨w.heap.size + 1 + 1, 0, none⟩) 2 2] ((pairsW w i1 p1 i2 p2).alloc (.cells #[.int .u32 7, .int .u32 8] 22)) fun e w' => ∃ t, e = .returned (.tuple #[.pointer (some ⟨t, 0, none⟩), .int .i64 0]) ∧ TabIs (pairsW w i1 p1 i2 p2) w' t ⟨9, 0, [7, 8], [], [], []⟩ := by
  have hs : (pairsW w i1 p1 i2 p2).heap.size = w.heap.size + 1 + 1 := by unfold pairsW; rw [World.size_alloc, World.size_alloc]
  have hb := (MapKept.heap_alloc (pairsW w i1 p1 i2 p2) (.cells #[.int .u32 7, .int .u32 8] 22)).1
  rw [hs] at hb
  have hown : OwnRow ((pairsW w i1 p1 i2 p2).alloc (.cells #[.int .u32 7, .int .u32 8] 22)) 22 1 (.slice (some ⟨w.heap.size + 1 + 1, 0, none⟩) 2 2) ([7, 8] : List Int).length (([7, 8] : List Int).map (Value.int .u32)) := own_lit (l := [7, 8]) hb (by decide)
  exact tNew (by decide) (by decide) rfl hown (by decide) (by decide) (grew_alloc _ _)

section
variable {w0 w : World} {t : Nat} {p : Int} {d : DeskV} {P : List (Int × Bnd)}

theorem pr_ok {d : DeskV} {ip port : Int} (hi : 0 < ip) (hp : 0 < port) (h2 : d.is ≠ 2) (h3 : d.is ≠ 3 ∨ d.proto = 1) : connAsk [7, 8] d 8 ip port = 0 := by
  have e1 : connOk [7, 8] 8 ip port = true := by simp [connOk, hi, hp]
  have e2 : (d.is != 2) = true := by simpa using h2
  have e3 : (d.is != 3 || d.proto == 1) = true := by simpa using h3
  unfold connAsk
  rw [e1, e2, e3]; rfl
theorem pr_again {d : DeskV} {ip port : Int} (hi : 0 < ip) (hp : 0 < port) (h3 : d.is = 3) (h2 : d.proto = 2) : connAsk [7, 8] d 8 ip port = 292 := by
  have e1 : connOk [7, 8] 8 ip port = true := by simp [connOk, hi, hp]
  unfold connAsk
  rw [e1, h3, h2]; rfl
theorem pr_listens {d : DeskV} {ip port : Int} (hi : 0 < ip) (hp : 0 < port) (h2 : d.is = 2) : connAsk [7, 8] d 8 ip port = 3 := by
  have e1 : connOk [7, 8] 8 ip port = true := by simp [connOk, hi, hp]
  unfold connAsk
  rw [e1, h2]; rfl
theorem pr_foreign {d : DeskV} {ip port : Int} : connAsk [7, 8] d 9 ip port = 2 := by
  have e1 : connOk [7, 8] 9 ip port = false := by simp [connOk]
  unfold connAsk
  rw [e1]; rfl

theorem pr_conn (h : TabIs w0 w t (prS p d P)) (hp : d.proto = 1 ∨ d.proto = 2) (h2 : d.is ≠ 2) (h3 : d.is ≠ 3 ∨ d.proto = 1) {ip port : Int} (hi : 0 < ip) (hpt : 0 < port) {draw : Int} (hd0 : 0 ≤ draw) (hd1 : draw ≤ 65535) {b1 : Bnd} {P1 : List (Int × Bnd)} (hb : b1.ip = 0 ∨ b1.ip = 8)
    (hpl : (d.is ≠ 0 ∧ b1 = d.b ∧ P1 = P) ∨ (d.is = 0 ∧ mayErr P 1 = 0 ∧ freeB P (lendB ⟨d.proto, 8, 0, false⟩ draw 0) = true ∧ b1 = lendB ⟨d.proto, 8, 0, false⟩ draw 0 ∧ P1 = mput P 1 b1)) :
    Calls Try.prog 17 #[.pointer (some ⟨t, 0, none⟩), .int .i64 0, .int .u32 8, .agg #[.int .u32 ip, .int .u16 port], .int .u16 draw] w fun e w' =>
      e = .returned (.tuple #[.agg #[.int .u32 8, .int .u16 b1.port, .int .u32 ip, .int .u16 port], .int .i64 0]) ∧ TabIs w0 w' t (prS p (connDesk d b1 8 ip port) P1) := by
  have e8 : (connDesk d b1 8 ip port).fip = 8 := by
    unfold connDesk
    rcases hb with h | h
    · simp [h]
    · simp [h]
  refine (tConnect h (by simp [prS]) (fd := 0) (by decide) (f := ⟨1, p, 1, false⟩) rfl rfl (d := d) rfl 8 ip port hd0 hd1 (pr_ok hi hpt h2 h3) hp hpl).mono fun e w' ⟨he, ht⟩ => ⟨?_, ht⟩
  rw [he, e8]

theorem pr_bind (h : TabIs w0 w t (prS p (desk0 p) [])) (hp : p = 1 ∨ p = 2) :
    Calls Try.prog 12 #[.pointer (some ⟨t, 0, none⟩), .int .i64 0, .agg #[.int .u32 0, .int .u16 99]] w fun e w' => e = .returned (.int .i64 0) ∧ TabIs w0 w' t (prS p (pd1 p) [(1, pb p)]) :=
  (tBind h (by simp [prS]) (fd := 0) (by decide) (f := ⟨1, p, 1, false⟩) rfl rfl (d := desk0 p) rfl 0 99 (by rfl) hp (by decide)).mono fun e w' ⟨he, ht⟩ => ⟨he, ht⟩

theorem pr_bind2 {q : Bnd} (h : TabIs w0 w t (prT p d [(1, q)] (desk0 2))) (hq : q.port ≠ 1000) :
    Calls Try.prog 12 #[.pointer (some ⟨t, 0, none⟩), .int .i64 1, .agg #[.int .u32 0, .int .u16 1000]] w fun e w' => e = .returned (.int .i64 0) ∧ TabIs w0 w' t (prT p d [(1, q), (2, p1000)] { desk0 2 with is := 1, b := p1000 }) := by
  have hm : meets p1000 q = false := by
    have : (q.port == 1000) = false := beq_eq_false_iff_ne.2 hq
    unfold meets; simp [p1000, this]
  have he : bindErr [(1, q)] 2 p1000 = 0 := by
    have e1 : mayErr [(1, q)] 2 = 0 := by rfl
    have e2 : confB [(1, q)] p1000 = false := by simp [confB, hm]
    unfold bindErr
    rw [e1, e2]; rfl
  refine (tBind h (by simp [prT]) (fd := 1) (by decide) (f := ⟨1, 2, 2, false⟩) rfl rfl (d := desk0 2) rfl 0 1000 (by rfl) (.inr rfl) (by decide)).mono fun e w' ⟨h1, ht⟩ => ⟨?_, ?_⟩
  · rw [h1]; exact congrArg (fun x => Ending.returned (.int .i64 x)) he
  · have e : tBound (prT p d [(1, q)] (desk0 2)) 2 (desk0 2) p1000 = prT p d [(1, q), (2, p1000)] { desk0 2 with is := 1, b := p1000 } := by
      unfold tBound
      rw [if_pos (show bindErr (prT p d [(1, q)] (desk0 2)).P 2 p1000 = 0 from he)]
      rfl
    rw [← e]; exact ht

theorem pr_listen2 (h : TabIs w0 w t (prT p d P { desk0 2 with is := 1, b := p1000 })) :
    Calls Try.prog 13 #[.pointer (some ⟨t, 0, none⟩), .int .i64 1] w fun e w' => e = .returned (.int .i64 0) ∧ TabIs w0 w' t (prT p d P { desk0 2 with is := 2, b := p1000 }) :=
  (tListen h (fd := 1) (by decide) (f := ⟨1, 2, 2, false⟩) rfl rfl (d := { desk0 2 with is := 1, b := p1000 }) rfl).mono fun e w' ⟨he, ht⟩ => ⟨he, ht⟩

theorem pr_listen3 (h : TabIs w0 w t (prS p d P)) (h3 : d.is = 3) (h2 : d.proto = 2) :
    Calls Try.prog 13 #[.pointer (some ⟨t, 0, none⟩), .int .i64 0] w fun e w' => e = .returned (.int .i64 292) ∧ TabIs w0 w' t (prS p d P) := by
  have e1 : listenErr d = 292 := by unfold listenErr; rw [h3, h2]; rfl
  refine (tListen h (fd := 0) (by decide) (f := ⟨1, p, 1, false⟩) rfl rfl (d := d) rfl).mono fun e w' ⟨he, ht⟩ => ⟨?_, ?_⟩
  · rw [he, e1]
  · rw [if_neg (by rw [e1]; decide)] at ht; exact ht

theorem pr_again_call (h : TabIs w0 w t (prS p d P)) (h3 : d.is = 3) (h2 : d.proto = 2) {ip port : Int} (hi : 0 < ip) (hpt : 0 < port) (draw : Int) :
    Calls Try.prog 17 #[.pointer (some ⟨t, 0, none⟩), .int .i64 0, .int .u32 8, .agg #[.int .u32 ip, .int .u16 port], .int .u16 draw] w fun e w' =>
      e = .returned (.tuple #[.agg #[.int .u32 0, .int .u16 0, .int .u32 0, .int .u16 0], .int .i64 292]) ∧ TabIs w0 w' t (prS p d P) :=
  tConnect_err h (by simp [prS]) (fd := 0) (by decide) (f := ⟨1, p, 1, false⟩) rfl rfl (d := d) rfl 8 ip port draw (pr_again hi hpt h3 h2) (by decide)

theorem pr_listens_call (h : TabIs w0 w t (prT p d P { desk0 2 with is := 2, b := p1000 })) {ip port : Int} (hi : 0 < ip) (hpt : 0 < port) (draw : Int) :
    Calls Try.prog 17 #[.pointer (some ⟨t, 0, none⟩), .int .i64 1, .int .u32 8, .agg #[.int .u32 ip, .int .u16 port], .int .u16 draw] w fun e w' =>
      e = .returned (.tuple #[.agg #[.int .u32 0, .int .u16 0, .int .u32 0, .int .u16 0], .int .i64 3]) ∧ TabIs w0 w' t (prT p d P { desk0 2 with is := 2, b := p1000 }) :=
  tConnect_err h (by simp [prT]) (fd := 1) (by decide) (f := ⟨1, 2, 2, false⟩) rfl rfl (d := { desk0 2 with is := 2, b := p1000 }) rfl 8 ip port draw (pr_listens hi hpt rfl) (by decide)
theorem pr_foreign_call (h : TabIs w0 w t (prT p d P { desk0 2 with is := 2, b := p1000 })) (ip port draw : Int) :
    Calls Try.prog 17 #[.pointer (some ⟨t, 0, none⟩), .int .i64 1, .int .u32 9, .agg #[.int .u32 ip, .int .u16 port], .int .u16 draw] w fun e w' =>
      e = .returned (.tuple #[.agg #[.int .u32 0, .int .u16 0, .int .u32 0, .int .u16 0], .int .i64 2]) ∧ TabIs w0 w' t (prT p d P { desk0 2 with is := 2, b := p1000 }) :=
  tConnect_err h (by simp [prT]) (fd := 1) (by decide) (f := ⟨1, 2, 2, false⟩) rfl rfl (d := { desk0 2 with is := 2, b := p1000 }) rfl 9 ip port draw pr_foreign (by decide)

theorem pr_sock (h : TabIs w0 w t ⟨9, 0, [7, 8], [], [], []⟩) (hp : p = 1 ∨ p = 2) :
    Calls Try.prog 8 #[.pointer (some ⟨t, 0, none⟩), .int .u8 p] w fun e w' => e = .returned (.tuple #[.int .i64 0, .int .u64 1, .int .i64 0]) ∧ TabIs w0 w' t (prS p (desk0 p) []) :=
  (tSocket h (by decide) (by decide) (by decide) (by decide) rfl (proto := p) hp).mono fun e w' ⟨he, ht⟩ => ⟨he, ht⟩
theorem pr_sock2 (h : TabIs w0 w t (prS p d P)) :
    Calls Try.prog 8 #[.pointer (some ⟨t, 0, none⟩), .int .u8 2] w fun e w' => e = .returned (.tuple #[.int .i64 1, .int .u64 2, .int .i64 0]) ∧ TabIs w0 w' t (prT p d P (desk0 2)) :=
  (tSocket h (by simp [prS]) (by simp [prS]) (by simp [prS]) (by simp [prS]) rfl (proto := 2) (.inr rfl)).mono fun e w' ⟨he, ht⟩ => ⟨he, ht⟩
theorem pr_desk (h : TabIs w0 w t (prS p d P)) :
    Calls Try.prog 15 #[.pointer (some ⟨t, 0, none⟩), .int .u64 1] w fun e w' => e = .returned (.tuple #[deskVal d, .bool true]) ∧ Grew w w' :=
  tDesk h (id := 1) rfl

/-- what 'Desk' answers behind 'Connect' -/
def PairDesk (w : World) (t : Nat) (b1 : Bnd) (ip port q : Int) : Prop :=
  Calls Try.prog 15 #[.pointer (some ⟨t, 0, none⟩), .int .u64 1] w fun e w' => e = .returned (.tuple #[.agg #[.int .u8 b1.kind, .int .u8 3, .int .u8 b1.kind, .int .u32 b1.ip, .int .u16 q, .bool b1.share, .int .u32 8, .int .u16 q, .int .u32 ip, .int .u16 port], .bool true]) ∧ Grew w w'
theorem pair_desk {b1 : Bnd} {ip port q : Int} (h : TabIs w0 w t (prS p (connDesk d b1 8 ip port) P)) (hk : d.proto = b1.kind) (hq : b1.port = q) (hb : b1.ip = 0 ∨ b1.ip = 8) : PairDesk w t b1 ip port q := by
  have e8 : (if b1.ip = 0 then 8 else b1.ip) = (8 : Int) := by
    rcases hb with h | h <;> simp [h]
  have c := pr_desk h
  have e : deskVal (connDesk d b1 8 ip port) = .agg #[.int .u8 b1.kind, .int .u8 3, .int .u8 b1.kind, .int .u32 b1.ip, .int .u16 q, .bool b1.share, .int .u32 8, .int .u16 q, .int .u32 ip, .int .u16 port] := by
    unfold deskVal connDesk
    simp only [e8, hq, hk]
  rw [e] at c
  exact c

/-- 'Connect' on a socket that has a place: what the call has made since is kept -/
theorem pr_conn_k {w1 : World} (h : TabIs w0 w t (prS p d P)) (hg : Grew w w1) (hp : d.proto = 1 ∨ d.proto = 2) (h0 : d.is ≠ 0) (h2 : d.is ≠ 2) (h3 : d.is ≠ 3 ∨ d.proto = 1) {ip port : Int} (hi : 0 < ip) (hpt : 0 < port) {draw : Int} (hd0 : 0 ≤ draw) (hd1 : draw ≤ 65535) (hb : d.b.ip = 0 ∨ d.b.ip = 8) :
    Calls Try.prog 17 #[.pointer (some ⟨t, 0, none⟩), .int .i64 0, .int .u32 8, .agg #[.int .u32 ip, .int .u16 port], .int .u16 draw] w1 fun e w' =>
      e = .returned (.tuple #[.agg #[.int .u32 8, .int .u16 d.b.port, .int .u32 ip, .int .u16 port], .int .i64 0]) ∧ TabIs w0 w' t (prS p (connDesk d d.b 8 ip port) P) ∧ ∀ j, w.heap.size ≤ j → j < w1.heap.size → w'.heap[j]? = w1.heap[j]? := by
  have e8 : (connDesk d d.b 8 ip port).fip = 8 := by
    unfold connDesk
    rcases hb with h | h
    · simp [h]
    · simp [h]
  have hid : (Lit.int .u64 1).wf = true := by decide
  obtain ⟨fm, sm, pp, pm, ownv, L, ht, hv, hbk, hg0⟩ := h
  obtain ⟨b, hb'⟩ := sget_of hv (id := 1) (d := d) rfl
  have l1 : pm < w.heap.size := ht.blks_lt (.inr (.inr (.inr (.inr (.inl rfl)))))
  have l2 : b < w.heap.size := ht.blks_lt (.inr (.inr (.inr (.inr (.inr (.inr ⟨_, mget_mem hb', rfl⟩))))))
  refine (connect_go (ht.grew hg) (by simp [prS]) (fd := 0) (by decide) (f := ⟨1, p, 1, false⟩) rfl rfl hid hb' 8 ip port hd0 hd1 (pr_ok hi hpt h2 h3) hp).mono fun e w' hpost => ?_
  have hS : ∀ k, (k = pm ∨ k = b) → w0.heap.size ≤ k := by
    rintro k (rfl | rfl)
    · exact hbk k (.inr (.inr (.inr (.inr (.inl rfl)))))
    · exact hbk k (.inr (.inr (.inr (.inr (.inr (.inr ⟨_, mget_mem hb', rfl⟩))))))
  rcases hpost with ⟨c, hc0, hz, hw, he, hg2⟩ | ⟨b2, P2, hpl2, he, ht', ho⟩
  · exact absurd hz h0
  · have hsame : b2 = d.b ∧ P2 = P := by
      rcases hpl2 with ⟨_, e1, e2⟩ | ⟨hz, _⟩
      · exact ⟨e1, e2⟩
      · exact absurd hz h0
    obtain ⟨rfl, rfl⟩ := hsame
    refine ⟨by rw [he, e8], TabIs.step (prS p (connDesk d d.b 8 ip port) P2) hbk (hg0.trans hg) ht' ?_ (put_blocks hb') ho hS, fun j h1 h2 => ho.block j h2 (by omega)⟩
    rw [← vmap_put, hv]
    rfl
end
end Go.Proofs.Ytnpfbdekomhonaa
