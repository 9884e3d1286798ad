/- A whole provision: the state between its statements. -/
import Derived.Test.YtlhgflnmdmifaaaDoorNC
import Derived.Test.YtlhgflnmdmifaaaDoorMB
import Derived.Test.YtlhgflnmdmifaaaDoorPlain
import Derived.Deep.MidRow
import Derived.Deep.WholeRow
import Derived.Deep.CutRange
import Derived.Deep.DeepCutAuto
namespace Go.Proofs.YtlhgflnmdmifaaaDoor.Wk
open Go.RowKit PD

def pvC (p : Pv) (wk ex bk ek ak : Value) : List Value :=
  [.string (mkS p.id), .int .i64 p.rank, .int .i64 p.kind, .string (mkS p.name), .int .i64 p.value] ++ FmC p.when_ wk ++ [ex] ++ StC p.begin_ bk ++ StC p.end_ ek ++ StC p.again ak
abbrev nilS : Value := .slice none 0 0
def zeroP : Obj := .cells (pvC (North.pv0 North.fm00) nilS nilS nilS nilS nilS).toArray 35
def SP (w0 w : World) : Nat → Prop := fun b => w0.heap.size + 2 ≤ b ∧ b < w.heap.size
/-- What the variable's cells hold. -/
def PvIn (w0 w : World) (p : Pv) (wk ex bk ek ak : Value) : Prop :=
  RepK w (SP w0 w) p.when_ wk ∧ w.ownsRow (w0.heap.size + 2) 9 1 ex p.except.length (rowS p.except) ∧ RepKS w (SP w0 w) p.begin_ bk ∧ RepKS w (SP w0 w) p.end_ ek ∧ RepKS w (SP w0 w) p.again ak
/-- Between two statements. -/
structure PSt (w0 : World) (g b o c : Nat) (l : List (Tok × Nat)) (en i : Nat) (p : Pv) (w : World) : Prop where
  par : Par w g b o c l en i
  keep : Keep g w0 w
  res : w.heap[w0.heap.size]? = some zeroP
  var : ∃ wk ex bk ek ak, w.heap[w0.heap.size + 1]? = some (.cells (pvC p wk ex bk ek ak).toArray 35 (0, 0)) ∧ PvIn w0 w p wk ex bk ek ak

theorem PvIn.move {w0 w w' : World} {p : Pv} {wk ex bk ek ak : Value} (h : PvIn w0 w p wk ex bk ek ak) (hs : w.heap.size ≤ w'.heap.size) (hb : ∀ b, b < w.heap.size → w0.heap.size + 2 ≤ b → w'.heap[b]? = w.heap[b]?) : PvIn w0 w' p wk ex bk ek ak := by
  obtain ⟨h1, h2, h3, h4, h5⟩ := h
  refine ⟨h1.to (fun b hl hS => hb b hl hS.1) fun b hl hS => ⟨hS.1, by omega⟩, ⟨h2.1, ?_⟩, h3.to (fun b hl hS => hb b hl hS.1) fun b hl hS => ⟨hS.1, by omega⟩, h4.to (fun b hl hS => hb b hl hS.1) fun b hl hS => ⟨hS.1, by omega⟩, h5.to (fun b hl hS => hb b hl hS.1) fun b hl hS => ⟨hS.1, by omega⟩⟩
  rcases h2.2 with h | ⟨g', cap, cur, e1, e2, e3, e4⟩
  · exact .inl h
  · exact .inr ⟨g', cap, cur, e1, e2, (hb g' (heap_lt e3) e2).trans e3, e4⟩
theorem PSt.step {w0 : World} {g b o c : Nat} {l : List (Tok × Nat)} {en i : Nat} {p : Pv} {w : World} (hg : g < w0.heap.size) (h : PSt w0 g b o c l en i p w) {w' : World} {i' : Nat} (k : Keep g w w') (hp : Par w' g b o c l en i') : PSt w0 g b o c l en i' p w' := by
  obtain ⟨wk, ex, bk, ek, ak, hv, hi⟩ := h.var
  exact ⟨hp, h.keep.trans k, k.blk h.res (by omega), wk, ex, bk, ek, ak, k.blk hv (by omega), hi.move k.size fun b hb hS => k.block b hb (by omega)⟩
theorem PSt.put {w0 : World} {g b o c : Nat} {l : List (Tok × Nat)} {en i : Nat} {p p' : Pv} {w : World} (h0 : Par w0 g b o c l en 0) (h : PSt w0 g b o c l en i p w) {w' : World} (k : Keep (w0.heap.size + 1) w w') {wk ex bk ek ak : Value}
    (hv : w'.heap[w0.heap.size + 1]? = some (.cells (pvC p' wk ex bk ek ak).toArray 35 (0, 0))) (hi : PvIn w0 w p' wk ex bk ek ak) : PSt w0 g b o c l en i p' w' :=
  ⟨h0.past h.par k (by omega), h.keep.newer k (by omega), k.blk h.res (by omega), wk, ex, bk, ek, ak, hv, hi.move k.size fun b hb hS => k.block b hb (by omega)⟩

theorem info_Provision : (Tryd.prog.info? 35).map (·.size) = some 23 := by kernel_rfl
theorem one_first : (pvC (North.pv0 (North.fm0 1)) nilS nilS nilS nilS nilS).toArray.all (·.oneCell') = true := by decide +kernel

def keyRow : Obj := .cells #[.string ⟨#[99, 111, 110, 115, 116, 105, 116, 117, 116, 105, 111, 110]⟩, .string ⟨#[97, 99, 116]⟩, .string ⟨#[114, 101, 103, 117, 108, 97, 116, 105, 111, 110]⟩, .string ⟨#[98, 121, 108, 97, 119]⟩] 9
abbrev keyWs : List Str := [[99, 111, 110, 115, 116, 105, 116, 117, 116, 105, 111, 110], [97, 99, 116], [114, 101, 103, 117, 108, 97, 116, 105, 111, 110], [98, 121, 108, 97, 119]]
theorem key_strs (w : World) : Strs (w.alloc keyRow) w.heap.size keyWs := strs_lit w keyWs

/-- What is left to be read comes to r. -/
def Rest (l : List (Tok × Nat)) (t : Tr Pv) (i : Nat) (r : PR Pv) : Prop := (t.run (l.map (·.1)) i).bind (fun p i => if i < l.length then .err 5 i else .ok p i) = r
theorem Rest.ok {α : Type} {l : List (Tok × Nat)} {t : Tr α} {f : α → Tr Pv} {i i' : Nat} {r : PR Pv} {a : α} (h : Rest l (t.bind f) i r) (e : t.run (l.map (·.1)) i = .ok a i') : Rest l (f a) i' r := by
  unfold Rest at h ⊢
  rw [Tr.run_bind, e] at h
  exact h
theorem Rest.err {α : Type} {l : List (Tok × Nat)} {t : Tr α} {f : α → Tr Pv} {i er j : Nat} {r : PR Pv} (h : Rest l (t.bind f) i r) (e : t.run (l.map (·.1)) i = .err er j) : r = .err er j := by
  unfold Rest at h
  rw [Tr.run_bind, e] at h
  exact h.symm
theorem Rest.out {α : Type} {l : List (Tok × Nat)} {t : Tr α} {f : α → Tr Pv} {i : Nat} {r : PR Pv} (h : Rest l (t.bind f) i r) (e : t.run (l.map (·.1)) i = .out) : r = .out := by
  unfold Rest at h
  rw [Tr.run_bind, e] at h
  exact h.symm
theorem must_goes (l : List Tok) (ws : List Str) (i : Nat) : (Tr.must ws).run l i ≠ .out := by
  intro e
  have := Tr.goes_must (l := l) (ws := ws) (i := i)
  unfold Tr.Goes at this
  rw [e] at this
  exact this
theorem must_lt {l : List Tok} {ws : List Str} {i n i' : Nat} (h : (Tr.must ws).run l i = .ok n i') : n < ws.length ∧ i' = i + 1 ∧ i < l.length := by
  unfold Tr.must at h
  rw [Tr.run_bind] at h
  rcases Tr.run_take_ok l ws i with ⟨j, hr, hl⟩ | hr
  · rw [hr] at h
    simp only [PR.bind, Tr.run, PR.ok.injEq] at h
    obtain ⟨rfl, rfl⟩ := h
    refine ⟨?_, rfl, hl⟩
    rw [Tr.run_take] at hr
    cases hx : l[i]? with
    | none => rw [hx] at hr; simp at hr
    | some t =>
      rw [hx] at hr
      simp only at hr
      split at hr
      · simp only [PR.ok.injEq] at hr; exact (idx_some _ _ _ hr.1).1
      · simp at hr
  · rw [hr] at h
    simp [PR.bind, Tr.run] at h
theorem nm_goes (l : List Tok) (i : Nat) : North.nm.run l i ≠ .out := by
  intro e
  have := Tr.goes_name (l := l) (k := North.isKey) (i := i)
  unfold Tr.Goes at this
  have e : (Tr.name North.isKey).run l i = .out := e
  rw [e] at this
  exact this
theorem number_goes (l : List Tok) (m i : Nat) : (Tr.number m).run l i ≠ .out := by
  intro e
  have := Tr.goes_number (l := l) (m := m) (i := i)
  unfold Tr.Goes at this
  rw [e] at this
  exact this
/-- The first five cells of the variable. -/
theorem PSt.cells {w0 : World} {g b o c : Nat} {l : List (Tok × Nat)} {en i : Nat} {p : Pv} {w : World} (h : PSt w0 g b o c l en i p w) :
    (w.cell? ⟨w0.heap.size + 1, 0, none⟩ = some (.string (mkS p.id)) ∧ w.cell? ⟨w0.heap.size + 1, 1, none⟩ = some (.int .i64 p.rank) ∧ w.cell? ⟨w0.heap.size + 1, 2, none⟩ = some (.int .i64 p.kind) ∧ w.cell? ⟨w0.heap.size + 1, 3, none⟩ = some (.string (mkS p.name)) ∧ w.cell? ⟨w0.heap.size + 1, 4, none⟩ = some (.int .i64 p.value)) ∧
    (∀ j, w.frozen? ⟨w0.heap.size + 1, j, none⟩ = false) ∧ w0.heap.size + 1 < w.heap.size := by
  obtain ⟨wk, ex, bk, ek, ak, hv, _⟩ := h.var
  exact ⟨⟨(blk_cell hv 0).trans rfl, (blk_cell hv 1).trans rfl, (blk_cell hv 2).trans rfl, (blk_cell hv 3).trans rfl, (blk_cell hv 4).trans rfl⟩, fun j => blk_free hv j, heap_lt hv⟩
theorem PSt.put_rank {w0 : World} {g b o c : Nat} {l : List (Tok × Nat)} {en i : Nat} {p : Pv} {w : World} (h0 : Par w0 g b o c l en 0) (h : PSt w0 g b o c l en i p w) (x : Int) : PSt w0 g b o c l en i { p with rank := x } (w.setCell ⟨w0.heap.size + 1, 1, none⟩ (.int .i64 x)) := by
  obtain ⟨wk, ex, bk, ek, ak, hv, hi⟩ := h.var
  exact h.put h0 ((Keep.refl _ w).set 1 _) ((blk_set hv 1 _).trans rfl) hi
theorem PSt.put_id {w0 : World} {g b o c : Nat} {l : List (Tok × Nat)} {en i : Nat} {p : Pv} {w : World} (h0 : Par w0 g b o c l en 0) (h : PSt w0 g b o c l en i p w) (x : Str) : PSt w0 g b o c l en i { p with id := x } (w.setCell ⟨w0.heap.size + 1, 0, none⟩ (.string (mkS x))) := by
  obtain ⟨wk, ex, bk, ek, ak, hv, hi⟩ := h.var
  exact h.put h0 ((Keep.refl _ w).set 0 _) ((blk_set hv 0 _).trans rfl) hi
theorem PSt.put_kind {w0 : World} {g b o c : Nat} {l : List (Tok × Nat)} {en i : Nat} {p : Pv} {w : World} (h0 : Par w0 g b o c l en 0) (h : PSt w0 g b o c l en i p w) (x : Int) : PSt w0 g b o c l en i { p with kind := x } (w.setCell ⟨w0.heap.size + 1, 2, none⟩ (.int .i64 x)) := by
  obtain ⟨wk, ex, bk, ek, ak, hv, hi⟩ := h.var
  exact h.put h0 ((Keep.refl _ w).set 2 _) ((blk_set hv 2 _).trans rfl) hi
theorem PSt.put_name {w0 : World} {g b o c : Nat} {l : List (Tok × Nat)} {en i : Nat} {p : Pv} {w : World} (h0 : Par w0 g b o c l en 0) (h : PSt w0 g b o c l en i p w) (x : Str) : PSt w0 g b o c l en i { p with name := x } (w.setCell ⟨w0.heap.size + 1, 3, none⟩ (.string (mkS x))) := by
  obtain ⟨wk, ex, bk, ek, ak, hv, hi⟩ := h.var
  exact h.put h0 ((Keep.refl _ w).set 3 _) ((blk_set hv 3 _).trans rfl) hi
theorem PSt.put_value {w0 : World} {g b o c : Nat} {l : List (Tok × Nat)} {en i : Nat} {p : Pv} {w : World} (h0 : Par w0 g b o c l en 0) (h : PSt w0 g b o c l en i p w) (x : Int) : PSt w0 g b o c l en i { p with value := x } (w.setCell ⟨w0.heap.size + 1, 4, none⟩ (.int .i64 x)) := by
  obtain ⟨wk, ex, bk, ek, ak, hv, hi⟩ := h.var
  exact h.put h0 ((Keep.refl _ w).set 4 _) ((blk_set hv 4 _).trans rfl) hi
theorem set5_here {w : World} {t : Nat} {p : Pv} {wk ex bk ek ak : Value} {ty : TypeId} (h : w.heap[t]? = some (.cells (pvC p wk ex bk ek ak).toArray ty (0, 0))) (op : Int) (name : Str) (cmp n : Int) (ks : List Fm) (kv : Value) :
    (((((w.setCell ⟨t, 5, none⟩ (.int .i64 op)).setCell ⟨t, 6, none⟩ (.string (mkS name))).setCell ⟨t, 7, none⟩ (.int .i64 cmp)).setCell ⟨t, 8, none⟩ (.int .i64 n)).setCell ⟨t, 9, none⟩ kv).heap[t]? = some (.cells (pvC { p with when_ := .mk op name cmp n ks } kv ex bk ek ak).toArray ty (0, 0)) := by
  have h1 := blk_set h 5 (.int .i64 op)
  have h2 := blk_set h1 6 (.string (mkS name))
  have h3 := blk_set h2 7 (.int .i64 cmp)
  have h4 := blk_set h3 8 (.int .i64 n)
  have h5 := blk_set h4 9 kv
  obtain ⟨id, rank, kind, nm, value, ⟨a1, a2, a3, a4, a5⟩, ec, b', e', a'⟩ := p
  refine h5.trans ?_
  simp [pvC, FmC]
theorem PSt.put_when {w0 : World} {g b o c : Nat} {l : List (Tok × Nat)} {en i : Nat} {p : Pv} {w : World} (h0 : Par w0 g b o c l en 0) (h : PSt w0 g b o c l en i p w) (op : Int) (name : Str) (cmp n : Int) (ks : List Fm) (kv : Value) (hk : RepK w (SP w0 w) (.mk op name cmp n ks) kv) :
    PSt w0 g b o c l en i { p with when_ := .mk op name cmp n ks } (((((w.setCell ⟨w0.heap.size + 1, 5, none⟩ (.int .i64 op)).setCell ⟨w0.heap.size + 1, 6, none⟩ (.string (mkS name))).setCell ⟨w0.heap.size + 1, 7, none⟩ (.int .i64 cmp)).setCell ⟨w0.heap.size + 1, 8, none⟩ (.int .i64 n)).setCell ⟨w0.heap.size + 1, 9, none⟩ kv) := by
  obtain ⟨wk, ex, bk, ek, ak, hv, hi⟩ := h.var
  exact h.put h0 ((((((Keep.refl _ w).set 5 _).set 6 _).set 7 _).set 8 _).set 9 _) (set5_here hv op name cmp n ks kv) ⟨hk, hi.2⟩
theorem PSt.put_except {w0 : World} {g b o c : Nat} {l : List (Tok × Nat)} {en i : Nat} {p : Pv} {w : World} (h0 : Par w0 g b o c l en 0) (h : PSt w0 g b o c l en i p w) (x : List Str) (v : Value) (hx : w.ownsRow (w0.heap.size + 2) 9 1 v x.length (rowS x)) :
    PSt w0 g b o c l en i { p with except := x } (w.setCell ⟨w0.heap.size + 1, 10, none⟩ v) := by
  obtain ⟨wk, ex, bk, ek, ak, hv, hi⟩ := h.var
  refine h.put h0 ((Keep.refl _ w).set 10 _) (wk := wk) (ex := v) (bk := bk) (ek := ek) (ak := ak) ?_ ⟨hi.1, hx, hi.2.2⟩
  have h1 := blk_set hv 10 v
  obtain ⟨id, rank, kind, nm, value, ⟨a1, a2, a3, a4, a5⟩, ec, b', e', a'⟩ := p
  refine h1.trans ?_
  simp [pvC, FmC]
theorem Rest.ok2 {α β : Type} {l : List (Tok × Nat)} {t : Tr α} {f : α → Tr β} {q : β → Tr Pv} {i i' : Nat} {r : PR Pv} {a : α} (h : Rest l ((t.bind f).bind q) i r) (e : t.run (l.map (·.1)) i = .ok a i') : Rest l ((f a).bind q) i' r := by
  unfold Rest at h ⊢
  rw [Tr.run_bind, Tr.run_bind, e] at h
  rw [Tr.run_bind]
  exact h
/-- The other cells of the variable. -/
theorem PSt.cells5 {w0 : World} {g b o c : Nat} {l : List (Tok × Nat)} {en i : Nat} {p : Pv} {w : World} (h : PSt w0 g b o c l en i p w) :
    ∃ a5 a6 a7 a8 a9 : Value, w.cell? ⟨w0.heap.size + 1, 5, none⟩ = some a5 ∧ w.cell? ⟨w0.heap.size + 1, 6, none⟩ = some a6 ∧ w.cell? ⟨w0.heap.size + 1, 7, none⟩ = some a7 ∧ w.cell? ⟨w0.heap.size + 1, 8, none⟩ = some a8 ∧ w.cell? ⟨w0.heap.size + 1, 9, none⟩ = some a9 := by
  obtain ⟨wk, ex, bk, ek, ak, hv, _⟩ := h.var
  obtain ⟨id, rank, kind, nm, value, ⟨a1, a2, a3, a4, a5⟩, ec, b', e', a'⟩ := p
  exact ⟨_, _, _, _, _, (blk_cell hv 5).trans rfl, (blk_cell hv 6).trans rfl, (blk_cell hv 7).trans rfl, (blk_cell hv 8).trans rfl, (blk_cell hv 9).trans rfl⟩
theorem PSt.cell10 {w0 : World} {g b o c : Nat} {l : List (Tok × Nat)} {en i : Nat} {p : Pv} {w : World} (h : PSt w0 g b o c l en i p w) : ∃ a : Value, w.cell? ⟨w0.heap.size + 1, 10, none⟩ = some a := by
  obtain ⟨wk, ex, bk, ek, ak, hv, _⟩ := h.var
  obtain ⟨id, rank, kind, nm, value, ⟨a1, a2, a3, a4, a5⟩, ec, b', e', a'⟩ := p
  exact ⟨_, (blk_cell hv 10).trans rfl⟩
theorem pvC_length (p : Pv) (wk ex bk ek ak : Value) : (pvC p wk ex bk ek ak).length = 23 := by
  obtain ⟨id, rank, kind, nm, value, ⟨a1, a2, a3, a4, a5⟩, ec, ⟨b1, b2, b3, b4⟩, ⟨e1, e2, e3, e4⟩, ⟨c1, c2, c3, c4⟩⟩ := p
  rfl
theorem PSt.cell {w0 : World} {g b o c : Nat} {l : List (Tok × Nat)} {en i : Nat} {p : Pv} {w : World} (h : PSt w0 g b o c l en i p w) (j : Nat) (hj : j < 23) : ∃ a : Value, w.cell? ⟨w0.heap.size + 1, j, none⟩ = some a := by
  obtain ⟨wk, ex, bk, ek, ak, hv, _⟩ := h.var
  have hl := pvC_length p wk ex bk ek ak
  exact ⟨(pvC p wk ex bk ek ak)[j], by rw [blk_cell hv j]; simp⟩
theorem own_base {base base' : Nat} {w : World} {e : TypeId} {size n : Nat} {v : Value} {xs : List Value} (h : w.ownsRow base e size v n xs) (hb : base' ≤ base) : w.ownsRow base' e size v n xs := by
  refine ⟨h.1, ?_⟩
  rcases h.2 with h | ⟨g', cap, cur, h1, h2, h3⟩
  · exact .inl h
  · exact .inr ⟨g', cap, cur, h1, by omega, h3⟩
def set4at (w : World) (t j : Nat) (a b c d : Value) : World := (((w.setCell ⟨t, j, none⟩ a).setCell ⟨t, j + 1, none⟩ b).setCell ⟨t, j + 2, none⟩ c).setCell ⟨t, j + 3, none⟩ d
theorem set12_here {w : World} {t : Nat} {p : Pv} {wk ex bk ek ak : Value} {ty : TypeId} (h : w.heap[t]? = some (.cells (pvC p wk ex bk ek ak).toArray ty (0, 0)))
    (o1 : Int) (s1 : Str) (d1 : Int) (k1 : List St) (v1 : Value) (o2 : Int) (s2 : Str) (d2 : Int) (k2 : List St) (v2 : Value) (o3 : Int) (s3 : Str) (d3 : Int) (k3 : List St) (v3 : Value) :
    (set4at (set4at (set4at w t 11 (.int .i64 o1) (.string (mkS s1)) (.int .i64 d1) v1) t 15 (.int .i64 o2) (.string (mkS s2)) (.int .i64 d2) v2) t 19 (.int .i64 o3) (.string (mkS s3)) (.int .i64 d3) v3).heap[t]? =
      some (.cells (pvC { p with begin_ := .mk o1 s1 d1 k1, end_ := .mk o2 s2 d2 k2, again := .mk o3 s3 d3 k3 } wk ex v1 v2 v3).toArray ty (0, 0)) := by
  have h1 := blk_set h 11 (.int .i64 o1)
  have h1 := blk_set h1 12 (.string (mkS s1))
  have h1 := blk_set h1 13 (.int .i64 d1)
  have h1 := blk_set h1 14 v1
  have h1 := blk_set h1 15 (.int .i64 o2)
  have h1 := blk_set h1 16 (.string (mkS s2))
  have h1 := blk_set h1 17 (.int .i64 d2)
  have h1 := blk_set h1 18 v2
  have h1 := blk_set h1 19 (.int .i64 o3)
  have h1 := blk_set h1 20 (.string (mkS s3))
  have h1 := blk_set h1 21 (.int .i64 d3)
  have h1 := blk_set h1 22 v3
  unfold set4at
  obtain ⟨id, rank, kind, nm, value, ⟨a1, a2, a3, a4, a5⟩, ec, ⟨b1, b2, b3, b4⟩, ⟨e1, e2, e3, e4⟩, ⟨c1, c2, c3, c4⟩⟩ := p
  refine h1.trans ?_
  simp [pvC, FmC, StC]
theorem set4at_keep {t : Nat} {w w' : World} (h : Keep t w w') (j : Nat) (a b c d : Value) : Keep t w (set4at w' t j a b c d) := (((h.set j a).set (j + 1) b).set (j + 2) c).set (j + 3) d
theorem PSt.put_three {w0 : World} {g b o c : Nat} {l : List (Tok × Nat)} {en i : Nat} {p : Pv} {w : World} (h0 : Par w0 g b o c l en 0) (h : PSt w0 g b o c l en i p w)
    (o1 : Int) (s1 : Str) (d1 : Int) (k1 : List St) (v1 : Value) (o2 : Int) (s2 : Str) (d2 : Int) (k2 : List St) (v2 : Value) (o3 : Int) (s3 : Str) (d3 : Int) (k3 : List St) (v3 : Value)
    (h1 : RepKS w (SP w0 w) (.mk o1 s1 d1 k1) v1) (h2 : RepKS w (SP w0 w) (.mk o2 s2 d2 k2) v2) (h3 : RepKS w (SP w0 w) (.mk o3 s3 d3 k3) v3) :
    PSt w0 g b o c l en i { p with begin_ := .mk o1 s1 d1 k1, end_ := .mk o2 s2 d2 k2, again := .mk o3 s3 d3 k3 }
      (set4at (set4at (set4at w (w0.heap.size + 1) 11 (.int .i64 o1) (.string (mkS s1)) (.int .i64 d1) v1) (w0.heap.size + 1) 15 (.int .i64 o2) (.string (mkS s2)) (.int .i64 d2) v2) (w0.heap.size + 1) 19 (.int .i64 o3) (.string (mkS s3)) (.int .i64 d3) v3) := by
  obtain ⟨wk, ex, bk, ek, ak, hv, hi⟩ := h.var
  exact h.put h0 (set4at_keep (set4at_keep (set4at_keep (Keep.refl _ w) _ _ _ _ _) _ _ _ _ _) _ _ _ _ _) (set12_here hv o1 s1 d1 k1 v1 o2 s2 d2 k2 v2 o3 s3 d3 k3 v3) ⟨hi.1, hi.2.1, h1, h2, h3⟩
/-- A provision that was read lies in new memory. -/
def EncPv (w0 w' : World) (p : Pv) (v : Value) : Prop := ∃ wk ex bk ek ak, v = .agg (pvC p wk ex bk ek ak).toArray ∧ PvIn w0 w' p wk ex bk ek ak
theorem pvC_one {w0 w : World} {p : Pv} {wk ex bk ek ak : Value} (h : PvIn w0 w p wk ex bk ek ak) : ∀ u ∈ pvC p wk ex bk ek ak, u.oneCell' = true := by
  obtain ⟨h1, h2, h3, h4, h5⟩ := h
  obtain ⟨vA, vcc, rfl⟩ := own_slice h2
  intro u hu
  unfold pvC at hu
  simp only [List.mem_append, List.mem_cons, List.not_mem_nil, or_false] at hu
  rcases hu with ((((hu | hu) | rfl) | hu) | hu) | hu
  · rcases hu with rfl | rfl | rfl | rfl | rfl <;> rfl
  · exact FmC_one _ _ h1.one u hu
  · rfl
  · exact StC_one _ _ h3.one u hu
  · exact StC_one _ _ h4.one u hu
  · exact StC_one _ _ h5.one u hu
theorem setRow_blk {w : World} {t : Nat} {cs : Array Value} {ty : TypeId} {fr : Nat × Nat} (h : w.heap[t]? = some (.cells cs ty fr)) (cs' : Array Value) : (w.setRow t cs').heap[t]? = some (.cells cs' ty fr) := by
  simp [World.setRow, Array.getElem?_modify, h]
theorem setRow_keep (w : World) (t : Nat) (cs : Array Value) : Keep t w (w.setRow t cs) :=
  ⟨rfl, rfl, rfl, by simp [World.setRow], fun k _ hk => by simp [World.setRow, Array.getElem?_modify, Ne.symm hk]⟩
theorem results_one {P : Program} {fn : Func} {t : Tmp} {ty : TypeId} (h : fn.results = #[.cell t ty]) (a : Act) (w : World) {ad : Addr} {v : Value} (ha : a.tmps.getD t undef = .pointer (some ad)) (hl : (loadVar ty ad).run P w = .ok v w) :
    (results fn a.tmps).run P w = .ok v w := by
  have ha' : a.tmps[t]?.getD undef = .pointer (some ad) := by rw [← ha]; simp
  simp only [results, h]
  simp [ha', hl, asAddr]
/-- The variable is handed back. -/
theorem PSt.done {w0 : World} {g b o c : Nat} {l : List (Tok × Nat)} {en i : Nat} {p : Pv} {w : World} (h0 : Par w0 g b o c l en 0) (h : PSt w0 g b o c l en i p w) {wk ex bk ek ak : Value}
    (_hv : w.heap[w0.heap.size + 1]? = some (.cells (pvC p wk ex bk ek ak).toArray 35 (0, 0))) (hi : PvIn w0 w p wk ex bk ek ak) :
    (w.setRow w0.heap.size (pvC p wk ex bk ek ak).toArray).heap[w0.heap.size]? = some (.cells (pvC p wk ex bk ek ak).toArray 35 (0, 0)) ∧
    Out (EncPv w0) (.ok p i) g b o c l en w0 (.returned (.agg (pvC p wk ex bk ek ak).toArray)) (w.setRow w0.heap.size (pvC p wk ex bk ek ak).toArray) := by
  have hk := setRow_keep w w0.heap.size (pvC p wk ex bk ek ak).toArray
  refine ⟨setRow_blk h.res _, h.keep.newer hk (Nat.le_refl _), _, rfl, ⟨wk, ex, bk, ek, ak, rfl, hi.move hk.size fun b hb hS => hk.block b hb (by omega)⟩, h0.past h.par hk (Nat.le_refl _)⟩
end Go.Proofs.YtlhgflnmdmifaaaDoor.Wk
