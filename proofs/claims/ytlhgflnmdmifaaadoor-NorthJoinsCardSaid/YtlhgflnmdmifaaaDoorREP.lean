/- Formulas and conditions of commencement in memory. -/
import Derived.Test.YtlhgflnmdmifaaaDoorBase
import Derived.Laws.OwnMore
import Derived.Maps.AppendAt
namespace Go.Proofs.YtlhgflnmdmifaaaDoor.Wk
open Go.RowKit PD

/-- A bound that every capacity meets. -/
abbrev capMax : Nat := 9223372036854775807

mutual
/-- The kids of a formula lie in blocks of S. -/
def RepK (w : World) (S : Nat → Prop) : Fm → Value → Prop
  | .mk _ _ _ _ ks, kv => ∃ A c, kv = .slice A ks.length c ∧ ks.length ≤ c ∧ c ≤ capMax ∧ (ks ≠ [] → ∃ b o, A = some ⟨b, o, none⟩ ∧ S b ∧ RepRow w S b o ks)
def RepRow (w : World) (S : Nat → Prop) (b : Nat) : Nat → List Fm → Prop
  | _, [] => True
  | o, .mk op name cmp n ks :: r => (w.cell? ⟨b, o, none⟩ = some (.int .i64 op) ∧ w.cell? ⟨b, o + 1, none⟩ = some (.string (mkS name)) ∧ w.cell? ⟨b, o + 2, none⟩ = some (.int .i64 cmp) ∧
      w.cell? ⟨b, o + 3, none⟩ = some (.int .i64 n) ∧ ∃ kv, w.cell? ⟨b, o + 4, none⟩ = some kv ∧ RepK w S (.mk op name cmp n ks) kv) ∧ RepRow w S b (o + 5) r
end

theorem cell_same {w w' : World} {b j : Nat} {v : Value} (h : w'.heap[b]? = w.heap[b]?) (hc : w.cell? ⟨b, j, none⟩ = some v) : w'.cell? ⟨b, j, none⟩ = some v := by
  rw [← hc]; unfold World.cell?; rw [h]

mutual
theorem RepK.to {w w' : World} {S S' : Nat → Prop} (hb : ∀ b, b < w.heap.size → S b → w'.heap[b]? = w.heap[b]?) (hS : ∀ b, b < w.heap.size → S b → S' b) : ∀ (f : Fm) (kv : Value), RepK w S f kv → RepK w' S' f kv
  | .mk op name cmp n ks, kv, h => by
    rw [RepK] at h ⊢
    obtain ⟨A, c, rfl, h1, h2, h3⟩ := h
    refine ⟨A, c, rfl, h1, h2, fun hk => ?_⟩
    obtain ⟨b, o, rfl, hSb, hr⟩ := h3 hk
    have hlt : b < w.heap.size := by
      cases ks with
      | nil => exact absurd rfl hk
      | cons k r => obtain ⟨op, name, cmp, n, ks⟩ := k; rw [RepRow] at hr; exact cell_lt hr.1.1
    exact ⟨b, o, rfl, hS b hlt hSb, RepRow.to hb hS (hb b hlt hSb) ks o hr⟩
theorem RepRow.to {w w' : World} {S S' : Nat → Prop} (hb : ∀ b, b < w.heap.size → S b → w'.heap[b]? = w.heap[b]?) (hS : ∀ b, b < w.heap.size → S b → S' b) {b : Nat} (hbb : w'.heap[b]? = w.heap[b]?) : ∀ (l : List Fm) (o : Nat), RepRow w S b o l → RepRow w' S' b o l
  | [], o, _ => by rw [RepRow]; trivial
  | .mk op name cmp n ks :: r, o, h => by
    rw [RepRow] at h ⊢
    obtain ⟨⟨h0, h1, h2, h3, kv, h4, hk⟩, hr⟩ := h
    exact ⟨⟨cell_same hbb h0, cell_same hbb h1, cell_same hbb h2, cell_same hbb h3, kv, cell_same hbb h4, RepK.to hb hS _ kv hk⟩, RepRow.to hb hS hbb r (o + 5) hr⟩
end

/-- A formula's cells; kv: its kids' slice. -/
def FmC : Fm → Value → List Value
  | .mk op name cmp n _, kv => [.int .i64 op, .string (mkS name), .int .i64 cmp, .int .i64 n, kv]
def FmV (f : Fm) (kv : Value) : Value := .agg (FmC f kv).toArray
/-- Formulas one behind the other as cells. -/
def RepL (w : World) (S : Nat → Prop) : List Fm → List Value → Prop
  | [], cs => cs = []
  | f :: r, cs => ∃ kv q, cs = FmC f kv ++ q ∧ RepK w S f kv ∧ RepL w S r q
theorem FmC_length (f : Fm) (kv : Value) : (FmC f kv).length = 5 := by cases f; rfl
theorem RepL.length {w : World} {S : Nat → Prop} : ∀ {l : List Fm} {cs : List Value}, RepL w S l cs → cs.length = 5 * l.length
  | [], cs, h => by rw [RepL] at h; simp [h]
  | f :: r, cs, h => by
    obtain ⟨kv, q, rfl, _, hr⟩ := h
    rw [List.length_append, FmC_length, RepL.length hr, List.length_cons]; omega
theorem RepL.snoc {w : World} {S : Nat → Prop} {f : Fm} {kv : Value} (hk : RepK w S f kv) : ∀ {l : List Fm} {cs : List Value}, RepL w S l cs → RepL w S (l ++ [f]) (cs ++ FmC f kv)
  | [], cs, h => by rw [RepL] at h; subst h; exact ⟨kv, [], by simp, hk, rfl⟩
  | g :: r, cs, h => by
    obtain ⟨kv', q, rfl, h1, hr⟩ := h
    exact ⟨kv', q ++ FmC f kv, by simp, h1, RepL.snoc hk hr⟩
theorem RepL.to {w w' : World} {S S' : Nat → Prop} (hb : ∀ b, b < w.heap.size → S b → w'.heap[b]? = w.heap[b]?) (hS : ∀ b, b < w.heap.size → S b → S' b) : ∀ {l : List Fm} {cs : List Value}, RepL w S l cs → RepL w' S' l cs
  | [], cs, h => h
  | g :: r, cs, h => by
    obtain ⟨kv', q, rfl, h1, hr⟩ := h
    exact ⟨kv', q, rfl, RepK.to hb hS _ _ h1, RepL.to hb hS hr⟩
theorem RepL.row {w : World} {S : Nat → Prop} {b : Nat} : ∀ {l : List Fm} {cs : List Value} {o : Nat}, RepL w S l cs → (∀ j u, cs[j]? = some u → w.cell? ⟨b, o + j, none⟩ = some u) → RepRow w S b o l
  | [], cs, o, _, _ => by rw [RepRow]; trivial
  | .mk op name cmp n ks :: r, cs, o, h, hc => by
    obtain ⟨kv, q, rfl, h1, hr⟩ := h
    rw [RepRow]
    refine ⟨⟨hc 0 _ rfl, hc 1 _ rfl, hc 2 _ rfl, hc 3 _ rfl, kv, hc 4 _ rfl, h1⟩, hr.row fun j u hj => ?_⟩
    have := hc (5 + j) u (by rw [List.getElem?_append_right (by rw [FmC_length]; omega), FmC_length]; simpa using hj)
    rwa [← Nat.add_assoc] at this
theorem FmC_one (f : Fm) (kv : Value) (hk : kv.oneCell' = true) : ∀ u ∈ FmC f kv, u.oneCell' = true := by
  cases f
  intro u hu
  simp only [FmC, List.mem_cons, List.not_mem_nil, or_false] at hu
  rcases hu with rfl | rfl | rfl | rfl | rfl
  · rfl
  · rfl
  · rfl
  · rfl
  · exact hk
theorem RepK.one {w : World} {S : Nat → Prop} {f : Fm} {kv : Value} (h : RepK w S f kv) : kv.oneCell' = true := by
  cases f; rw [RepK] at h; obtain ⟨A, c, rfl, _⟩ := h; rfl
theorem RepK.slice {w : World} {S : Nat → Prop} {op : Int} {name : Str} {cmp n : Int} {ks : List Fm} {kv : Value} (h : RepK w S (.mk op name cmp n ks) kv) : ∃ A c, kv = .slice A ks.length c ∧ ks.length ≤ c ∧ c ≤ capMax := by
  rw [RepK] at h; obtain ⟨A, c, h1, h2, h3, _⟩ := h; exact ⟨A, c, h1, h2, h3⟩
/-- A node without kids. -/
theorem RepK.leaf (w : World) (S : Nat → Prop) (op : Int) (name : Str) (cmp n : Int) : RepK w S (.mk op name cmp n []) (.slice none 0 0) := by
  rw [RepK]; exact ⟨none, 0, rfl, Nat.le_refl _, by simp, fun h => absurd rfl h⟩
theorem RepK.head {w : World} {S : Nat → Prop} {op op' : Int} {name name' : Str} {cmp cmp' n n' : Int} {ks : List Fm} {kv : Value} (h : RepK w S (.mk op name cmp n ks) kv) : RepK w S (.mk op' name' cmp' n' ks) kv := by
  rw [RepK] at h ⊢; exact h
/-- A row that the call owns becomes the kids of a node. -/
theorem RepK.node {w : World} {S : Nat → Prop} {base : Nat} {v : Value} {cs : List Value} {l : List Fm} (op : Int) (name : Str) (cmp n : Int) (ho : w.ownsRow base 29 5 v l.length cs) (hr : RepL w S l cs) (hS : ∀ g, v.ownBlock = some g → S g) :
    RepK w S (.mk op name cmp n l) v := by
  rw [RepK]
  rcases ho.2 with ⟨rfl, hn⟩ | ⟨g, cap, cur, rfl, hb, hg, hc, hm, _, _⟩
  · exact ⟨none, 0, by rw [hn], by omega, by simp, fun h => absurd (List.eq_nil_of_length_eq_zero hn) h⟩
  · refine ⟨_, cap, rfl, hc, by simpa [maxLen] using hm, fun _ => ⟨g, 0, rfl, hS g rfl, hr.row fun j u hj => ?_⟩⟩
    have := ho.cells (g := g) rfl j u hj
    rw [add_plain] at this
    simpa using this
theorem own_form {w : World} {base : Nat} {e : TypeId} {size n : Nat} {v : Value} {xs : List Value} (h : w.ownsRow base e size v n xs) (hn : 0 < n) :
    ∃ g cap, v = .slice (some ⟨g, 0, none⟩) n cap ∧ base ≤ g ∧ g < w.heap.size ∧ n ≤ cap ∧ cap ≤ capMax := by
  rcases h.2 with ⟨_, h0⟩ | ⟨g, cap, cur, rfl, hb, hg, hc, hm, _, _⟩
  · omega
  · exact ⟨g, cap, rfl, hb, heap_lt hg, hc, by simpa [maxLen] using hm⟩
theorem own_cell {w : World} {base : Nat} {e : TypeId} {size n g cap : Nat} {xs : List Value} (h : w.ownsRow base e size (.slice (some ⟨g, 0, none⟩) n cap) n xs) {j : Nat} {u : Value} (hj : xs[j]? = some u) : w.cell? ⟨g, j, none⟩ = some u := by
  have := h.cells (g := g) rfl j u hj
  rwa [add_plain] at this

/-! ### A result of five cells -/
theorem Keep.newer {g t : Nat} {w w1 w2 : World} (h : Keep g w w1) (k : Keep t w1 w2) (ht : w.heap.size ≤ t) : Keep g w w2 :=
  ⟨k.os.trans h.os, k.tape.trans h.tape, k.output.trans h.output, Nat.le_trans h.size k.size, fun i hi hg => (k.block i (Nat.lt_of_lt_of_le hi h.size) (by omega)).trans (h.block i hi hg)⟩
theorem Toks.past {t : Nat} {w w3 W : World} {b o : Nat} {l : List (Tok × Nat)} (h0 : Toks w b o l) (h : Toks w3 b o l) (k : Keep t w3 W) (ht : w.heap.size ≤ t) : Toks W b o l := by
  have ne : ∀ (j : Nat) (x : Tok × Nat), l[j]? = some x → b ≠ t := fun j x e => by have := cell_lt (h0.kind j x.1 x.2 e); omega
  exact ⟨fun j x p e => k.cell (h.kind j x p e) (ne j _ e), fun j x p e => k.cell (h.text j x p e) (ne j _ e), fun j x p e => k.cell (h.n j x p e) (ne j _ e), fun j x p e => k.cell (h.at_ j x p e) (ne j _ e)⟩
theorem Par.past {t : Nat} {w w3 W : World} {g b o c : Nat} {l : List (Tok × Nat)} {en i0 i : Nat} (h0 : Par w g b o c l en i0) (h : Par w3 g b o c l en i) (k : Keep t w3 W) (ht : w.heap.size ≤ t) : Par W g b o c l en i := by
  have hg := h0.lt
  refine ⟨h.hi, h.hc, ?_, h0.toks.past h.toks k ht, h.ne, h.ok, h.few, ?_, h.mg⟩
  · obtain ⟨A, h1, h2⟩ := h.blk
    exact ⟨A, h1, k.blk h2 (by omega)⟩
  · obtain ⟨m0, hm0⟩ := h0.ml
    obtain ⟨m, hm⟩ := h.ml
    exact ⟨m, k.cell hm (by have := cell_lt hm0; omega)⟩
def set5 (w : World) (t : Nat) (a b c d e : Value) : World := ((((w.setCell ⟨t, 0, none⟩ a).setCell ⟨t, 1, none⟩ b).setCell ⟨t, 2, none⟩ c).setCell ⟨t, 3, none⟩ d).setCell ⟨t, 4, none⟩ e
theorem set5_keep (w : World) (t : Nat) (a b c d e : Value) : Keep t w (set5 w t a b c d e) := ((((((Keep.refl t w).set 0 a).set 1 b).set 2 c).set 3 d).set 4 e)
theorem set5_blk {w : World} {t : Nat} {v0 v1 v2 v3 v4 : Value} {ty : TypeId} (h : w.heap[t]? = some (.cells #[v0, v1, v2, v3, v4] ty (0, 0))) (a b c d e : Value) : (set5 w t a b c d e).heap[t]? = some (.cells #[a, b, c, d, e] ty (0, 0)) := by
  have h1 := blk_set h 0 a
  have h2 := blk_set h1 1 b
  have h3 := blk_set h2 2 c
  have h4 := blk_set h3 3 d
  have h5 := blk_set h4 4 e
  simpa [set5] using h5
/-- The facts on a result variable of five cells. -/
theorem blk5 {w : World} {t : Nat} {v0 v1 v2 v3 v4 : Value} {ty : TypeId} (h : w.heap[t]? = some (.cells #[v0, v1, v2, v3, v4] ty (0, 0))) :
    (w.cell? ⟨t, 0, none⟩ = some v0 ∧ w.cell? ⟨t, 1, none⟩ = some v1 ∧ w.cell? ⟨t, 2, none⟩ = some v2 ∧ w.cell? ⟨t, 3, none⟩ = some v3 ∧ w.cell? ⟨t, 4, none⟩ = some v4) ∧
    (w.frozen? ⟨t, 0, none⟩ = false ∧ w.frozen? ⟨t, 1, none⟩ = false ∧ w.frozen? ⟨t, 2, none⟩ = false ∧ w.frozen? ⟨t, 3, none⟩ = false ∧ w.frozen? ⟨t, 4, none⟩ = false) ∧ t < w.heap.size :=
  ⟨⟨(blk_cell h 0).trans rfl, (blk_cell h 1).trans rfl, (blk_cell h 2).trans rfl, (blk_cell h 3).trans rfl, (blk_cell h 4).trans rfl⟩, ⟨blk_free h 0, blk_free h 1, blk_free h 2, blk_free h 3, blk_free h 4⟩, heap_lt h⟩
theorem Keep.of_grown {B : Nat} {w w' : World} {row : Option Nat} (h : w.grownBy w' row) (hr : ∀ k, row = some k → B ≤ k) : ∃ t, B ≤ t ∧ Keep t w w' := by
  cases row with
  | none => exact ⟨B, Nat.le_refl _, h.os, h.tape, h.output, h.size, fun k hk _ => h.block k hk (by simp)⟩
  | some r => exact ⟨r, hr r rfl, h.os, h.tape, h.output, h.size, fun k hk hne => h.block k hk (by simpa using hne)⟩

def zeroF : Obj := .cells #[.int .i64 0, .string ⟨#[]⟩, .int .i64 0, .int .i64 0, .slice none 0 0] 29
/-- A result that came from a call is put into this call's own result variable. -/
theorem wrapF {w w2 : World} {g b o c : Nat} {l : List (Tok × Nat)} {en i i' : Nat} (h : Par w g b o c l en i) {f : Fm} {kv : Value} (hrep : RepK w2 (fun b => (w.alloc zeroF).heap.size ≤ b ∧ b < w2.heap.size) f kv) (hP : Par w2 g b o c l en i') (hK : Keep g (w.alloc zeroF) w2)
    (v0 v1 v2 v3 v4 : Value) : Keep g w (set5 w2 w.heap.size v0 v1 v2 v3 v4) ∧ RepK (set5 w2 w.heap.size v0 v1 v2 v3 v4) (fun b => w.heap.size ≤ b ∧ b < (set5 w2 w.heap.size v0 v1 v2 v3 v4).heap.size) f kv ∧ Par (set5 w2 w.heap.size v0 v1 v2 v3 v4) g b o c l en i' := by
  have hKt := set5_keep w2 w.heap.size v0 v1 v2 v3 v4
  generalize set5 w2 w.heap.size v0 v1 v2 v3 v4 = W at *
  have hsz : (w.alloc zeroF).heap.size = w.heap.size + 1 := by simp
  refine ⟨((Keep.of_below (below_new w zeroF)).trans hK).newer hKt (Nat.le_refl _), hrep.to (fun b hb hS => hKt.block b hb (by omega)) fun b hb hS => ⟨by omega, Nat.lt_of_lt_of_le hb hKt.size⟩, h.past hP hKt (Nat.le_refl _)⟩
theorem wrapF_blk {w w2 : World} {g : Nat} (hg : g < w.heap.size) (hK : Keep g (w.alloc zeroF) w2) : w2.heap[w.heap.size]? = some zeroF := hK.blk (heap_alloc_new w zeroF) (by omega)

/-- A row of constant strings. -/
theorem strs_lit (w : World) (ws : List Str) : Strs (w.alloc (.cells (ws.map fun s => Value.string (mkS s)).toArray 9)) w.heap.size ws := by
  intro j s hj
  rw [blk_cell (heap_alloc_new w _) j]
  simp [hj]

/-- A node with one kid. -/
theorem RepK.node1 {w : World} {S : Nat → Prop} {f : Fm} {kv : Value} (h : RepK w S f kv) (op : Int) (name : Str) (cmp n : Int) (t : Nat) (ht : t = w.heap.size) :
    RepK (w.alloc (.cells (FmC f kv).toArray 29)) (fun b => (S b ∧ b < w.heap.size) ∨ b = t) (.mk op name cmp n [f]) (.slice (some ⟨t, 0, none⟩) 1 1) := by
  subst ht
  have ho := World.ownsRow_lit (base := 0) (e := 29) (size := 5) w (FmC f kv).toArray 1 (Nat.zero_le _) (by decide) (by simp [FmC_length])
  refine RepK.node (l := [f]) (cs := (FmC f kv).toArray.toList) op name cmp n ho ⟨kv, [], by simp, h.to (fun b hb _ => alloc_old w _ hb) fun b hb hS => .inl ⟨hS, hb⟩, rfl⟩ fun g hg => ?_
  simp only [Value.ownBlock, Option.some.injEq] at hg
  exact .inr hg.symm
theorem set5_size (w : World) (t : Nat) (a b c d e : Value) : (set5 w t a b c d e).heap.size = w.heap.size := by simp [set5, World.setCell]
end Go.Proofs.YtlhgflnmdmifaaaDoor.Wk
/- Conditions of commencement in memory. -/
namespace Go.Proofs.YtlhgflnmdmifaaaDoor.Wk
open Go.RowKit PD

mutual
/-- The kids of a formula lie in blocks of S. -/
def RepKS (w : World) (S : Nat → Prop) : St → Value → Prop
  | .mk _ _ _ ks, kv => ∃ A c, kv = .slice A ks.length c ∧ ks.length ≤ c ∧ c ≤ capMax ∧ (ks ≠ [] → ∃ b o, A = some ⟨b, o, none⟩ ∧ S b ∧ RepRowS w S b o ks)
def RepRowS (w : World) (S : Nat → Prop) (b : Nat) : Nat → List St → Prop
  | _, [] => True
  | o, .mk op name n ks :: r => (w.cell? ⟨b, o, none⟩ = some (.int .i64 op) ∧ w.cell? ⟨b, o + 1, none⟩ = some (.string (mkS name)) ∧ w.cell? ⟨b, o + 2, none⟩ = some (.int .i64 n) ∧
      ∃ kv, w.cell? ⟨b, o + 3, none⟩ = some kv ∧ RepKS w S (.mk op name n ks) kv) ∧ RepRowS w S b (o + 4) r
end
mutual
theorem RepKS.to {w w' : World} {S S' : Nat → Prop} (hb : ∀ b, b < w.heap.size → S b → w'.heap[b]? = w.heap[b]?) (hS : ∀ b, b < w.heap.size → S b → S' b) : ∀ (f : St) (kv : Value), RepKS w S f kv → RepKS w' S' f kv
  | .mk op name n ks, kv, h => by
    rw [RepKS] at h ⊢
    obtain ⟨A, c, rfl, h1, h2, h3⟩ := h
    refine ⟨A, c, rfl, h1, h2, fun hk => ?_⟩
    obtain ⟨b, o, rfl, hSb, hr⟩ := h3 hk
    have hlt : b < w.heap.size := by
      cases ks with
      | nil => exact absurd rfl hk
      | cons k r => obtain ⟨op, name, n, ks⟩ := k; rw [RepRowS] at hr; exact cell_lt hr.1.1
    exact ⟨b, o, rfl, hS b hlt hSb, RepRowS.to hb hS (hb b hlt hSb) ks o hr⟩
theorem RepRowS.to {w w' : World} {S S' : Nat → Prop} (hb : ∀ b, b < w.heap.size → S b → w'.heap[b]? = w.heap[b]?) (hS : ∀ b, b < w.heap.size → S b → S' b) {b : Nat} (hbb : w'.heap[b]? = w.heap[b]?) : ∀ (l : List St) (o : Nat), RepRowS w S b o l → RepRowS w' S' b o l
  | [], o, _ => by rw [RepRowS]; trivial
  | .mk op name n ks :: r, o, h => by
    rw [RepRowS] at h ⊢
    obtain ⟨⟨h0, h1, h2, kv, h3, hk⟩, hr⟩ := h
    exact ⟨⟨cell_same hbb h0, cell_same hbb h1, cell_same hbb h2, kv, cell_same hbb h3, RepKS.to hb hS _ kv hk⟩, RepRowS.to hb hS hbb r (o + 4) hr⟩
end
/-- A formula's cells; kv: its kids' slice. -/
def StC : St → Value → List Value
  | .mk op name n _, kv => [.int .i64 op, .string (mkS name), .int .i64 n, kv]
def StV (f : St) (kv : Value) : Value := .agg (StC f kv).toArray
/-- Formulas one behind the other as cells. -/
def RepLS (w : World) (S : Nat → Prop) : List St → List Value → Prop
  | [], cs => cs = []
  | f :: r, cs => ∃ kv q, cs = StC f kv ++ q ∧ RepKS w S f kv ∧ RepLS w S r q
theorem StC_length (f : St) (kv : Value) : (StC f kv).length = 4 := by cases f; rfl
theorem RepLS.length {w : World} {S : Nat → Prop} : ∀ {l : List St} {cs : List Value}, RepLS w S l cs → cs.length = 4 * l.length
  | [], cs, h => by rw [RepLS] at h; simp [h]
  | f :: r, cs, h => by
    obtain ⟨kv, q, rfl, _, hr⟩ := h
    rw [List.length_append, StC_length, RepLS.length hr, List.length_cons]; omega
theorem RepLS.snoc {w : World} {S : Nat → Prop} {f : St} {kv : Value} (hk : RepKS w S f kv) : ∀ {l : List St} {cs : List Value}, RepLS w S l cs → RepLS w S (l ++ [f]) (cs ++ StC f kv)
  | [], cs, h => by rw [RepLS] at h; subst h; exact ⟨kv, [], by simp, hk, rfl⟩
  | g :: r, cs, h => by
    obtain ⟨kv', q, rfl, h1, hr⟩ := h
    exact ⟨kv', q ++ StC f kv, by simp, h1, RepLS.snoc hk hr⟩
theorem RepLS.to {w w' : World} {S S' : Nat → Prop} (hb : ∀ b, b < w.heap.size → S b → w'.heap[b]? = w.heap[b]?) (hS : ∀ b, b < w.heap.size → S b → S' b) : ∀ {l : List St} {cs : List Value}, RepLS w S l cs → RepLS w' S' l cs
  | [], cs, h => h
  | g :: r, cs, h => by
    obtain ⟨kv', q, rfl, h1, hr⟩ := h
    exact ⟨kv', q, rfl, RepKS.to hb hS _ _ h1, RepLS.to hb hS hr⟩
theorem RepLS.row {w : World} {S : Nat → Prop} {b : Nat} : ∀ {l : List St} {cs : List Value} {o : Nat}, RepLS w S l cs → (∀ j u, cs[j]? = some u → w.cell? ⟨b, o + j, none⟩ = some u) → RepRowS w S b o l
  | [], cs, o, _, _ => by rw [RepRowS]; trivial
  | .mk op name n ks :: r, cs, o, h, hc => by
    obtain ⟨kv, q, rfl, h1, hr⟩ := h
    rw [RepRowS]
    refine ⟨⟨hc 0 _ rfl, hc 1 _ rfl, hc 2 _ rfl, kv, hc 3 _ rfl, h1⟩, hr.row fun j u hj => ?_⟩
    have := hc (4 + j) u (by rw [List.getElem?_append_right (by rw [StC_length]; omega), StC_length]; simpa using hj)
    rwa [← Nat.add_assoc] at this
theorem StC_one (f : St) (kv : Value) (hk : kv.oneCell' = true) : ∀ u ∈ StC f kv, u.oneCell' = true := by
  cases f
  intro u hu
  simp only [StC, List.mem_cons, List.not_mem_nil, or_false] at hu
  rcases hu with rfl | rfl | rfl | rfl
  · rfl
  · rfl
  · rfl
  · exact hk
theorem RepKS.one {w : World} {S : Nat → Prop} {f : St} {kv : Value} (h : RepKS w S f kv) : kv.oneCell' = true := by
  cases f; rw [RepKS] at h; obtain ⟨A, c, rfl, _⟩ := h; rfl
theorem RepKS.slice {w : World} {S : Nat → Prop} {op : Int} {name : Str} {n : Int} {ks : List St} {kv : Value} (h : RepKS w S (.mk op name n ks) kv) : ∃ A c, kv = .slice A ks.length c ∧ ks.length ≤ c ∧ c ≤ capMax := by
  rw [RepKS] at h; obtain ⟨A, c, h1, h2, h3, _⟩ := h; exact ⟨A, c, h1, h2, h3⟩
/-- A node without kids. -/
theorem RepKS.leaf (w : World) (S : Nat → Prop) (op : Int) (name : Str) (n : Int) : RepKS w S (.mk op name n []) (.slice none 0 0) := by
  rw [RepKS]; exact ⟨none, 0, rfl, Nat.le_refl _, by simp, fun h => absurd rfl h⟩
theorem RepKS.head {w : World} {S : Nat → Prop} {op op' : Int} {name name' : Str} {n n' : Int} {ks : List St} {kv : Value} (h : RepKS w S (.mk op name n ks) kv) : RepKS w S (.mk op' name' n' ks) kv := by
  rw [RepKS] at h ⊢; exact h
/-- A row that the call owns becomes the kids of a node. -/
theorem RepKS.node {w : World} {S : Nat → Prop} {base : Nat} {v : Value} {cs : List Value} {l : List St} (op : Int) (name : Str) (n : Int) (ho : w.ownsRow base 33 4 v l.length cs) (hr : RepLS w S l cs) (hS : ∀ g, v.ownBlock = some g → S g) :
    RepKS w S (.mk op name n l) v := by
  rw [RepKS]
  rcases ho.2 with ⟨rfl, hn⟩ | ⟨g, cap, cur, rfl, hb, hg, hc, hm, _, _⟩
  · exact ⟨none, 0, by rw [hn], by omega, by simp, fun h => absurd (List.eq_nil_of_length_eq_zero hn) h⟩
  · refine ⟨_, cap, rfl, hc, by simpa [maxLen] using hm, fun _ => ⟨g, 0, rfl, hS g rfl, hr.row fun j u hj => ?_⟩⟩
    have := ho.cells (g := g) rfl j u hj
    rw [add_plain] at this
    simpa using this
def set4 (w : World) (t : Nat) (a b c d : Value) : World := (((w.setCell ⟨t, 0, none⟩ a).setCell ⟨t, 1, none⟩ b).setCell ⟨t, 2, none⟩ c).setCell ⟨t, 3, none⟩ d
theorem set4_keep (w : World) (t : Nat) (a b c d : Value) : Keep t w (set4 w t a b c d) := (((((Keep.refl t w).set 0 a).set 1 b).set 2 c).set 3 d)
theorem set4_blk {w : World} {t : Nat} {v0 v1 v2 v3 : Value} {ty : TypeId} (h : w.heap[t]? = some (.cells #[v0, v1, v2, v3] ty (0, 0))) (a b c d : Value) : (set4 w t a b c d).heap[t]? = some (.cells #[a, b, c, d] ty (0, 0)) := by
  have h1 := blk_set h 0 a
  have h2 := blk_set h1 1 b
  have h3 := blk_set h2 2 c
  have h4 := blk_set h3 3 d
  simpa [set4] using h4
theorem blk4 {w : World} {t : Nat} {v0 v1 v2 v3 : Value} {ty : TypeId} (h : w.heap[t]? = some (.cells #[v0, v1, v2, v3] ty (0, 0))) :
    (w.cell? ⟨t, 0, none⟩ = some v0 ∧ w.cell? ⟨t, 1, none⟩ = some v1 ∧ w.cell? ⟨t, 2, none⟩ = some v2 ∧ w.cell? ⟨t, 3, none⟩ = some v3) ∧
    (w.frozen? ⟨t, 0, none⟩ = false ∧ w.frozen? ⟨t, 1, none⟩ = false ∧ w.frozen? ⟨t, 2, none⟩ = false ∧ w.frozen? ⟨t, 3, none⟩ = false) ∧ t < w.heap.size :=
  ⟨⟨(blk_cell h 0).trans rfl, (blk_cell h 1).trans rfl, (blk_cell h 2).trans rfl, (blk_cell h 3).trans rfl⟩, ⟨blk_free h 0, blk_free h 1, blk_free h 2, blk_free h 3⟩, heap_lt h⟩
def zeroS : Obj := .cells #[.int .i64 0, .string ⟨#[]⟩, .int .i64 0, .slice none 0 0] 33
/-- A result that came from a call is put into this call's own result variable. -/
theorem wrapS {w w2 : World} {g b o c : Nat} {l : List (Tok × Nat)} {en i i' : Nat} (h : Par w g b o c l en i) {f : St} {kv : Value} (hrep : RepKS w2 (fun b => (w.alloc zeroS).heap.size ≤ b ∧ b < w2.heap.size) f kv) (hP : Par w2 g b o c l en i') (hK : Keep g (w.alloc zeroS) w2)
    (v0 v1 v2 v3 : Value) : Keep g w (set4 w2 w.heap.size v0 v1 v2 v3) ∧ RepKS (set4 w2 w.heap.size v0 v1 v2 v3) (fun b => w.heap.size ≤ b ∧ b < (set4 w2 w.heap.size v0 v1 v2 v3).heap.size) f kv ∧ Par (set4 w2 w.heap.size v0 v1 v2 v3) g b o c l en i' := by
  have hKt := set4_keep w2 w.heap.size v0 v1 v2 v3
  generalize set4 w2 w.heap.size v0 v1 v2 v3 = W at *
  have hsz : (w.alloc zeroS).heap.size = w.heap.size + 1 := by simp
  refine ⟨((Keep.of_below (below_new w zeroS)).trans hK).newer hKt (Nat.le_refl _), hrep.to (fun b hb hS => hKt.block b hb (by omega)) fun b hb hS => ⟨by omega, Nat.lt_of_lt_of_le hb hKt.size⟩, h.past hP hKt (Nat.le_refl _)⟩
theorem wrapS_blk {w w2 : World} {g : Nat} (hg : g < w.heap.size) (hK : Keep g (w.alloc zeroS) w2) : w2.heap[w.heap.size]? = some zeroS := hK.blk (heap_alloc_new w zeroS) (by omega)
/-- A node with one kid. -/
theorem RepKS.node1 {w : World} {S : Nat → Prop} {f : St} {kv : Value} (h : RepKS w S f kv) (op : Int) (name : Str) (n : Int) (t : Nat) (ht : t = w.heap.size) :
    RepKS (w.alloc (.cells (StC f kv).toArray 33)) (fun b => (S b ∧ b < w.heap.size) ∨ b = t) (.mk op name n [f]) (.slice (some ⟨t, 0, none⟩) 1 1) := by
  subst ht
  have ho := World.ownsRow_lit (base := 0) (e := 33) (size := 4) w (StC f kv).toArray 1 (Nat.zero_le _) (by decide) (by simp [StC_length])
  refine RepKS.node (l := [f]) (cs := (StC f kv).toArray.toList) op name n ho ⟨kv, [], by simp, h.to (fun b hb _ => alloc_old w _ hb) fun b hb hS => .inl ⟨hS, hb⟩, rfl⟩ fun g hg => ?_
  simp only [Value.ownBlock, Option.some.injEq] at hg
  exact .inr hg.symm
theorem set4_size (w : World) (t : Nat) (a b c d : Value) : (set4 w t a b c d).heap.size = w.heap.size := by simp [set4, World.setCell]
end Go.Proofs.YtlhgflnmdmifaaaDoor.Wk
