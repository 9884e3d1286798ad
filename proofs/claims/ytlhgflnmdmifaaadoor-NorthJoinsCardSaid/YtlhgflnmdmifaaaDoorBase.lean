/- Worlds, rows of tokens and the reader's state in memory. -/
import Derived.Test.YtlhgflnmdmifaaaDoorProg
import Derived.Test.YtlhgflnmdmifaaaDoorPlain
import Derived.WalkKit
import Derived.WalkLawsBesides
import Derived.WalkSpells
import Derived.Outline
import Derived.Below
import Derived.OwnWalk
import Derived.KernelRfl
import Derived.Lib.Hide
import Derived.LoopTactic
import Derived.Laws.ResultCell
import Derived.Laws.Slices
namespace Go.Proofs.YtlhgflnmdmifaaaDoor.Wk
open Go.RowKit PD

def mkS (l : List UInt8) : ByteArray := ⟨l.toArray⟩
theorem mkS_data (l : List UInt8) : (mkS l).data.toList = l := by simp [mkS]
@[simp] theorem mkS_toList (l : List UInt8) : (mkS l).toList = l := ByteArray.toList_mk l
theorem mkS_size (l : List UInt8) : (mkS l).size = l.length := by simp [mkS, ByteArray.size]
theorem mkS_inj {a b : List UInt8} (h : mkS a = mkS b) : a = b := by rw [← mkS_data a, h, mkS_data]
theorem mkS_nil : mkS [] = ⟨#[]⟩ := rfl
theorem mkS_of (s : ByteArray) : mkS s.data.toList = s := by cases s; simp [mkS]

/-- What lay below and is not g lies as it lay. -/
structure Keep (g : Nat) (w w' : World) : Prop where
  os : w'.os = w.os
  tape : w'.tape = w.tape
  output : w'.output = w.output
  size : w.heap.size ≤ w'.heap.size
  block : ∀ k, k < w.heap.size → k ≠ g → w'.heap[k]? = w.heap[k]?
theorem Keep.refl (g : Nat) (w : World) : Keep g w w := ⟨rfl, rfl, rfl, Nat.le_refl _, fun _ _ _ => rfl⟩
theorem Keep.trans {g : Nat} {w w1 w2 : World} (h : Keep g w w1) (k : Keep g w1 w2) : Keep g w w2 :=
  ⟨k.os.trans h.os, k.tape.trans h.tape, k.output.trans h.output, Nat.le_trans h.size k.size, fun i hi hg => (k.block i (Nat.lt_of_lt_of_le hi h.size) hg).trans (h.block i hi hg)⟩
theorem Keep.of_below {g : Nat} {w w' : World} (h : Below w.heap.size w w') : Keep g w w' := ⟨h.os, h.tape, h.output, h.size, fun i hi _ => h.block i hi⟩
theorem Keep.to_below {g : Nat} {w w' : World} (h : Keep g w w') (hg : w.heap.size ≤ g) : Below w.heap.size w w' := ⟨h.os, h.tape, h.output, h.size, fun i hi => h.block i hi (by omega)⟩
theorem Keep.weak {g : Nat} {w w1 w' : World} (hb : Below w.heap.size w w1) (h : Keep g w1 w') (hg : w.heap.size ≤ g) : Below w.heap.size w w' :=
  ⟨h.os.trans hb.os, h.tape.trans hb.tape, h.output.trans hb.output, Nat.le_trans hb.size h.size, fun i hi => (h.block i (Nat.lt_of_lt_of_le hi hb.size) (by omega)).trans (hb.block i hi)⟩
theorem Keep.blk {g : Nat} {w w' : World} (h : Keep g w w') {k : Nat} {o : Obj} (hk : w.heap[k]? = some o) (hg : k ≠ g) : w'.heap[k]? = some o := (h.block k (Array.getElem?_eq_some_iff.1 hk).1 hg).trans hk
theorem cell_lt {w : World} {b j : Nat} {v : Value} (h : w.cell? ⟨b, j, none⟩ = some v) : b < w.heap.size := World.block_lt_of_cell? w _ h
theorem Keep.cell {g : Nat} {w w' : World} (h : Keep g w w') {b j : Nat} {v : Value} (hc : w.cell? ⟨b, j, none⟩ = some v) (hg : b ≠ g) : w'.cell? ⟨b, j, none⟩ = some v := by
  rw [← hc]
  unfold World.cell?
  rw [h.block b (cell_lt hc) hg]
theorem Keep.drewN {g : Nat} {w w' : World} (h : Keep g w w') (n : Nat) : Keep g w (w'.drewN n) := ⟨h.os, h.tape, h.output, h.size, h.block⟩
theorem below_cell {w w' : World} (h : Below w.heap.size w w') {b j : Nat} {v : Value} (hc : w.cell? ⟨b, j, none⟩ = some v) : w'.cell? ⟨b, j, none⟩ = some v := (Keep.of_below (g := w.heap.size) h).cell hc (Nat.ne_of_lt (cell_lt hc))
theorem heap_lt {w : World} {k : Nat} {o : Obj} (hk : w.heap[k]? = some o) : k < w.heap.size := (Array.getElem?_eq_some_iff.1 hk).1
theorem below_blk {w w' : World} (h : Below w.heap.size w w') {k : Nat} {o : Obj} (hk : w.heap[k]? = some o) : w'.heap[k]? = some o := (h.block k (heap_lt hk)).trans hk
theorem below_trans {B : Nat} {w w1 w2 : World} (h : Below B w w1) (hB : B ≤ w1.heap.size) (k : Below w1.heap.size w1 w2) : Below B w w2 :=
  h.trans ⟨k.os, k.tape, k.output, k.size, fun i hi => k.block i (Nat.lt_of_lt_of_le hi hB)⟩
theorem below_then {w w1 w2 : World} (h : Below w.heap.size w w1) (k : Below w1.heap.size w1 w2) : Below w.heap.size w w2 := below_trans h h.size k
theorem alloc_old (w : World) (o : Obj) {b : Nat} (hb : b < w.heap.size) : (w.alloc o).heap[b]? = w.heap[b]? := ((Below.refl w.heap.size w).alloc (Nat.le_refl _) o).block b hb
theorem below_new (w : World) (o : Obj) : Below w.heap.size w (w.alloc o) := (Below.refl _ _).alloc (Nat.le_refl _) o
theorem blk_cell {w : World} {g : Nat} {cs : Array Value} {t : TypeId} {fr : Nat × Nat} (h : w.heap[g]? = some (.cells cs t fr)) (j : Nat) : w.cell? ⟨g, j, none⟩ = cs[j]? := by simp [World.cell?, h]
theorem blk_free {w : World} {g : Nat} {cs : Array Value} {t : TypeId} (h : w.heap[g]? = some (.cells cs t (0, 0))) (j : Nat) : w.frozen? ⟨g, j, none⟩ = false := by simp [World.frozen?, h]
theorem blk_set {w : World} {g : Nat} {cs : Array Value} {t : TypeId} {fr : Nat × Nat} (h : w.heap[g]? = some (.cells cs t fr)) (j : Nat) (u : Value) : (w.setCell ⟨g, j, none⟩ u).heap[g]? = some (.cells (cs.setIfInBounds j u) t fr) := by
  simp [World.setCell, Array.getElem?_modify, h]
theorem Keep.set {g : Nat} {w w' : World} (h : Keep g w w') (j : Nat) (u : Value) : Keep g w (w'.setCell ⟨g, j, none⟩ u) :=
  ⟨h.os, h.tape, h.output, by simpa [World.setCell] using h.size, fun k hk hg => by rw [← h.block k hk hg]; simp [World.setCell, Array.getElem?_modify, Ne.symm hg]⟩
theorem Keep.alloc {g : Nat} {w w' : World} (h : Keep g w w') (o : Obj) : Keep g w (w'.alloc o) :=
  h.trans (.of_below ((Below.refl _ _).alloc (Nat.le_refl _) o))

theorem run_field_At (a b c d : Value) (w : World) : (Instr.field 40 (.agg #[a, b, c, d]) 3).run Tryd.prog w = .ok d w := by kernel_rfl

/-! ### Tokens in memory -/
def tokV (t : Tok) (p : Nat) : Value := .agg #[.int .i64 t.kind, .string (mkS t.text), .int .i64 t.n, .int .i64 p]
/-- The tokens lie in block b from cell o on. -/
structure Toks (w : World) (b o : Nat) (l : List (Tok × Nat)) : Prop where
  kind : ∀ (j : Nat) (t : Tok) (p : Nat), l[j]? = some (t, p) → w.cell? ⟨b, o + 4 * j, none⟩ = some (.int .i64 t.kind)
  text : ∀ (j : Nat) (t : Tok) (p : Nat), l[j]? = some (t, p) → w.cell? ⟨b, o + 4 * j + 1, none⟩ = some (.string (mkS t.text))
  n : ∀ (j : Nat) (t : Tok) (p : Nat), l[j]? = some (t, p) → w.cell? ⟨b, o + 4 * j + 2, none⟩ = some (.int .i64 t.n)
  at_ : ∀ (j : Nat) (t : Tok) (p : Nat), l[j]? = some (t, p) → w.cell? ⟨b, o + 4 * j + 3, none⟩ = some (.int .i64 p)
theorem Toks.keep {g : Nat} {w w' : World} {b o : Nat} {l : List (Tok × Nat)} (h : Toks w b o l) (k : Keep g w w') (hg : b ≠ g) : Toks w' b o l :=
  ⟨fun j t p e => k.cell (h.kind j t p e) hg, fun j t p e => k.cell (h.text j t p e) hg, fun j t p e => k.cell (h.n j t p e) hg, fun j t p e => k.cell (h.at_ j t p e) hg⟩
theorem Toks.below {w w' : World} {b o : Nat} {l : List (Tok × Nat)} (h : Toks w b o l) (k : Below w.heap.size w w') : Toks w' b o l :=
  ⟨fun j t p e => below_cell k (h.kind j t p e), fun j t p e => below_cell k (h.text j t p e), fun j t p e => below_cell k (h.n j t p e), fun j t p e => below_cell k (h.at_ j t p e)⟩

/-- The first reader's state: its block g; the tokens from the i-th on are left. -/
structure Par (w : World) (g b o c : Nat) (l : List (Tok × Nat)) (en : Nat) (i : Nat) : Prop where
  hi : i ≤ l.length
  hc : l.length ≤ c
  blk : ∃ A, (i < l.length → A = some ⟨b, o + 4 * i, none⟩) ∧ w.heap[g]? = some (.cells #[.slice A (l.length - i) (c - i), .int .i64 en] 72 (0, 0))
  toks : Toks w b o l
  ne : b ≠ g
  ok : ∀ x ∈ l, Lex.TokOk x.1
  few : l.length ≤ 5000
  ml : ∃ m : Int, w.cell? ⟨2, 0, none⟩ = some (.int .i64 m)
  mg : 2 ≠ g
theorem Par.below {w w' : World} {g b o c : Nat} {l : List (Tok × Nat)} {en i : Nat} (h : Par w g b o c l en i) (k : Below w.heap.size w w') : Par w' g b o c l en i :=
  ⟨h.hi, h.hc, by obtain ⟨A, h1, h2⟩ := h.blk; exact ⟨A, h1, below_blk k h2⟩, h.toks.below k, h.ne, h.ok, h.few, h.ml.imp fun _ => below_cell k, h.mg⟩
theorem Par.lt {w : World} {g b o c : Nat} {l : List (Tok × Nat)} {en i : Nat} (h : Par w g b o c l en i) : g < w.heap.size := by
  obtain ⟨A, _, h2⟩ := h.blk; exact heap_lt h2
/-- The place of a token, or the end of the text. -/
def posOf (l : List (Tok × Nat)) (en i : Nat) : Nat := match l[i]? with
  | some x => x.2
  | none => en
/-- The token that is next; at the end, one without a kind. -/
def nextV (l : List (Tok × Nat)) (en i : Nat) : Value := match l[i]? with
  | some (t, p) => tokV t p
  | none => .agg #[.int .i64 0, .string ⟨#[]⟩, .int .i64 0, .int .i64 en]
def stopV (e at_ : Int) : Value := .iface 68 (.agg #[.int .i64 e, .int .i64 at_])
def stopped (e at_ : Int) : Ending := .panicked [{ v := stopV e at_, recovered := false }]
/-- What a step of the reader comes to. -/
def Out {α : Type} (enc : World → α → Value → Prop) (r : PR α) (g b o c : Nat) (l : List (Tok × Nat)) (en : Nat) (w : World) (e : Ending) (w' : World) : Prop :=
  Keep g w w' ∧ match r with
    | .ok a i' => ∃ v, e = .returned v ∧ enc w' a v ∧ Par w' g b o c l en i'
    | .err er j => e = stopped er (posOf l en j)
    | .out => True
/-- A row of strings in a block. -/
def Strs (w : World) (wb : Nat) (ws : List Str) : Prop := ∀ (j : Nat) (s : Str), ws[j]? = some s → w.cell? ⟨wb, j, none⟩ = some (.string (mkS s))
theorem Strs.below {w w' : World} {wb : Nat} {ws : List Str} (h : Strs w wb ws) (k : Below w.heap.size w w') : Strs w' wb ws := fun j s e => below_cell k (h j s e)
theorem add_plain (g j : Nat) : (⟨g, 0, none⟩ : Addr).add j = ⟨g, j, none⟩ := by unfold Addr.add; split <;> simp_all
def idxI (o : Option Nat) : Int := match o with
  | some i => i
  | none => -1
/-- The state behind a token that was read. -/
theorem Par.step {w : World} {g b o c : Nat} {l : List (Tok × Nat)} {en i : Nat} (h : Par w g b o c l en i) (hl : i < l.length) (A : Option Addr) (hA : i + 1 < l.length → A = some ⟨b, o + 4 * (i + 1), none⟩) :
    Par (w.setCell ⟨g, 0, none⟩ (.slice A (l.length - (i + 1)) (c - (i + 1)))) g b o c l en (i + 1) := by
  obtain ⟨A0, _, hb⟩ := h.blk
  refine ⟨hl, h.hc, ⟨A, hA, ?_⟩, h.toks.keep ((Keep.refl g w).set 0 _) h.ne, h.ne, h.ok, h.few, h.ml.imp fun _ hm => ((Keep.refl g w).set 0 _).cell hm h.mg, h.mg⟩
  have := blk_set hb 0 (.slice A (l.length - (i + 1)) (c - (i + 1)))
  simpa using this
/-- 'xs[1:]' of a slice of tokens. -/
theorem info_Token : (Tryd.prog.info? 40).map (fun i => i.size) = some 4 := by kernel_rfl
theorem run_tail (A : Option Addr) (n c : Nat) (hn : 1 ≤ n) (_hc : n ≤ c) : ∃ A' : Option Addr, (∀ W : World, (Instr.slice 23 (.slice A n c) (some (.int .i64 1)) none none).run Tryd.prog W = .ok (.slice A' (n - 1) (c - 1)) W) ∧ (1 < c → A' = A.map (·.add 4)) := by
  refine ⟨if c = 1 then A else A.map (·.add 4), fun W => ?_, fun h => by rw [if_neg (by omega)]⟩
  obtain ⟨i, hi, hsz⟩ := Option.map_eq_some_iff.1 info_Token
  have ht : Tryd.prog.underlying 23 = some (.slice 40) := Tryd.underlying23
  have hel : Tryd.prog.elem 23 = 40 := by simp [Program.elem, ht]
  have hu : Tryd.prog.underlying 23 = some (.slice (Tryd.prog.elem 23)) := by rw [hel]; exact ht
  rw [run_slice_l W 23 A n c hu .i64 1 (by omega) (by omega), hel]
  simp [sizeOf, typeInfo, hi, hsz, sliced, Result.andThen]
theorem add_four (b o : Nat) : (⟨b, o, none⟩ : Addr).add 4 = ⟨b, o + 4, none⟩ := by simp [Addr.add]
end Go.Proofs.YtlhgflnmdmifaaaDoor.Wk
