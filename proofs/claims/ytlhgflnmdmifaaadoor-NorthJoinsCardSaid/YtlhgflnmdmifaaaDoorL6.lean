/- Lex: the loop over the iterator. -/
import Derived.Test.YtlhgflnmdmifaaaDoorL5
import Derived.Test.YtlhgflnmdmifaaaDoorLB
import Derived.Test.YtlhgflnmdmifaaaDoorND
import Derived.RangeFuncBox
import Derived.Maps.AppendAt
namespace Go.Proofs.YtlhgflnmdmifaaaDoor.Wk
open Go.RowKit PD
attribute [local go_sem] Oper.semAt_some

theorem info_TokenA : (Tryd.prog.info? 40).map (fun i => (i.zero, i.size, i.bytes)) = some (some (.agg #[.int .i64 0, .string ⟨#[]⟩, .int .i64 0, .int .i64 0]), 4, 40) := by kernel_rfl
def tokC (x : Lex.Found) : List Value := [.int .i64 x.tok.kind, .string (mkS x.tok.text), .int .i64 x.tok.n, .int .i64 x.at_]
def tokCs (l : List Lex.Found) : List Value := l.flatMap tokC
theorem tokCs_snoc (l : List Lex.Found) (x : Lex.Found) : tokCs (l ++ [x]) = tokCs l ++ tokC x := by simp [tokCs]
theorem tokCs_get : ∀ (l : List Lex.Found) (j k : Nat) (x : Lex.Found), l[j]? = some x → k < 4 → (tokCs l)[4 * j + k]? = (tokC x)[k]?
  | [], j, k, x, h, _ => by simp at h
  | y :: l, 0, k, x, h, hk => by
    simp only [List.getElem?_cons_zero, Option.some.injEq] at h
    subst h
    rw [Nat.mul_zero, Nat.zero_add, tokCs, List.flatMap_cons, List.getElem?_append_left (by simpa [tokC] using hk)]
  | y :: l, j + 1, k, x, h, hk => by
    have := tokCs_get l j k x (by simpa using h) hk
    rw [← this]
    rw [tokCs, List.flatMap_cons, List.getElem?_append_right (by simp [tokC]; omega)]
    congr 1
    simp [tokC]; omega
theorem box_keep {X Y : World} {row : Option Nat} {b : Nat} {t : TypeId} {v : Value} (h : Boxed X b t v) (hg : X.grownBy Y row) (hr : ∀ r, row = some r → ∃ o : Obj, X.heap[r]? = some o ∧ o.isCells = false) : Boxed Y b t v :=
  h.kept hg (fun e => by obtain ⟨o, ho, hc⟩ := hr b e.symm; rw [show X.heap[b]? = _ from h] at ho; cases ho; cases hc)
theorem kp_alloc (W : World) (o : Obj) : Kp W (W.alloc o) := fun _ _ _ _ hb => below_blk (below_new _ _) hb
/-- Between two rounds. -/
structure LexI (w : World) (pre : List Lex.Found) (W : World) : Prop where
  out : ∃ v, Boxed W (w.heap.size + 3) 23 v ∧ W.ownsRow w.heap.size 40 4 v pre.length (tokCs pre) ∧ True
  ok : ∀ x ∈ pre, x.err = 0
  few : pre.length ≤ 5000
  r0 : Boxed W w.heap.size 23 (.slice none 0 0)
  r1 : Boxed W (w.heap.size + 1) 24 (.int .i64 0)
  r2 : Boxed W (w.heap.size + 2) 3 (.int .i64 0)
  below : Below w.heap.size w W
theorem lexI_own (w : World) {B : Nat} (hB : w.heap.size ≤ B) : OwnFrom B (LexI w) := by
  intro pre X Y row h hg hr
  have hr' : ∀ r, row = some r → ∃ o : Obj, X.heap[r]? = some o ∧ o.isCells = false := fun r e => (hr r e).2
  exact ⟨(holdsRow_own w.heap.size (w.heap.size + 3) 23 40 4 (fun (p : List Lex.Found) => p.length) tokCs (fun _ _ => True)) pre X Y row h.out hg hr', h.ok, h.few, box_keep h.r0 hg hr', box_keep h.r1 hg hr', box_keep h.r2 hg hr', ownFrom_below (Nat.le_refl _) hB pre X Y row h.below hg hr⟩
/-- Where a round has returned. -/
structure LexX (w : World) (c : Code) (xs : List Lex.Found) (W : World) : Prop where
  jump : c = .ret
  below : Below w.heap.size w W
  res : ∃ (er at_ : Nat) (ini : List Lex.Found) (last : Lex.Found), xs = ini ++ [last] ∧ Boxed W w.heap.size 23 (.slice none 0 0) ∧ Boxed W (w.heap.size + 1) 24 (.int .i64 er) ∧ Boxed W (w.heap.size + 2) 3 (.int .i64 at_) ∧
    ((last.err ≠ 0 ∧ (∀ x ∈ ini, x.err = 0) ∧ ini.length ≤ 5000 ∧ er = last.err ∧ at_ = last.at_) ∨ (last.err = 0 ∧ ini.length = 5000 ∧ er = 2 ∧ at_ = last.at_))
theorem lexX_own (w : World) {B : Nat} (hB : w.heap.size ≤ B) (c : Code) : OwnFrom B (LexX w c) := by
  intro pre X Y row h hg hr
  have hr' : ∀ r, row = some r → ∃ o : Obj, X.heap[r]? = some o ∧ o.isCells = false := fun r e => (hr r e).2
  obtain ⟨er, at_, ini, last, e, b0, b1, b2, h5⟩ := h.res
  exact ⟨h.jump, ownFrom_below (Nat.le_refl _) hB pre X Y row h.below hg hr, er, at_, ini, last, e, box_keep b0 hg hr', box_keep b1 hg hr', box_keep b2 hg hr', h5⟩

theorem box_set {W : World} {b : Nat} {t : TypeId} {u : Value} (h : Boxed W b t u) (v : Value) : Boxed (W.setCell ⟨b, 0, none⟩ v) b t v := (blk_set h 0 v).trans rfl
theorem box_other {W : World} {b b' : Nat} {t : TypeId} {u : Value} (h : Boxed W b t u) (hne : b ≠ b') (v : Value) : Boxed (W.setCell ⟨b', 0, none⟩ v) b t u := ((Keep.refl b' W).set 0 v).blk h hne
theorem kp_set {W : World} {b : Nat} {t : TypeId} {u : Value} (h : Boxed W b t u) (ht : ¬ (t = 9 ∨ t = 82 ∨ t = 84 ∨ t = 66)) (v : Value) : Kp W (W.setCell ⟨b, 0, none⟩ v) := fun k cs t' ht' hk =>
  ((Keep.refl b W).set 0 v).blk hk (fun e => by subst e; rw [show W.heap[k]? = _ from h] at hk; cases hk; exact ht ht')
theorem kp_grown {X Y : World} {base size n : Nat} {v : Value} {xs : List Value} (hg : X.grownBy Y v.ownBlock) (ho : X.ownsRow base 40 size v n xs) : Kp X Y := fun k cs t ht hk => by
  refine (hg.block k (heap_lt hk) fun e => ?_).trans hk
  rcases ho.2 with ⟨rfl, _⟩ | ⟨g, cap, cur, rfl, _, hgb, _⟩
  · simp [Value.ownBlock] at e
  · obtain rfl : k = g := by simpa [Value.ownBlock] using e
    rw [hk] at hgb
    cases hgb
    revert ht; decide
/-- The three results are stored. -/
def put3 (w W : World) (v0 v1 v2 : Value) : World := ((W.setCell ⟨w.heap.size, 0, none⟩ v0).setCell ⟨w.heap.size + 1, 0, none⟩ v1).setCell ⟨w.heap.size + 1 + 1, 0, none⟩ v2
theorem put3_keeps (w W : World) (v0 v1 v2 : Value) : KeepsOthers W (put3 w W v0 v1 v2) := ((KeepsOthers.setCell _ _ _).trans (KeepsOthers.setCell _ _ _)).trans (KeepsOthers.setCell _ _ _)
theorem put3_box {w W : World} {u0 u1 u2 : Value} {t0 t1 t2 : TypeId} (b0 : Boxed W w.heap.size t0 u0) (b1 : Boxed W (w.heap.size + 1) t1 u1) (b2 : Boxed W (w.heap.size + 2) t2 u2) (v0 v1 v2 : Value) :
    Boxed (put3 w W v0 v1 v2) w.heap.size t0 v0 ∧ Boxed (put3 w W v0 v1 v2) (w.heap.size + 1) t1 v1 ∧ Boxed (put3 w W v0 v1 v2) (w.heap.size + 2) t2 v2 :=
  ⟨box_other (box_other (box_set b0 v0) (by omega) v1) (by omega) v2, box_other (box_set (box_other b1 (by omega) v0) v1) (by omega) v2, box_set (box_other (box_other b2 (by omega) v0) (by omega) v1) v2⟩
theorem put3_below {w W : World} (h : Below w.heap.size w W) (v0 v1 v2 : Value) : Below w.heap.size w (put3 w W v0 v1 v2) :=
  ((h.setCell (p := ⟨w.heap.size, 0, none⟩) (Nat.le_refl _) v0).setCell (p := ⟨w.heap.size + 1, 0, none⟩) (Nat.le_succ _) v1).setCell (p := ⟨w.heap.size + 1 + 1, 0, none⟩) (Nat.le_add_right w.heap.size 2) v2
theorem put3_other {w W : World} (v0 v1 v2 : Value) {k : Nat} {o : Obj} (h : W.heap[k]? = some o) (h0 : k ≠ w.heap.size) (h1 : k ≠ w.heap.size + 1) (h2 : k ≠ w.heap.size + 2) : (put3 w W v0 v1 v2).heap[k]? = some o :=
  ((Keep.refl _ _).set 0 v2).blk (((Keep.refl _ _).set 0 v1).blk (((Keep.refl _ _).set 0 v0).blk h h0) h1) h2
theorem lexX_of {w : World} {pre : List Lex.Found} {x : Lex.Found} {W : World} {B : Nat} (hi : LexI w pre W) (er at_ : Nat) (h : (x.err ≠ 0 ∧ er = x.err ∧ at_ = x.at_) ∨ (x.err = 0 ∧ pre.length = 5000 ∧ er = 2 ∧ at_ = x.at_)) :
    KeepsFrom B W (put3 w W (.slice none 0 0) (.int .i64 er) (.int .i64 at_)).drew ∧ LexX w .ret (pre ++ [x]) (put3 w W (.slice none 0 0) (.int .i64 er) (.int .i64 at_)).drew := by
  obtain ⟨b0, b1, b2⟩ := put3_box hi.r0 hi.r1 hi.r2 (.slice none 0 0) (.int .i64 er) (.int .i64 at_)
  refine ⟨((put3_keeps w W _ _ _).trans (KeepsOthers.drew _)).from _, rfl, (put3_below hi.below _ _ _).drew, er, at_, pre, x, rfl, b0, b1, b2, ?_⟩
  rcases h with ⟨h1, h2, h3⟩ | h
  · exact .inl ⟨h1, hi.ok, hi.few, h2, h3⟩
  · exact .inr h
theorem load_toks (w : World) (b : Nat) (A : Option Addr) (n c : Nat) (h : w.cell? ⟨b, 0, none⟩ = some (.slice A n c)) : (loadVar 23 ⟨b, 0, none⟩).run Tryd.prog w = .ok (.slice A n c) w := by go_simp
theorem toks_of {W : World} {g : Nat} {q : List (Tok × Nat)} (h : ∀ (j : Nat) (u : Value), (tokCs (q.map Lex.okF))[j]? = some u → W.cell? ⟨g, j, none⟩ = some u) : Toks W g 0 q := by
  have key : ∀ (j k : Nat) (t : Tok) (p : Nat) (u : Value), q[j]? = some (t, p) → k < 4 → (tokC (Lex.okF (t, p)))[k]? = some u → W.cell? ⟨g, 4 * j + k, none⟩ = some u := by
    intro j k t p u hj hk hu
    refine h _ _ ?_
    rw [tokCs_get _ j k (Lex.okF (t, p)) (by rw [List.getElem?_map, hj]; rfl) hk]
    exact hu
  refine ⟨fun j t p e => ?_, fun j t p e => ?_, fun j t p e => ?_, fun j t p e => ?_⟩
  · have := key j 0 t p _ e (by decide) rfl; simpa [Lex.okF] using this
  · have := key j 1 t p _ e (by decide) rfl; simpa [Lex.okF] using this
  · have := key j 2 t p _ e (by decide) rfl; simpa [Lex.okF] using this
  · have := key j 3 t p _ e (by decide) rfl; simpa [Lex.okF] using this
theorem lex_fin {w W : World} {D : Nat} {o o' : Obj} {t0 t1 t2 : TypeId} {v0 v1 v2 : Value} (hb : Below w.heap.size w W) (hK : W.heap[D]? = some o) (hD : w.heap.size + 3 ≤ D) (b0 : Boxed W w.heap.size t0 v0) (b1 : Boxed W (w.heap.size + 1) t1 v1) (b2 : Boxed W (w.heap.size + 2) t2 v2) :
    Below w.heap.size w (W.putObj D o') ∧ (W.putObj D o').cell? ⟨w.heap.size, 0, none⟩ = some v0 ∧ (W.putObj D o').cell? ⟨w.heap.size + 1, 0, none⟩ = some v1 ∧ (W.putObj D o').cell? ⟨w.heap.size + 1 + 1, 0, none⟩ = some v2 := by
  have k : ∀ {b : Nat} {t : TypeId} {v : Value}, b ≠ D → Boxed W b t v → Boxed (W.putObj D o') b t v := fun {b t v} hne h => (World.putObj_heap_other (w := W) (by omega)).trans (show W.heap[b]? = _ from h)
  refine ⟨hb.grown (grownBy_putObj' W D o') (by have := heap_lt hK; omega) (fun k e => by cases e; omega), (k (by omega) b0).cell, (k (by omega) b1).cell, (k (by omega) b2).cell⟩
set_option maxRecDepth 100000 in
set_option maxHeartbeats 4000000 in
theorem lex_calls : LexP := by
  intro s w hs
  have hsz := mkS_size s
  by_cases h20 : s.length ≤ 20000
  · refine (callsIn_wide (n := 3)).1 ?_
    refine callsIn_of_wp_marks Tryd.func15 rfl trivial ?_ rfl
    simp only [Tryd.ntmps15, List.size_toArray, List.length_cons, List.length_nil, Nat.reduceAdd, Nat.reduceSub, Array.replicate_succ, Array.replicate_zero, List.push_toArray, List.append_toArray, List.nil_append, List.cons_append]
    have HS := Lib.hid hs
    clear hs
    gi_wp2_with (refine ⟨trivial, ?_⟩; gi_at_call 40; refine (callsIn_wide.2 (tokens_calls s _)).mono ?_; rintro e w1 ⟨hB1, T, C, A, hIt, rfl⟩; have HB1 := Lib.hid hB1; have HIT := Lib.hid hIt; clear hB1 hIt)
    have hw0 := heap_alloc_new w (.cells #[.slice none 0 0] 23)
    have hw1 := heap_alloc_new (w.alloc (.cells #[.slice none 0 0] 23)) (.cells #[.int .i64 0] 24)
    have hw2 := heap_alloc_new ((w.alloc (.cells #[.slice none 0 0] 23)).alloc (.cells #[.int .i64 0] 24)) (.cells #[.int .i64 0] 3)
    have hw3 := heap_alloc_new (((w.alloc (.cells #[.slice none 0 0] 23)).alloc (.cells #[.int .i64 0] 24)).alloc (.cells #[.int .i64 0] 3)) (.cells #[.slice none 0 0] 23)
    simp only [World.size_alloc] at hw1 hw2 hw3
    have hI0 : LexI w [] w1 := ⟨⟨_, below_blk HB1.out hw3, World.ownsRow_nil _ _ _ _, trivial⟩, by simp, by simp, below_blk HB1.out (below_blk (below_new _ _) (below_blk (below_new _ _) (below_blk (below_new _ _) hw0))), below_blk HB1.out (below_blk (below_new _ _) (below_blk (below_new _ _) hw1)), below_blk HB1.out (below_blk (below_new _ _) hw2),
      below_then (below_then (below_then (below_then (below_new w _) (below_new _ _)) (below_new _ _)) (below_new _ _)) HB1.out⟩
    have hle : w.heap.size ≤ w1.heap.size := hI0.below.size
    have hbox4 : Boxed w1 (w.heap.size + 3) 23 (.slice none 0 0) := below_blk HB1.out hw3
    clear hw0 hw1 hw2 hw3 HB1
    refine wpIn_rangeFunc_ownH rfl (by omega) (gf := 53) (lb := #[.pointer (some ⟨T, 0, none⟩), .pointer (some ⟨A, 0, none⟩)]) rfl trivial (enters_of Tryd.func53 (by kernel_rfl) rfl)
      (tokens2_stops s h20 2 T C A w1 HIT.out) (fun h k => Kp.trans h k) (fun W l o o' _ h ho _ => kp_b W l o o' h ho) (Below.refl _ _) (fun _ => rfl)
      (LexI w) (LexX w) (lexI_own w hle) (lexX_own w hle) hI0
      (fun x a' W => ∃ F : Nat, W.heap[F]? = some (.cells #[.int .i64 x.tok.kind, .string (mkS x.tok.text), .int .i64 x.tok.n, .int .i64 x.at_, .int .i64 x.err] 66 (0, 0)) ∧
        a' = { tmps := #[.string (mkS s), undef, .pointer (some ⟨w.heap.size, 0, none⟩), .pointer (some ⟨w.heap.size + 1, 0, none⟩), .pointer (some ⟨w.heap.size + 1 + 1, 0, none⟩), .pointer (some ⟨w.heap.size + 1 + 1 + 1, 0, none⟩), .pointer (some ⟨F, 0, none⟩),
          .string (mkS s), .int .i64 (s.length : Int), .bool (decide (20000 < (s.length : Int))), .string (mkS s), .func (.func 53) #[] #[.pointer (some ⟨T, 0, none⟩), .pointer (some ⟨A, 0, none⟩)],
          .agg #[.int .i64 x.tok.kind, .string (mkS x.tok.text), .int .i64 x.tok.n, .int .i64 x.at_, .int .i64 x.err],
          undef, undef, undef, undef, undef, undef, undef, undef, undef, undef, undef, undef, undef, undef, undef, undef, undef, undef, undef, undef, undef, undef], defers := [] })
      (fun x a' _ X Y row ⟨F, hF, e⟩ hg hr => ⟨F, (hg.block F (heap_lt hF) (fun e => by obtain ⟨_, o, ho, hc⟩ := hr F e.symm; rw [hF] at ho; cases ho; cases hc)).trans hF, e⟩) ?assign ?body ?done ?stop
    case assign =>
      intro l pre x W K hi hK
      clear hI0
      have HK := Lib.hid hK
      clear hK
      dsimp only [encF]
      gi_wp2_with fail
      exact HK.out _ _ ((KeepsOthers.alloc _ _).from _) (kp_alloc _ _) ((lexI_own w hle).alloc _ hi) ⟨W.heap.size, heap_alloc_new W _, rfl⟩
    case body =>
      rintro l pre x a' W hl ⟨r, hr⟩ hi ⟨F, hF, rfl⟩ hlt
      clear hI0 hr hl
      obtain ⟨⟨c0, c1, c2, c3, c4⟩, _, _⟩ := blk5 hF
      have r0 := hi.r0.cell
      have r1 := hi.r1.cell
      have r2 := hi.r2.cell
      have f0 := hi.r0.frozen
      have f1 := hi.r1.frozen
      have f2 := hi.r2.frozen
      have HF := Lib.hid hF
      have HI := Lib.hid hi
      clear hF hi HS
      by_cases herr : x.err = 0
      · obtain ⟨v, hbo, hown, -⟩ := HI.out.out
        have hn : pre.length ≤ 5000 := HI.out.few
        obtain ⟨vA, vn, vc, rfl, rfl⟩ : ∃ vA vn vc, v = .slice vA vn vc ∧ vn = pre.length := by
          rcases hown.2 with ⟨rfl, h0⟩ | ⟨g, cap, cur, rfl, _⟩
          · exact ⟨none, 0, 0, rfl, h0.symm⟩
          · exact ⟨_, _, _, rfl, rfl⟩
        have ro := hbo.cell
        have fo := hbo.frozen
        have HBO := Lib.hid hbo
        have HOWN := Lib.hid hown
        clear hbo hown
        by_cases h5 : pre.length = 5000
        · have hend := lexX_of (B := w1.heap.size) HI.out 2 x.at_ (.inr ⟨herr, h5, rfl, rfl⟩)
          have HEND := Lib.hid hend
          clear hend
          gi_wp2_with fail
          gi_region
          all_goals (gi_wp2_with fail; exact HEND.out)
        · have hb5 : ((pre.length : Int) == 5000) = false := by simp; omega
          have hl5 : pre.length < 5000 := by omega
          clear h5
          obtain ⟨i0, hi0, hzz⟩ := Option.map_eq_some_iff.1 info_TokenA
          have HI0 := Lib.hid hi0
          have HZ0 := Lib.hid (congrArg (·.1) hzz)
          have HZ1 := Lib.hid (congrArg (·.2.1) hzz)
          have HZ2 := Lib.hid (congrArg (·.2.2) hzz)
          have hc1 : ∀ (j : Nat) (u : Value), (tokC x)[j]? = some u → (W.alloc (.cells #[.int .i64 x.tok.kind, .string (mkS x.tok.text), .int .i64 x.tok.n, .int .i64 x.at_] 40)).cell? ((⟨W.heap.size, 0, none⟩ : Addr).add j) = some u := by
            intro j u hj
            rw [add_plain]
            exact (blk_cell (heap_alloc_new W _) j).trans (by simpa [tokC] using hj)
          have hc2 : ∀ u ∈ tokC x, u.oneCell' = true := by
            intro u hu
            simp only [tokC, List.mem_cons, List.not_mem_nil, or_false] at hu
            rcases hu with rfl | rfl | rfl | rfl <;> rfl
          have hc3 : pre.length + 1 ≤ maxLen := by simp only [maxLen]; omega
          have hc4 : (pre.length + 1) * 40 ≤ 140737488355328 := by omega
          have hc5 : w.heap.size ≤ (W.alloc (.cells #[.int .i64 x.tok.kind, .string (mkS x.tok.text), .int .i64 x.tok.n, .int .i64 x.at_] 40)).heap.size := by have := HI.out.below.size; simp; omega
          have HC1 := Lib.hid hc1
          have HC2 := Lib.hid hc2
          have HC3 := Lib.hid hc3
          have HC4 := Lib.hid hc4
          have HC5 := Lib.hid hc5
          clear hc1 hc2 hc3 hc4 hc5 hi0 hzz r0 r1 r2 f0 f1 f2
          gi_wp2_with (gi_at_builtin; refine wpListIn_append_own (W.alloc (.cells #[.int .i64 x.tok.kind, .string (mkS x.tok.text), .int .i64 x.tok.n, .int .i64 x.at_] 40)) rfl _ _ 23 rfl w.heap.size 40 i0 _ 4 40 Tryd.underlying23 HI0.out HZ0.out HZ1.out HZ2.out rfl (by decide) (.slice vA pre.length vc) pre.length (tokCs pre) rfl (HOWN.out.alloc _) ⟨W.heap.size, 0, none⟩ 1 1 (tokC x) rfl rfl HC1.out HC2.out HC3.out HC4.out HC5.out ?_; intro v' w5 hown' hgrow _; obtain ⟨g', cap', rfl⟩ := ownsRow_succ hown'; obtain ⟨hv1, hv2, hr2, hk2, hb2⟩ := HBO.out.appended (by decide) HOWN.out HI.out.below.size (Nat.le_add_right _ _) hown' hgrow; have hc5 := hv1.cell; have hf5 := hv1.frozen; have HV1 := Lib.hid hv1; have HV2 := Lib.hid hv2; have HR2 := Lib.hid hr2; have HK2 := Lib.hid hk2; have HB2 := Lib.hid hb2; have HG := Lib.hid hgrow; clear hv1 hv2 hr2 hk2 hb2 hown' hgrow)
          have hown1 := HOWN.out.alloc (.cells #[.int .i64 x.tok.kind, .string (mkS x.tok.text), .int .i64 x.tok.n, .int .i64 x.at_] 40)
          have hkp : Kp W (w5.setCell ⟨w.heap.size + 3, 0, none⟩ (.slice (some ⟨g', 0, none⟩) (pre.length + 1) cap')) := ((kp_alloc W _).trans (kp_grown HG.out hown1)).trans (kp_set HV1.out (by decide) _)
          have hbx : ∀ {b : Nat} {t : TypeId} {u : Value}, Boxed W b t u → t ≠ 40 → b ≠ w.heap.size + 3 → Boxed (w5.setCell ⟨w.heap.size + 3, 0, none⟩ (.slice (some ⟨g', 0, none⟩) (pre.length + 1) cap')) b t u := fun hb ht hne => box_other ((hb.alloc _).kept HG.out ((hb.alloc _).not_row ht hown1)) hne _
          exact ⟨HK2.out.from _, hkp, ⟨_, HV2.out, by rw [tokCs_snoc, List.length_append, List.length_singleton]; exact HR2.out, trivial⟩,
            fun y hy => (List.mem_append.1 hy).elim (HI.out.ok y) (fun e => by rw [List.mem_singleton.1 e]; exact herr), by rw [List.length_append, List.length_singleton]; omega,
            hbx HI.out.r0 (by decide) (by omega), hbx HI.out.r1 (by decide) (by omega), hbx HI.out.r2 (by decide) (by omega), HI.out.below.trans HB2.out⟩
      · have hb : ((x.err : Int) != 0) = true := by simp; omega
        have hend := lexX_of (B := w1.heap.size) HI.out x.err x.at_ (.inl ⟨herr, rfl, rfl⟩)
        have HEND := Lib.hid hend
        clear hend
        gi_wp2_with fail
        gi_region
        all_goals (gi_wp2_with fail; exact HEND.out)
    case done =>
      rintro D xs W hD hS hi hK
      obtain ⟨q, rfl, hlex⟩ := Lex.lex_done h20 hS hi.ok hi.few
      obtain ⟨v, hbo, hown, -⟩ := hi.out
      rw [List.length_map] at hown
      obtain ⟨vA, vn, vc, rfl, rfl⟩ : ∃ vA vn vc, v = .slice vA vn vc ∧ vn = q.length := by
        rcases hown.2 with ⟨rfl, h0⟩ | ⟨g, cap, cur, rfl, _⟩
        · exact ⟨none, 0, 0, rfl, h0.symm⟩
        · exact ⟨_, _, _, rfl, rfl⟩
      have ro := hbo.cell
      have r0 := hi.r0.cell
      have r1 := hi.r1.cell
      have r2 := hi.r2.cell
      have f0 := hi.r0.frozen
      have f1 := hi.r1.frozen
      have f2 := hi.r2.frozen
      have hD4 := heap_lt hbox4
      have HI := Lib.hid hi
      have HK := Lib.hid hK
      have HBO := Lib.hid hbo
      have HOWN := Lib.hid hown
      have HL := Lib.hid hlex
      clear hI0 hi hK hbo hown hS hlex hbox4
      gi_wp2_with fail
      have hK' : (put3 w W (.slice vA q.length vc) (.int .i64 0) (.int .i64 0)).heap[D]? = some (.deferred (some [])) := put3_other _ _ _ HK.out (by omega) (by omega) (by omega)
      obtain ⟨b0, b1, b2⟩ := put3_box HI.out.r0 HI.out.r1 HI.out.r2 (.slice vA q.length vc) (.int .i64 0) (.int .i64 0)
      have hbel := put3_below HI.out.below (.slice vA q.length vc) (.int .i64 0) (.int .i64 0)
      have hfin := lex_fin (o' := .deferred none) hbel hK' (by omega) b0 b1 b2
      have hlo : LexOut s w (.returned (.tuple #[.slice vA q.length vc, .int .i64 0, .int .i64 0])) ((put3 w W (.slice vA q.length vc) (.int .i64 0) (.int .i64 0)).putObj D (.deferred none)) := by
        unfold LexOut
        rw [HL.out]
        refine ⟨hfin.1, vA, _, vc, rfl, fun _ => ⟨rfl, ?_⟩⟩
        rcases HOWN.out.2 with ⟨h1, h0⟩ | ⟨g, cap, cur, h1, hb, hg, hc, hm, _, _⟩
        · exact ⟨by omega, fun h => by omega⟩
        · obtain ⟨rfl, rfl⟩ : vA = some ⟨g, 0, none⟩ ∧ vc = cap := by simpa using h1
          refine ⟨hc, fun _ => ⟨g, rfl, hb, toks_of fun j u hj => ?_⟩⟩
          have hne : ∀ {b : Nat} {t : TypeId} {u : Value}, Boxed W b t u → t ≠ 40 → g ≠ b := fun hbx ht e => by subst e; rw [show W.heap[g]? = _ from hbx] at hg; cases hg; exact ht rfl
          have hg3 := put3_other (.slice (some ⟨g, 0, none⟩) q.length vc) (.int .i64 0) (.int .i64 0) hg (hne HI.out.r0 (by decide)) (hne HI.out.r1 (by decide)) (hne HI.out.r2 (by decide))
          have hgD : g ≠ D := fun e => by subst e; rw [hg] at *; have := HK.out; cases this
          exact cell_same (((World.putObj_heap_other hgD).trans hg3).trans hg.symm) (own_cell HOWN.out hj)
      unfold put3 at hK' hfin hlo
      refine ⟨by simp, .inl ⟨_, _, rfl, run_takeDeferred hK', ?_⟩⟩
      exact ⟨_, results_three Tryd.results15 _ _ rfl rfl rfl (load_toks _ _ _ _ _ hfin.2.1) (load_errno _ _ _ hfin.2.2.1) (load_int _ _ _ hfin.2.2.2), hlo⟩
    case stop =>
      rintro D c pre W hD hB hx hK
      obtain ⟨er, at_, ini, last, rfl, b0, b1, b2, h5⟩ := hx.res
      have hlex : Lex.lex s = ([], er, (at_ : Int)) ∧ er ≠ 0 := by
        rcases h5 with ⟨h1, h2, h3, rfl, rfl⟩ | ⟨h1, h2, rfl, rfl⟩
        · exact ⟨Lex.lex_stop1 h20 hB h2 h1 h3, h1⟩
        · exact ⟨Lex.lex_stop2 h20 hB h1 h2, by decide⟩
      obtain rfl := hx.jump
      have hD4 := heap_lt hbox4
      have hfin := lex_fin (o' := .deferred none) hx.below hK (by omega) b0 b1 b2
      have hlo : LexOut s w (.returned (.tuple #[.slice none 0 0, .int .i64 er, .int .i64 at_])) (W.putObj D (.deferred none)) := by
        unfold LexOut
        rw [hlex.1]
        exact ⟨hfin.1, none, 0, 0, rfl, fun h => absurd h hlex.2⟩
      clear hI0 hbox4 h5 hlex hB hx b0 b1 b2
      have HFIN := Lib.hid hfin
      have HLO := Lib.hid hlo
      have HK := Lib.hid hK
      clear hfin hlo hK
      gi_wp2_with fail
      refine ⟨by simp, .inl ⟨_, _, rfl, run_takeDeferred HK.out, ?_⟩⟩
      exact ⟨_, results_three Tryd.results15 _ _ rfl rfl rfl (load_toks _ _ _ _ _ HFIN.out.2.1) (load_errno _ _ _ HFIN.out.2.2.1) (load_int _ _ _ HFIN.out.2.2.2), HLO.out⟩
  · have hlex : Lex.lex s = ([], 2, -1) := by unfold Lex.lex; rw [if_pos (by omega)]
    have HL := Lib.hid hlex
    clear hlex
    go_enter Tryd.func15, Tryd.ntmps15
    go_wp2_with fail
    have e0 := heap_alloc_new w (.cells #[.slice none 0 0] 23)
    have e1 := heap_alloc_new (w.alloc (.cells #[.slice none 0 0] 23)) (.cells #[.int .i64 2] 24)
    have e2 := heap_alloc_new ((w.alloc (.cells #[.slice none 0 0] 23)).alloc (.cells #[.int .i64 2] 24)) (.cells #[.int .i64 (-1)] 3)
    simp only [World.size_alloc] at e1 e2
    refine bodyPost_ret (v := .tuple #[.slice none 0 0, .int .i64 2, .int .i64 (-1)]) (results_three Tryd.results15 _ _ rfl rfl rfl (load_toks _ _ _ _ _ ((blk_cell (below_blk (below_new _ _) (below_blk (below_new _ _) e0)) 0).trans rfl)) (load_errno _ _ _ ((blk_cell (below_blk (below_new _ _) e1) 0).trans rfl)) (load_int _ _ _ ((blk_cell e2 0).trans rfl))) rfl ?_
    unfold LexOut
    rw [HL.out]
    exact ⟨below_then (below_then (below_new w _) (below_new _ _)) (below_new _ _), none, 0, 0, rfl, fun h => absurd h (by decide)⟩
end Go.Proofs.YtlhgflnmdmifaaaDoor.Wk
