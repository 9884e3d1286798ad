-- written by starts.py
/- Conditions of commencement: all, any. -/
import Derived.Test.YtlhgflnmdmifaaaDoorM6
namespace Go.Proofs.YtlhgflnmdmifaaaDoor.Wk
open Go.RowKit PD

set_option maxHeartbeats 1000000 in
theorem join_all : JoinS 131 8 := by
  intro w A n cc
  go_enter Tryd.func131, Tryd.ntmps131
  go_wp2
  refine bodyPost_ret (v := .agg #[.int .i64 8, .string ⟨#[]⟩, .int .i64 0, .slice A n cc]) (by simp [results, Tryd.results131, go_sem]) rfl ⟨rfl, ?_⟩
  exact below_new _ _
set_option maxHeartbeats 1000000 in
theorem join_any : JoinS 122 9 := by
  intro w A n cc
  go_enter Tryd.func122, Tryd.ntmps122
  go_wp2
  refine bodyPost_ret (v := .agg #[.int .i64 9, .string ⟨#[]⟩, .int .i64 0, .slice A n cc]) (by simp [results, Tryd.results122, go_sem]) rfl ⟨rfl, ?_⟩
  exact below_new _ _

/-- What a reader of conditions without and and or does. -/
def OneP (k : Nat) : Prop := ∀ (w : World) (g b o c : Nat) (l : List (Tok × Nat)) (en i : Nat), Par w g b o c l en i → (North.one k).run (l.map (·.1)) i ≠ .out →
  Calls Tryd.prog 130 #[.pointer (some ⟨g, 0, none⟩)] w (Out (EncSt w) ((North.one k).run (l.map (·.1)) i) g b o c l en w)
def AllP (k : Nat) : Prop := ∀ (w : World) (g b o c : Nat) (l : List (Tok × Nat)) (en i : Nat), Par w g b o c l en i → (North.all k).run (l.map (·.1)) i ≠ .out →
  Calls Tryd.prog 121 #[.pointer (some ⟨g, 0, none⟩)] w (Out (EncSt w) ((North.all k).run (l.map (·.1)) i) g b o c l en w)
def StartP (k : Nat) : Prop := ∀ (w : World) (g b o c : Nat) (l : List (Tok × Nat)) (en i : Nat), Par w g b o c l en i → (North.start k).run (l.map (·.1)) i ≠ .out →
  Calls Tryd.prog 89 #[.pointer (some ⟨g, 0, none⟩)] w (Out (EncSt w) ((North.start k).run (l.map (·.1)) i) g b o c l en w)

set_option maxHeartbeats 1000000 in
theorem all_of {k : Nat} (hk : k ≤ 6000) (ha : OneP k) : AllP k := by
  intro w g b o c l en i h hout
  have hmf : ∀ (fn : Fn) (first cap : Array Value) (w : World), (Instr.makeFunc fn first cap).run Tryd.prog w = .ok (.func fn first cap) w := fun _ _ _ _ => rfl
  have hg := h.lt
  have HC := several_callsS (h.below (below_new w zeroS)) 130 131 (fun _ _ => by kernel_rfl) (fun _ _ => by kernel_rfl) 8 join_all (North.one k)
    (fun w1 i1 _ hP _ ho => ha w1 g b o c l en i1 hP ho) [97, 110, 100] k hk hout
  have HP0 := Lib.hid h; clear h
  cases hr : (North.all k).run (l.map (·.1)) i with
  | out => exact absurd hr hout
  | err er j =>
    have HC := Lib.hid (Out.err_of hr HC)
    unfold mkS zeroS at HC
    clear hr hout
    go_enter Tryd.func121, Tryd.ntmps121
    go_wp2_with fail
    refine HC.out.mono ?_
    rintro e w2 ⟨rfl, hK⟩
    exact ⟨rfl, (Keep.of_below (below_new w zeroS)).trans hK, rfl⟩
  | ok f i' =>
    have HC := Lib.hid (Out.ok_of hr HC)
    unfold mkS zeroS at HC
    clear hr hout
    go_enter Tryd.func121, Tryd.ntmps121
    go_wp2_with fail
    refine HC.out.mono ?_
    rintro e w2 ⟨v, rfl, ⟨kv, rfl, hrep⟩, hP, hK⟩
    have HB8 := Lib.hid (wrapS_blk hg hK)
    obtain ⟨⟨d0, d1, d2, d3⟩, ⟨e0, e1, e2, e3⟩, hlt3⟩ := blk4 HB8.out
    obtain ⟨fo, fn, fm, fks⟩ := f
    obtain ⟨kA, kc, rfl, -⟩ := hrep.slice
    have HX := Lib.hid hrep; clear hrep
    have HP := Lib.hid hP; clear hP
    have HK := Lib.hid hK; clear hK
    clear HC
    unfold StV
    simp only [StC]
    go_wp2
    obtain ⟨⟨r0, r1, r2, r3⟩, -, -⟩ := blk4 (set4_blk HB8.out (.int .i64 fo) (.string (mkS fn)) (.int .i64 fm) (.slice kA fks.length kc))
    obtain ⟨q1, q2, q3⟩ := wrapS HP0.out HX.out HP.out HK.out (.int .i64 fo) (.string (mkS fn)) (.int .i64 fm) (.slice kA fks.length kc)
    unfold set4 at r0 r1 r2 r3 q1 q2 q3
    exact bodyPost_ret (v := StV (.mk fo fn fm fks) (.slice kA fks.length kc)) (by simp [results, Tryd.results121, go_sem, r0, r1, r2, r3, StV, StC]) rfl ⟨q1, _, rfl, ⟨_, rfl, q2⟩, q3⟩

set_option maxHeartbeats 1000000 in
theorem start_of {k : Nat} (hk : k ≤ 6000) (ha : AllP k) : StartP k := by
  intro w g b o c l en i h hout
  have hmf : ∀ (fn : Fn) (first cap : Array Value) (w : World), (Instr.makeFunc fn first cap).run Tryd.prog w = .ok (.func fn first cap) w := fun _ _ _ _ => rfl
  have hg := h.lt
  have HC := several_callsS (h.below (below_new w zeroS)) 121 122 (fun _ _ => by kernel_rfl) (fun _ _ => by kernel_rfl) 9 join_any (North.all k)
    (fun w1 i1 _ hP _ ho => ha w1 g b o c l en i1 hP ho) [111, 114] k hk hout
  have HP0 := Lib.hid h; clear h
  cases hr : (North.start k).run (l.map (·.1)) i with
  | out => exact absurd hr hout
  | err er j =>
    have HC := Lib.hid (Out.err_of hr HC)
    unfold mkS zeroS at HC
    clear hr hout
    go_enter Tryd.func89, Tryd.ntmps89
    go_wp2_with fail
    refine HC.out.mono ?_
    rintro e w2 ⟨rfl, hK⟩
    exact ⟨rfl, (Keep.of_below (below_new w zeroS)).trans hK, rfl⟩
  | ok f i' =>
    have HC := Lib.hid (Out.ok_of hr HC)
    unfold mkS zeroS at HC
    clear hr hout
    go_enter Tryd.func89, Tryd.ntmps89
    go_wp2_with fail
    refine HC.out.mono ?_
    rintro e w2 ⟨v, rfl, ⟨kv, rfl, hrep⟩, hP, hK⟩
    have HB8 := Lib.hid (wrapS_blk hg hK)
    obtain ⟨⟨d0, d1, d2, d3⟩, ⟨e0, e1, e2, e3⟩, hlt3⟩ := blk4 HB8.out
    obtain ⟨fo, fn, fm, fks⟩ := f
    obtain ⟨kA, kc, rfl, -⟩ := hrep.slice
    have HX := Lib.hid hrep; clear hrep
    have HP := Lib.hid hP; clear hP
    have HK := Lib.hid hK; clear hK
    clear HC
    unfold StV
    simp only [StC]
    go_wp2
    obtain ⟨⟨r0, r1, r2, r3⟩, -, -⟩ := blk4 (set4_blk HB8.out (.int .i64 fo) (.string (mkS fn)) (.int .i64 fm) (.slice kA fks.length kc))
    obtain ⟨q1, q2, q3⟩ := wrapS HP0.out HX.out HP.out HK.out (.int .i64 fo) (.string (mkS fn)) (.int .i64 fm) (.slice kA fks.length kc)
    unfold set4 at r0 r1 r2 r3 q1 q2 q3
    exact bodyPost_ret (v := StV (.mk fo fn fm fks) (.slice kA fks.length kc)) (by simp [results, Tryd.results89, go_sem, r0, r1, r2, r3, StV, StC]) rfl ⟨q1, _, rfl, ⟨_, rfl, q2⟩, q3⟩
end Go.Proofs.YtlhgflnmdmifaaaDoor.Wk
