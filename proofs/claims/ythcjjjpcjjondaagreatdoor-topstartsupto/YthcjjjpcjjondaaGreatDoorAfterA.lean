/- frame.After: the deferred call where nothing went wrong; heaped at instructions of the stack alone; a copy of texts. -/
import Derived.Test.YthcjjjpcjjondaaGreatDoorStepU
import Derived.Defers
import Derived.Recover
namespace Go.Proofs.YthcjjjpcjjondaaGreatDoor
open Go.RowKit
set_option linter.unusedVariables false
set_option linter.unusedSimpArgs false
set_option linter.unnecessarySimpa false

theorem after_idle (p q : Addr) (w : World) :
    CallsD Tryz.prog 200 #[.pointer (some p), .pointer (some q)] .returning w fun e u' w' => e = .returned (.tuple #[]) ∧ u' = .returning ∧ w' = w := by
  refine callsD_of_wpS Tryz.func200 rfl fun c₀ cs hu => ?_
  apply wpS_seq
  apply wpS_region
  simp [wpOpsS, go_sem, recoverD, hu, Tryz.ntmps200, Exit.thenS]
  apply wpS_seq
  apply wpS_region
  simp [wpOpsS, go_sem, recoverD, hu, Tryz.ntmps200, Exit.thenS]
  refine wpS_cond (t := false) (by simp [Act.eval, Array.replicate]) ?_
  simp only [Bool.false_eq_true, if_false]
  refine wpS_of_wp (wp_skip ?_)
  cases c₀
  simp_all [bodyPostS, results, Tryz.results200]
theorem clone_any (v : Value) (xs : List Str) (w : World) (h : StrSl w v xs) (hl : xs.length ≤ 1099511627776) : Calls Tryz.prog 201 #[v] w (StrsPost xs w) := by
  obtain ⟨A, cap, rfl, h1, h2, h3⟩ := h
  cases xs with
  | nil =>
    cases A with
    | none => exact (Tryz.slices_Clone_string_nil 0 cap w).mono fun e w' ⟨he, hw⟩ => ⟨_, he, by subst hw; exact own_nil _ _ _ _, by rw [hw]; exact Below.refl _ _⟩
    | some a => exact (Tryz.slices_Clone_string_zero a cap w).mono fun e w' ⟨v', he, ho, _, hb⟩ => ⟨v', he, ho, hb⟩
  | cons x xs =>
    obtain ⟨b, off, rfl, _⟩ := h3 0 x rfl
    refine (Tryz.slices_Clone_string b off (x :: xs).length cap (x :: xs) w (Nat.le_refl _) (by omega) ?_).mono ?_
    · intro j hj
      obtain ⟨b', off', he, hc⟩ := h3 j ((x :: xs)[j]'hj) (List.getElem?_eq_getElem hj)
      injection he with he
      injection he with e1 e2 _
      subst e1 e2
      rw [List.getD_eq_getElem?_getD, List.getElem?_eq_getElem hj]
      exact hc
    · rintro e w' ⟨v', he, ho, _, hb⟩
      rw [List.take_length] at ho
      exact ⟨v', he, ho, hb⟩
set_option maxRecDepth 100000 in
set_option maxHeartbeats 2000000 in
theorem sheap (w0 wk : World) (b : Nat) (wv : Value) (fr gv : Str) (ls ss : List Str) (op a bb : Int) (ty cls nm : Str) (w : World) (h : StepS w0 wk w b wv fr gv ls ss) (hop : op = 4 ∨ op = 9 ∨ op = 27) :
    Calls Tryz.prog 203 #[.pointer (some ⟨b, 0, none⟩), .agg #[.int .i64 op, .int .i64 a, .int .i64 bb, .string ty, .string cls, .string nm]] w (StepPost w0 wk b wv fr gv ls ss (.tuple #[])) := by
  have H := Lib.hid h
  clear h
  rcases hop with rfl | rfl | rfl
  all_goals
    go_enter Tryz.func203, Tryz.ntmps203
    go_wp2
    go_end0
    exact ⟨rfl, H.out.alloc _⟩
end Go.Proofs.YthcjjjpcjjondaaGreatDoor
