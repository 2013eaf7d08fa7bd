/- frame.stepper: plain at the operations of the adder. -/
import Derived.Test.YthcjjjpcjjondaaGreatDoorSteps
import Derived.StillTailTactics
import Derived.Deep.QuietTactic
import Derived.BigQuiet
namespace Go.Proofs.YthcjjjpcjjondaaGreatDoor
open Go.RowKit
set_option linter.unusedVariables false
set_option linter.unusedSimpArgs false
set_option linter.unnecessarySimpa false

theorem World.cell?_drewN {w : World} (n : Nat) {a : Addr} : (w.drewN n).cell? a = w.cell? a := by
  rfl
theorem StepS.drewN {w0 wk w : World} {b : Nat} {wv : Value} {fr gv : Str} {ls ss : List Str} (n : Nat) (h : StepS w0 wk w b wv fr gv ls ss) : StepS w0 wk (w.drewN n) b wv fr gv ls ss := by
  obtain ⟨h0, h1, h2, lv, sv, h3, h4, h5, h6⟩ := h
  exact ⟨h0, ⟨h1.os, h1.tape, h1.output, h1.size, h1.block⟩, h2, lv, sv, h3, h4, h5, h6⟩
theorem StepS.lt {w0 wk w : World} {b : Nat} {wv : Value} {fr gv : Str} {ls ss : List Str} (h : StepS w0 wk w b wv fr gv ls ss) : b < w.heap.size := by
  obtain ⟨h0, h1, h2, lv, sv, h3, _⟩ := h
  exact step_lt h3
set_option maxRecDepth 100000 in
set_option maxHeartbeats 2000000 in
theorem sload (w0 wk : World) (b : Nat) (wv : Value) (fr gv : Str) (ls ss : List Str) (i : Nat) (bb : Int) (ty cls nm k : Str) (w : World) (h : StepS w0 wk w b wv fr gv ls ss) (hi : ls[i]? = some k) (hk : (k.toList == [84]) = false) (hss : ss.length < 8) :
    Calls Tryz.prog 202 #[.pointer (some ⟨b, 0, none⟩), .agg #[.int .i64 4, .int .i64 i, .int .i64 bb, .string ty, .string cls, .string nm]] w (StepPost w0 wk b wv fr gv ls (ss ++ [k]) (.tuple #[])) := by
  have hb1 : Below w.heap.size w (w.alloc (.cells #[.int .i64 4, .int .i64 i, .int .i64 bb, .string ty, .string cls, .string nm] 56)) := (Below.refl w.heap.size w).alloc (Nat.le_refl _) _
  have h1 := h.below hb1
  have hnk : (k.toList != [84]) = true := by unfold bne; rw [hk]; rfl
  have hlt := h.lt
  obtain ⟨hT, hB, hbb, lv, sv, hs, hl, hown, hn1, hn2, hn3⟩ := h1
  obtain ⟨h0, h3, h4, f4, f3⟩ := step_cell hs
  obtain ⟨lA, lcap, rfl, hl1, hl2⟩ := (own_strs hl).form
  obtain ⟨hil, hik⟩ := List.getElem?_eq_some_iff.1 hi
  obtain ⟨g, off, rfl, hc⟩ := (own_strs hl).at hil
  rw [hik] at hc
  unfold maxLen at hl2
  have hb0 : b ≠ w.heap.size := by omega
  have hdl : decide ((i : Int) < (ls.length : Int)) = true := decide_eq_true (by omega)
  have H := Lib.hid h
  clear hl hown hs hn1 hn2 hn3 h hT
  go_enter Tryz.func202, Tryz.ntmps202
  go_wp2_with fail
  have e1 := World.cell?_alloc_new w #[.int .i64 4, .int .i64 i, .int .i64 bb, .string ty, .string cls, .string nm] 56 1
  simp only [List.getElem?_toArray, List.getElem?_cons_zero, List.getElem?_cons_succ] at e1
  have HS1 := Lib.hid (H.out.below hb1)
  generalize w.alloc _ = W1 at *
  go_quiet ((go_at_call 237; exact Calls.quiet_of_same ((fneed_true _).mono fun _ _ h => ⟨h.1, h.2.symm⟩)))
  have HS2 := Lib.hid (HS1.out.drewN nq)
  rw [← World.cell?_drewN nq] at e1 h0 h3 h4 hc
  go_wp2_with fail
  generalize W1.drewN nq = W2 at *
  go_still_tail 10, (by kernel_rfl)
  change wpList _ _ _ _ _ W2.drew
  go_wp2_with fail
  refine (sput w0 wk b wv fr gv k ls ss _ HS2.out.drew hss).mono ?_
  rintro e w3 ⟨rfl, hS3⟩
  go_wp2
  go_end0
  exact ⟨rfl, hS3⟩
theorem StepS.alloc {w0 wk w : World} {b : Nat} {wv : Value} {fr gv : Str} {ls ss : List Str} (h : StepS w0 wk w b wv fr gv ls ss) (o : Obj) : StepS w0 wk (w.alloc o) b wv fr gv ls ss :=
  h.below ((Below.refl w.heap.size w).alloc (Nat.le_refl _) o)
theorem TagK.trans {a b c : World} (h : TagK a b) (k : TagK b c) : TagK a c := fun q x t fz hq h1 h2 => k q x t fz (h q x t fz hq h1 h2) h1 h2
theorem StepS.re {w0 wk w : World} {b : Nat} {wv : Value} {fr gv : Str} {ls ss : List Str} (h : StepS w0 wk w b wv fr gv ls ss) : StepS w0 w w b wv fr gv ls ss := ⟨TagK.refl w, h.2⟩
theorem StepS.back {w0 wk w w1 : World} {b : Nat} {wv : Value} {fr gv : Str} {ls ss ls1 ss1 : List Str} (h : StepS w0 wk w b wv fr gv ls ss) (k : StepS w0 w w1 b wv fr gv ls1 ss1) : StepS w0 wk w1 b wv fr gv ls1 ss1 := ⟨h.1.trans k.1, k.2⟩
def insBox (op a b : Int) (ty cls nm : Str) : Obj := .cells #[.int .i64 op, .int .i64 a, .int .i64 b, .string ty, .string cls, .string nm] 56
theorem insBox_at (w : World) (op a b : Int) (ty cls nm : Str) : (w.alloc (insBox op a b ty cls nm)).heap[w.heap.size]? = some (.cells #[.int .i64 op, .int .i64 a, .int .i64 b, .string ty, .string cls, .string nm] 56 (0, 0)) := by
  show (w.heap.push _)[w.heap.size]? = _
  simp [insBox]
theorem str_new (w : World) (k : Str) : (w.alloc (.cells #[.string k] 9)).cell? ⟨w.heap.size, 0, none⟩ = some (.string k) := by
  have := World.cell?_alloc_new w #[.string k] 9 0
  simpa using this
set_option maxRecDepth 100000 in
set_option maxHeartbeats 2000000 in
theorem smath (w0 wk : World) (b : Nat) (wv : Value) (fr gv : Str) (ls ss : List Str) (bb : Int) (k cls nm : Str) (L : PW) (w : World) (hW : WMap w0 wv L) (h : StepS w0 wk w b wv fr gv ls (ss ++ [k] ++ [k])) (hk : kindErr L k = 0) (hz : k.size ≤ 4611686018427387904) (hss : ss.length < 8) :
    Calls Tryz.prog 202 #[.pointer (some ⟨b, 0, none⟩), .agg #[.int .i64 9, .int .i64 1, .int .i64 bb, .string k, .string cls, .string nm]] w (StepPost w0 wk b wv fr gv ls (ss ++ [k]) (.tuple #[])) := by
  have hlt := h.lt
  have h1 := h.alloc (insBox 9 1 bb k cls nm)
  have hX := insBox_at w 9 1 bb k cls nm
  have HZ : Hid ((w.alloc (insBox 9 1 bb k cls nm)).heap.size = w.heap.size + 1) := by apply Lib.hid; simp
  unfold insBox at h1 hX HZ
  have HX := Lib.hid hX
  have HK := Lib.hid hk
  have H := Lib.hid h1
  have e1 : (w.alloc (insBox 9 1 bb k cls nm)).cell? ⟨w.heap.size, 1, none⟩ = some (.int .i64 1) := (TagK.refl _).cell hX (by decide) (by decide)
  have e3 : (w.alloc (insBox 9 1 bb k cls nm)).cell? ⟨w.heap.size, 3, none⟩ = some (.string k) := (TagK.refl _).cell hX (by decide) (by decide)
  unfold insBox at e1 e3
  clear h h1 hk hX
  go_enter Tryz.func202, Tryz.ntmps202
  go_wp2_with fail
  generalize w.alloc _ = W1 at *
  refine (stake w0 W1 b (w.heap.size + 1) 1 wv fr gv k ls _ L _ hW (H.out.re.alloc _) HK.out hz (HZ.out ▸ str_new W1 k)).mono ?_
  rintro e w2 ⟨rfl, hS2⟩
  have d3 : w2.cell? ⟨w.heap.size, 3, none⟩ = some (.string k) := hS2.1.cell HX.out (by decide) (by decide)
  have HS2 := Lib.hid hS2
  clear e1 e3 hS2
  go_wp2_with fail
  refine (stake w0 W1 b w2.heap.size 1 wv fr gv k ls _ L _ hW (HS2.out.alloc _) HK.out hz (str_new w2 k)).mono ?_
  rintro e w3 ⟨rfl, hS3⟩
  have d33 : w3.cell? ⟨w.heap.size, 3, none⟩ = some (.string k) := hS3.1.cell HX.out (by decide) (by decide)
  have HS3 := Lib.hid hS3
  clear d3 hS3
  go_wp2_with fail
  refine (sput w0 W1 b wv fr gv k ls ss _ HS3.out hss).mono ?_
  rintro e w4 ⟨rfl, hS4⟩
  have HS4 := Lib.hid (H.out.back hS4)
  clear hS4
  go_wp2
  go_end0
  exact ⟨rfl, HS4.out⟩
set_option maxRecDepth 100000 in
set_option maxHeartbeats 2000000 in
theorem sgive (w0 wk : World) (b : Nat) (wv : Value) (fr gv : Str) (ls ss : List Str) (a bb : Int) (ty cls nm : Str) (L : PW) (w : World) (hW : WMap w0 wv L) (h : StepS w0 wk w b wv fr gv ls (ss ++ [gv])) (hk : kindErr L gv = 0) (hv : (gv.toList == [86]) = false) (hz : gv.size ≤ 4611686018427387904) :
    Calls Tryz.prog 202 #[.pointer (some ⟨b, 0, none⟩), .agg #[.int .i64 27, .int .i64 a, .int .i64 bb, .string ty, .string cls, .string nm]] w (StepPost w0 wk b wv fr gv ls ss (.tuple #[])) := by
  have hlt := h.lt
  have h1 := h.alloc (insBox 27 a bb ty cls nm)
  have HZ : Hid ((w.alloc (insBox 27 a bb ty cls nm)).heap.size = w.heap.size + 1) := by apply Lib.hid; simp
  unfold insBox at h1 HZ
  have c2 : (w.alloc (.cells #[.int .i64 27, .int .i64 a, .int .i64 bb, .string ty, .string cls, .string nm] 56)).cell? ⟨b, 2, none⟩ = some (.string gv) := by
    obtain ⟨h0, h1, h2, lv, sv, h3, _⟩ := h1
    unfold StepAt at h3
    simp [World.cell?, h3]
  have hnv : (gv.toList != [86]) = true := by unfold bne; rw [hv]; rfl
  have HK := Lib.hid hk
  have H := Lib.hid h1
  clear h h1 hk
  go_enter Tryz.func202, Tryz.ntmps202
  go_wp2_with fail
  generalize w.alloc _ = W1 at *
  refine (fneed_true _).mono ?_
  rintro e w2 ⟨rfl, rfl⟩
  go_wp2_with fail
  refine (stake w0 wk b W1.heap.size 1 wv fr gv gv ls _ L _ hW (H.out.alloc _) HK.out hz (str_new W1 gv)).mono ?_
  rintro e w3 ⟨rfl, hS3⟩
  have HS3 := Lib.hid hS3
  clear hS3
  go_wp2
  go_end0
  exact ⟨rfl, HS3.out⟩
end Go.Proofs.YthcjjjpcjjondaaGreatDoor
