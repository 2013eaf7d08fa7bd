/- Code: what flow.After tells. -/
import Derived.Test.YthcjjjpcjjondaaGreatDoorInsAT
import Derived.Test.YthcjjjpcjjondaaGreatDoorQue
namespace Go.Proofs.YthcjjjpcjjondaaGreatDoor
open Go.RowKit
set_option linter.unusedVariables false
set_option linter.unusedSimpArgs false
set_option linter.unnecessarySimpa false

def intCells (xs : List Int) : List Value := xs.map (.int .i64)
theorem intCells_len (xs : List Int) : (intCells xs).length = xs.length := by simp [intCells]
theorem intCells_app (xs ys : List Int) : intCells (xs ++ ys) = intCells xs ++ intCells ys := by simp [intCells]
theorem info_int : (Tryz.prog.info? 3).map (fun i => (i.zero, i.size, i.bytes)) = some (some (.int .i64 0), 1, 8) := by kernel_rfl
section
variable {ops : Array Oper} {rest : List Oper} {o : Oper} {a : Act} {Q : Exit → Act → World → Prop}
/-- append(v, y) at []int, onto a queue. -/
theorem append_int {w0 W : World} (base : Nat) (hgd : o.guard = none) (s x : Operand)
    (ho : o.op = .call { callee := .builtin .append, args := #[s, x], argTypes := #[88, 88] })
    (v : Value) (xs : List Int) (y : Int) (hs : a.eval s = v) (hx : a.eval x = .slice (some ⟨W.heap.size, 0, none⟩) 1 1)
    (HO : QRow W base 3 v (intCells xs)) (HB : Below base w0 W) (hbase : base ≤ W.heap.size) (hl : xs.length + 1 ≤ 8796093022208)
    (h : ∀ v1 w1, QRow w1 base 3 v1 (intCells (xs ++ [y])) → Below base w0 w1 → W.grownBy w1 v.ownBlock → (v1.ownBlock = v.ownBlock ∨ ∃ b, v1.ownBlock = some b ∧ W.heap.size ≤ b) → wpList Tryz.prog ops Q rest (a.put o.dst v1) w1) :
    wpList Tryz.prog ops Q (o :: rest) a (W.alloc (.cells #[.int .i64 y] 3)) := by
  refine append_q base hgd s x 88 3 (.int .i64 0) 8 ho Tryz.underlying88 info_int rfl (by decide) v (intCells xs) (.int .i64 y) hs hx (by simp [Value.oneCell']) HO HB hbase (by rw [intCells_len]; omega) ?_
  intro v1 w1 h1 h2 h3 h4
  refine h v1 w1 ?_ h2 h3 h4
  rw [intCells_app]
  exact h1
end
theorem cell_grownQ {w w1 : World} {row : Option Nat} (hg : w.grownBy w1 row) {b o : Nat} {u : Value} (hne : some b ≠ row) (h : w.cell? ⟨b, o, none⟩ = some u) : w1.cell? ⟨b, o, none⟩ = some u := by
  have hlt := World.block_lt_of_cell? w _ h
  exact (World.cell?_of_block (w := w) (hg.block b hlt hne)).trans h
/-- Where code may go on behind a place. -/
def afterL (x : Ins) (at_ : Int) : List Int := (if ends x.op then [] else [at_ + 1]) ++ (if jumps x.op && (x.op == 14 || !(x.a == at_ + 1)) then [x.a] else [])
/-- A queue of numbers, of the call's own. -/
def IntsPost (xs : List Int) (w : World) (e : Ending) (w' : World) : Prop := ∃ v, e = .returned v ∧ QRow w' w.heap.size 3 v (intCells xs) ∧ Below w.heap.size w w'
set_option maxRecDepth 100000 in
set_option maxHeartbeats 1000000 in
theorem flowAfter_any (v : Value) (l : List Ins) (at_ : Nat) (w : World) (hl : InsSl w v l) (h : at_ < l.length) : Calls Tryz.prog 120 #[v, .int .i64 at_] w (IntsPost (afterL l[at_] at_) w) := by
  obtain ⟨b, off, cap, rfl, h2, h3, hcell⟩ := hl.some (by intro e; rw [e] at h; simp at h)
  unfold maxLen at h3
  obtain ⟨⟨c0, c1, c2, c3, c4, c5⟩, hs⟩ := hcell at_ h
  have hb := (Below.refl w.heap.size w).alloc (Nat.le_refl _) (.cells #[.int .i64 l[at_].op, .int .i64 l[at_].a, .int .i64 l[at_].b, .string l[at_].ty, .string l[at_].cls, .string l[at_].nm] 56)
  have HF : Hid (afterL l[at_] at_ = (if ends l[at_].op then [] else [(at_ : Int) + 1]) ++ (if jumps l[at_].op && (l[at_].op == 14 || !(l[at_].a == (at_ : Int) + 1)) then [l[at_].a] else [])) := Lib.hid rfl
  clear hcell hl hs
  generalize l[at_] = x at *
  have e0 := World.cell?_alloc_new w #[.int .i64 x.op, .int .i64 x.a, .int .i64 x.b, .string x.ty, .string x.cls, .string x.nm] 56 0
  have e1 := World.cell?_alloc_new w #[.int .i64 x.op, .int .i64 x.a, .int .i64 x.b, .string x.ty, .string x.cls, .string x.nm] 56 1
  simp only [List.getElem?_toArray, List.getElem?_cons_zero, List.getElem?_cons_succ] at e0 e1
  have hz : w.heap.size < (w.alloc (.cells #[.int .i64 x.op, .int .i64 x.a, .int .i64 x.b, .string x.ty, .string x.cls, .string x.nm] 56)).heap.size := by simp
  go_enter Tryz.func120, Tryz.ntmps120
  go_wp2_with fail
  generalize w.alloc _ = W1 at *
  refine (ends_any x.op _).mono ?_
  rintro e w1 ⟨rfl, rfl⟩
  clear c0 c1 c2 c3 c4 c5
  have hz0 : (at_ : Int) + 1 ≤ 9223372036854775807 := by omega
  cases he : ends x.op
  · have HF1 : Hid (afterL x at_ = [(at_ : Int) + 1] ++ (if jumps x.op && (x.op == 14 || !(x.a == (at_ : Int) + 1)) then [x.a] else [])) := by apply Lib.hid; rw [HF.out, he]; rfl
    have HE := Lib.hid he
    clear HF he
    go_wp2_with (at_builtin; go_loud (refine append_int w.heap.size rfl _ _ rfl (.slice none 0 0) [] _ rfl rfl (q_nil _ _ _) hb hb.size (by simp) ?_))
    intro v1 w4 hq4 hb4 hg4 hat4
    have d0 := cell_grownQ hg4 (by simp [Value.ownBlock]) e0
    have d1 := cell_grownQ hg4 (by simp [Value.ownBlock]) e1
    obtain ⟨A4, cap4, rfl, hl4, hm4⟩ := q_form hq4
    have HQ4 := Lib.hid hq4
    have HB4 := Lib.hid hb4
    have HG4 := Lib.hid hg4
    clear e0 e1 hq4 hat4 hg4
    go_wp2_with fail
    refine (jumps_any x.op _).mono ?_
    rintro e w5 ⟨rfl, rfl⟩
    cases hj : jumps x.op
    · have H : Hid (afterL x at_ = [] ++ [(at_ : Int) + 1]) := by apply Lib.hid; rw [HF1.out, hj]; simp
      clear HF1 hj
      go_wp2
      go_ret
      exact ⟨_, rfl, by rw [H.out]; exact HQ4.out, HB4.out⟩
    have hjump : (x.op == 14 || !(x.a == (at_ : Int) + 1)) = true ∨ (x.op == 14) = false ∧ (x.a == (at_ : Int) + 1) = true := by
      cases x.op == 14 <;> cases x.a == (at_ : Int) + 1 <;> simp
    rcases hjump with hy | ⟨hy1, hy2⟩
    · have H : Hid (afterL x at_ = [] ++ [(at_ : Int) + 1] ++ [x.a]) := by apply Lib.hid; rw [HF1.out, hj, hy]; simp
      have hy' : (x.op == 14) = true ∨ (x.op == 14) = false ∧ (x.a == (at_ : Int) + 1) = false ∧ (x.a != (at_ : Int) + 1) = true := by
        unfold bne
        cases h1 : x.op == 14 <;> cases h2 : x.a == (at_ : Int) + 1 <;> simp_all
      have HHB := Lib.hid HB4.out
      have hbs := HB4.out.size
      clear HF1 hj hy
      rcases hy' with hy | ⟨hy, hy2, hy3⟩
      all_goals
        go_wp2_with (at_builtin; go_loud (refine append_int w.heap.size rfl _ _ rfl (.slice A4 (intCells ([] ++ [(at_ : Int) + 1])).length cap4) ([] ++ [(at_ : Int) + 1]) _ rfl rfl HQ4.out HHB.out hbs (by simp) ?_))
        intro v6 w6 hq6 hb6 hg6 hat6
        go_wp2
        go_ret
        exact ⟨_, rfl, by rw [H.out]; exact hq6, hb6⟩
    · have H : Hid (afterL x at_ = [] ++ [(at_ : Int) + 1]) := by apply Lib.hid; rw [HF1.out, hj, hy1, hy2]; simp
      have hy3 : (x.a != (at_ : Int) + 1) = false := by unfold bne; rw [hy2]; rfl
      clear HF1 hj
      go_wp2
      go_ret
      exact ⟨_, rfl, by rw [H.out]; exact HQ4.out, HB4.out⟩
  · have HF1 : Hid (afterL x at_ = [] ++ (if jumps x.op && (x.op == 14 || !(x.a == (at_ : Int) + 1)) then [x.a] else [])) := by apply Lib.hid; rw [HF.out, he]; rfl
    have HE := Lib.hid he
    clear HF he
    go_wp2_with fail
    refine (jumps_any x.op _).mono ?_
    rintro e w5 ⟨rfl, rfl⟩
    cases hj : jumps x.op
    · have H : Hid (afterL x at_ = []) := by apply Lib.hid; rw [HF1.out, hj]; simp
      clear HF1 hj
      go_wp2
      go_ret
      exact ⟨_, rfl, by rw [H.out]; exact (q_nil _ _ _), hb⟩
    have hjump : (x.op == 14 || !(x.a == (at_ : Int) + 1)) = true ∨ (x.op == 14) = false ∧ (x.a == (at_ : Int) + 1) = true := by
      cases x.op == 14 <;> cases x.a == (at_ : Int) + 1 <;> simp
    rcases hjump with hy | ⟨hy1, hy2⟩
    · have H : Hid (afterL x at_ = [] ++ [x.a]) := by apply Lib.hid; rw [HF1.out, hj, hy]; simp
      have hy' : (x.op == 14) = true ∨ (x.op == 14) = false ∧ (x.a == (at_ : Int) + 1) = false ∧ (x.a != (at_ : Int) + 1) = true := by
        unfold bne
        cases h1 : x.op == 14 <;> cases h2 : x.a == (at_ : Int) + 1 <;> simp_all
      have HHB := Lib.hid hb
      have hbs := hb.size
      clear HF1 hj hy
      rcases hy' with hy | ⟨hy, hy2, hy3⟩
      all_goals
        go_wp2_with (at_builtin; go_loud (refine append_int w.heap.size rfl _ _ rfl (.slice none 0 0) ([]) _ rfl rfl (q_nil _ _ _) HHB.out hbs (by simp) ?_))
        intro v6 w6 hq6 hb6 hg6 hat6
        go_wp2
        go_ret
        exact ⟨_, rfl, by rw [H.out]; exact hq6, hb6⟩
    · have H : Hid (afterL x at_ = []) := by apply Lib.hid; rw [HF1.out, hj, hy1, hy2]; simp
      have hy3 : (x.a != (at_ : Int) + 1) = false := by unfold bne; rw [hy2]; rfl
      clear HF1 hj
      go_wp2
      go_ret
      exact ⟨_, rfl, by rw [H.out]; exact (q_nil _ _ _), hb⟩
end Go.Proofs.YthcjjjpcjjondaaGreatDoor
