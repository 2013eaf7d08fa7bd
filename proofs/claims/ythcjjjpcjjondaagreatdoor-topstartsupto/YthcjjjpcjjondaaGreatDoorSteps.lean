/- Kinds: sub.Kind, sub.Refs, sub.Thing. -/
import Derived.Test.YthcjjjpcjjondaaGreatDoorStart
namespace Go.Proofs.YthcjjjpcjjondaaGreatDoor
open Go.RowKit
set_option linter.unusedVariables false
set_option linter.unusedSimpArgs false
set_option linter.unnecessarySimpa false

def sN : Str := ⟨#[78]⟩
def sT : Str := ⟨#[84]⟩
def isNT (k : Str) : Bool := k.toList == [78] || k.toList == [84]
def kindErr (L : PW) (k : Str) : Int := if isNT k = true then 0 else if descErr k ≠ 0 then 1 else if (classR k).size = 0 then 0 else if hasK L (classR k) then 0 else 3
theorem type_shape {s : Str} (h : isType s = true) : deepL (bytes s) + 2 ≤ s.size ∨ isNum (s.extract (deepL (bytes s)) s.size) = true := by
  unfold isType at h
  rw [beq_iff_eq] at h
  unfold cutLen at h
  split at h
  · cases h
  · split at h
    · cases h
    · rename_i b t hd
      split at h
      · rename_i hb
        injection h with h
        right
        have hl := congrArg List.length hd
        rw [List.length_drop, List.length_cons, bytes_length] at hl
        have ht : t = [] := List.eq_nil_of_length_eq_zero (by omega)
        have hx : bytes (s.extract (deepL (bytes s)) s.size) = [b] := by rw [bytes_extract_end, hd, ht]
        unfold isNum
        rw [hx]
        rcases hb with rfl | rfl <;> rfl
      · split at h
        · split at h
          · cases h
          · split at h
            · injection h with h
              left
              rename_i hb1 hb hi _
              have hp : Lib.indexByte (b :: t) 59 ≠ 0 := by
                intro e
                have := (Lib.indexByte_some (o := 0) e).1
                simp at this
                rw [hb] at this
                cases this
              omega
            · cases h
        · cases h
set_option maxRecDepth 100000 in
set_option maxHeartbeats 1000000 in
theorem kind_any (v : Value) (L : PW) (k : Str) (w : World) (h : WMap w v L) (hs : k.size ≤ 4611686018427387904) : Calls Tryz.prog 91 #[v, .string k] w (ErrPost (kindErr L k) w) := by
  have HF : Hid (kindErr L k = if isNT k = true then 0 else if descErr k ≠ 0 then 1 else if (classR k).size = 0 then 0 else if hasK L (classR k) then 0 else 3) := Lib.hid rfl
  have HD := Lib.hid (descCheck k w hs)
  have HC : Hid (∀ w1, isType k = true → Calls Tryz.prog 99 #[.string k] w1 fun e w' => e = .returned (.string (classR k)) ∧ w1 = w') := Lib.hid (fun w1 h => descClass k w1 hs (type_shape h))
  have HT : Hid (isType k = true ↔ descErr k = 0) := by apply Lib.hid; unfold descErr; cases isType k <;> simp
  obtain ⟨r, rfl⟩ := h.form
  have HM := Lib.hid h
  clear h
  cases h1 : (ByteArray.toList k == [78])
  case true =>
    have H : Hid (kindErr L k = 0) := by apply Lib.hid; rw [HF.out]; exact if_pos (by unfold isNT; rw [h1]; rfl)
    clear HF
    go_enter Tryz.func91, Tryz.ntmps91
    go_wp2
    go_ret
    exact ep_ok H.out rfl (Below.refl _ _)
  cases h2 : (ByteArray.toList k == [84])
  case true =>
    have H : Hid (kindErr L k = 0) := by apply Lib.hid; rw [HF.out]; exact if_pos (by unfold isNT; rw [h2, Bool.or_true])
    clear HF
    go_enter Tryz.func91, Tryz.ntmps91
    go_wp2
    go_ret
    exact ep_ok H.out rfl (Below.refl _ _)
  case false =>
    have HF1 : Hid (kindErr L k = if descErr k ≠ 0 then 1 else if (classR k).size = 0 then 0 else if hasK L (classR k) then 0 else 3) := by apply Lib.hid; rw [HF.out]; exact if_neg (by unfold isNT; rw [h1, h2]; simp)
    clear HF
    go_enter Tryz.func91, Tryz.ntmps91
    go_wp2_with fail
    refine (HD.out).mono ?_
    rintro e w1 ⟨rfl, hb1⟩
    by_cases hd : descErr k = 0
    case neg =>
      have H : Hid (kindErr L k = 1) := by apply Lib.hid; rw [HF1.out, if_pos hd]
      have e1 : descErr k = 1 := by unfold descErr at hd ⊢; split at hd <;> simp_all
      rw [e1, errV_ne (by decide)]
      clear HF1 hd e1
      go_wp2
      go_ret
      exact ep_mk H.out (by decide) rfl hb1
    have HF2 : Hid (kindErr L k = if (classR k).size = 0 then 0 else if hasK L (classR k) then 0 else 3) := by apply Lib.hid; rw [HF1.out, hd]; rfl
    have HIS := Lib.hid (HT.out.2 hd)
    rw [hd, errV_0]
    clear HF1 hd
    go_wp2_with fail
    refine (HC.out w1 HIS.out).mono ?_
    rintro e w2 ⟨rfl, rfl⟩
    by_cases hz : (classR k).size = 0
    · have H : Hid (kindErr L k = 0) := by apply Lib.hid; rw [HF2.out, if_pos hz]
      have hl := empty_list hz
      clear HF2 hz
      generalize classR k = c at *
      go_wp2
      go_ret
      exact ep_ok H.out rfl hb1
    · have HF3 : Hid (kindErr L k = if hasK L (classR k) then 0 else 3) := by apply Lib.hid; rw [HF2.out, if_neg hz]
      have hl := empty_not hz
      clear HF2 hz HC
      generalize classR k = c at *
      obtain ⟨fv3, gv3, mv3, hP3, _, hrun⟩ := lookupW (HM.out.below hb1) c
      obtain ⟨fA3, fc3, gA3, gc3, mA3, mc3, rfl, rfl, rfl⟩ := hP3.forms
      unfold clsA at hrun
      clear hP3
      generalize getC L c = c3 at *
      have HB1 : ∀ o, Below w.heap.size w (w1.alloc o) := fun o => hb1.alloc hb1.size o
      cases hk : hasK L c
      · rw [hk] at hrun
        have H : Hid (kindErr L k = 3) := by apply Lib.hid; rw [HF3.out, hk]; rfl
        clear HF3
        go_wp2
        go_ret
        exact ep_mk H.out (by decide) rfl (HB1 _)
      · rw [hk] at hrun
        have H : Hid (kindErr L k = 0) := by apply Lib.hid; rw [HF3.out, hk]; rfl
        clear HF3
        go_wp2
        go_ret
        exact ep_ok H.out rfl (HB1 _)
end Go.Proofs.YthcjjjpcjjondaaGreatDoor

/- frame.stepper: need, known, pop, put, take. -/
namespace Go.Proofs.YthcjjjpcjjondaaGreatDoor
open Go.RowKit
set_option linter.unusedVariables false
set_option linter.unusedSimpArgs false
set_option linter.unnecessarySimpa false

theorem fneed_true (w : World) : Calls Tryz.prog 237 #[.bool true] w fun e w' => e = .returned (.tuple #[]) ∧ w = w' := by
  go_enter Tryz.func237, Tryz.ntmps237
  go_wp2
  go_end0
  exact ⟨rfl, rfl⟩
set_option maxHeartbeats 1000000 in
theorem does_eq (v : Value) (k : Str) (w : World) : Calls Tryz.prog 57 #[v, .string k, .string k] w fun e w' => e = .returned (.bool true) ∧ w = w' := by
  have h1 : (k.toList == k.toList) = true := by simp
  cases h2 : (k.toList == [84])
  all_goals
    go_enter Tryz.func57, Tryz.ntmps57
    go_wp2
    go_ret
    exact ⟨rfl, rfl⟩
/-- A stepper's block. -/
def StepAt (w : World) (b : Nat) (wv : Value) (from_ gives : Str) (lv sv : Value) : Prop := w.heap[b]? = some (.cells #[wv, .string from_, .string gives, lv, sv] 261 (0, 0))
set_option maxHeartbeats 1000000 in
theorem known_ok (b : Nat) (wv lv sv : Value) (fr gv k : Str) (L : PW) (w : World) (h : WMap w wv L) (hs : StepAt w b wv fr gv lv sv) (hk : kindErr L k = 0) (hz : k.size ≤ 4611686018427387904) :
    Calls Tryz.prog 242 #[.pointer (some ⟨b, 0, none⟩), .string k] w fun e w' => e = .returned (.tuple #[]) ∧ Below w.heap.size w w' := by
  have HK := Lib.hid (kind_any wv L k w h hz)
  have HE := Lib.hid hk
  have hc : w.cell? ⟨b, 0, none⟩ = some wv := by
    unfold StepAt at hs
    exact (World.cell?_of_block (w := w) rfl).trans (by simp [World.cell?, hs])
  obtain ⟨r, rfl⟩ := h.form
  clear h hk hs
  go_enter Tryz.func242, Tryz.ntmps242
  go_wp2_with fail
  refine (HK.out).mono ?_
  rintro e w1 ⟨rfl, hb1⟩
  rw [HE.out, errV_0]
  go_wp2_with fail
  refine (fneed_true w1).mono ?_
  rintro e w2 ⟨rfl, rfl⟩
  go_wp2
  go_end0
  exact ⟨rfl, hb1⟩
theorem step_cell {w : World} {b : Nat} {wv lv sv : Value} {fr gv : Str} (hs : StepAt w b wv fr gv lv sv) : w.cell? ⟨b, 0, none⟩ = some wv ∧ w.cell? ⟨b, 3, none⟩ = some lv ∧ w.cell? ⟨b, 4, none⟩ = some sv ∧ w.frozen? ⟨b, 4, none⟩ = false ∧ w.frozen? ⟨b, 3, none⟩ = false := by
  unfold StepAt at hs
  refine ⟨?_, ?_, ?_, ?_, ?_⟩ <;> simp [World.cell?, World.frozen?, hs]
theorem heap_set_other (w : World) (a : Addr) (k : Nat) (u : Value) (h : k ≠ a.block) : (w.setCell a u).heap[k]? = w.heap[k]? := by
  simp [World.setCell, Array.getElem?_modify, Ne.symm h]
theorem grown_set (w : World) (a : Addr) (u : Value) : w.grownBy (w.setCell a u) (some a.block) :=
  ⟨rfl, rfl, rfl, by simp, fun k _ hk => heap_set_other w a k u (fun e => hk (by rw [e]))⟩
theorem step_set {w : World} {b : Nat} {wv lv sv : Value} {fr gv : Str} (hs : StepAt w b wv fr gv lv sv) (v : Value) : StepAt (w.setCell ⟨b, 4, none⟩ v) b wv fr gv lv v := by
  unfold StepAt at hs ⊢
  simp [World.setCell, Array.getElem?_modify, hs]
set_option maxHeartbeats 1000000 in
theorem pop_ok (b : Nat) (wv lv : Value) (A : Option Addr) (n cap : Nat) (fr gv k : Str) (w : World) (hs : StepAt w b wv fr gv lv (.slice A (n + 1) cap)) (hn : n < cap) (hcap : cap ≤ 9223372036854775807) (hk : ∃ g off, A = some ⟨g, off, none⟩ ∧ w.cell? ⟨g, off + n, none⟩ = some (.string k)) :
    Calls Tryz.prog 238 #[.pointer (some ⟨b, 0, none⟩)] w fun e w' => e = .returned (.string k) ∧ w' = w.setCell ⟨b, 4, none⟩ (.slice A n cap) := by
  obtain ⟨h0, h3, h4, f4, f3⟩ := step_cell hs
  obtain ⟨g, off, rfl, hc⟩ := hk
  clear hs
  go_enter Tryz.func238, Tryz.ntmps238
  go_wp2_with fail
  refine (fneed_true w).mono ?_
  rintro e w2 ⟨rfl, rfl⟩
  go_wp2
  go_ret
  exact ⟨rfl, rfl⟩
end Go.Proofs.YthcjjjpcjjondaaGreatDoor

/- frame.stepper: the whole state. -/
namespace Go.Proofs.YthcjjjpcjjondaaGreatDoor
open Go.RowKit
set_option linter.unusedVariables false
set_option linter.unusedSimpArgs false
set_option linter.unnecessarySimpa false

/-- What lies in cells, but for texts and steppers, lies as it did. -/
def TagK (wk w : World) : Prop := ∀ (q : Nat) (c : Array Value) (t : TypeId) (fz : Nat × Nat), wk.heap[q]? = some (.cells c t fz) → t ≠ 9 → t ≠ 261 → w.heap[q]? = some (.cells c t fz)
theorem TagK.refl (w : World) : TagK w w := fun _ _ _ _ h _ _ => h
theorem TagK.below {wk w w1 : World} (h : TagK wk w) (hb : Below w.heap.size w w1) : TagK wk w1 := by
  intro q c t fz hq h1 h2
  have h3 := h q c t fz hq h1 h2
  exact (hb.block q (Array.getElem?_eq_some_iff.1 h3).1).trans h3
theorem TagK.grown {wk w w1 : World} {b : Nat} {c0 : Array Value} {t0 : TypeId} {fz0 : Nat × Nat} (h : TagK wk w) (hg : w.grownBy w1 (some b)) (hb : w.heap[b]? = some (.cells c0 t0 fz0)) (ht : t0 = 9 ∨ t0 = 261) : TagK wk w1 := by
  intro q c t fz hq h1 h2
  have h3 := h q c t fz hq h1 h2
  have hne : q ≠ b := by
    rintro rfl
    rw [hb] at h3
    injection h3 with h3
    injection h3 with _ e _
    subst e
    rcases ht with e | e
    · exact h1 e
    · exact h2 e
  exact (hg.block q (Array.getElem?_eq_some_iff.1 h3).1 (fun e => hne (by injection e))).trans h3
theorem TagK.grown_none {wk w w1 : World} (h : TagK wk w) (hg : w.grownBy w1 none) : TagK wk w1 := by
  intro q c t fz hq h1 h2
  have h3 := h q c t fz hq h1 h2
  exact (hg.block q (Array.getElem?_eq_some_iff.1 h3).1 (fun e => by cases e)).trans h3
theorem TagK.own {wk w w1 : World} {base : Nat} {size n : Nat} {v : Value} {xs : List Value} (h : TagK wk w) (ho : w.ownsRow base 9 size v n xs) (hg : w.grownBy w1 v.ownBlock) : TagK wk w1 := by
  rcases ho.2 with ⟨rfl, _⟩ | ⟨g, cap, cur, rfl, _, hh, _⟩
  · exact h.grown_none hg
  · exact h.grown hg hh (.inl rfl)
theorem TagK.cell {wk w : World} {q j : Nat} {c : Array Value} {t : TypeId} {fz : Nat × Nat} (h : TagK wk w) (hq : wk.heap[q]? = some (.cells c t fz)) (h1 : t ≠ 9) (h2 : t ≠ 261) : w.cell? ⟨q, j, none⟩ = c[j]? := by
  have h3 := h q c t fz hq h1 h2
  simp [World.cell?, h3]
def StepS (w0 wk w : World) (b : Nat) (wv : Value) (fr gv : Str) (ls ss : List Str) : Prop :=
  TagK wk w ∧ Below w0.heap.size w0 w ∧ w0.heap.size ≤ b ∧ ∃ lv sv, StepAt w b wv fr gv lv sv ∧ w.ownsRow w0.heap.size 9 1 lv ls.length (strCells ls) ∧ w.ownsRow w0.heap.size 9 1 sv ss.length (strCells ss) ∧
    lv.ownBlock ≠ some b ∧ sv.ownBlock ≠ some b ∧ (lv.ownBlock = none ∨ lv.ownBlock ≠ sv.ownBlock)
theorem step_lt {w : World} {b : Nat} {wv lv sv : Value} {fr gv : Str} (hs : StepAt w b wv fr gv lv sv) : b < w.heap.size := (Array.getElem?_eq_some_iff.1 hs).1
theorem StepS.below {w0 wk w w1 : World} {b : Nat} {wv : Value} {fr gv : Str} {ls ss : List Str} (h : StepS w0 wk w b wv fr gv ls ss) (hb : Below w.heap.size w w1) : StepS w0 wk w1 b wv fr gv ls ss := by
  obtain ⟨h0, h1, h2, lv, sv, h3, h4, h5, h6⟩ := h
  exact ⟨h0.below hb, bel_then h1 hb, h2, lv, sv, (hb.block b (step_lt h3)).trans h3, own_below h4 hb, own_below h5 hb, h6⟩
def StepPost (w0 wk : World) (b : Nat) (wv : Value) (fr gv : Str) (ls ss : List Str) (v : Value) (e : Ending) (w' : World) : Prop := e = .returned v ∧ StepS w0 wk w' b wv fr gv ls ss

theorem sknown (w0 wk : World) (b : Nat) (wv : Value) (fr gv k : Str) (ls ss : List Str) (L : PW) (w : World) (hW : WMap w0 wv L) (h : StepS w0 wk w b wv fr gv ls ss) (hk : kindErr L k = 0) (hz : k.size ≤ 4611686018427387904) :
    Calls Tryz.prog 242 #[.pointer (some ⟨b, 0, none⟩), .string k] w (StepPost w0 wk b wv fr gv ls ss (.tuple #[])) := by
  have h' := h
  obtain ⟨h0, h1, h2, lv, sv, h3, h4, h5, h6⟩ := h
  refine (known_ok b wv lv sv fr gv k L w (hW.below h1) h3 hk hz).mono ?_
  rintro e w1 ⟨rfl, hb⟩
  exact ⟨rfl, h'.below hb⟩
theorem own_pop {w : World} {base g cap n : Nat} {xs : List Str} {k : Str} (h : w.ownsRow base 9 1 (.slice (some ⟨g, 0, none⟩) (xs ++ [k]).length cap) (xs ++ [k]).length (strCells (xs ++ [k]))) :
    w.ownsRow base 9 1 (.slice (some ⟨g, 0, none⟩) xs.length cap) xs.length (strCells xs) := by
  have e : strCells (xs ++ [k]) = strCells xs ++ [.string k] := by simp [strCells]
  rw [e, List.length_append] at h
  exact ownsRow_pop (by simp [strCells]) h
theorem spop (w0 wk : World) (b : Nat) (wv : Value) (fr gv k : Str) (ls ss : List Str) (w : World) (h : StepS w0 wk w b wv fr gv ls (ss ++ [k])) :
    Calls Tryz.prog 238 #[.pointer (some ⟨b, 0, none⟩)] w (StepPost w0 wk b wv fr gv ls ss (.string k)) := by
  obtain ⟨h0, h1, h2, lv, sv, h3, h4, h5, h6, h7, h8⟩ := h
  obtain ⟨g, cap, rfl⟩ := own_form h5 (by simp)
  have hsl := own_strs h5
  obtain ⟨A', cap', he, hc1, hc2⟩ := hsl.form
  injection he with _ _ e3
  subst e3
  have hlen : (ss ++ [k]).length = ss.length + 1 := by simp
  rw [hlen] at hc1
  obtain ⟨b2, off, hA, hc⟩ := hsl.at (j := ss.length) (by simp)
  have hk : (ss ++ [k])[ss.length]'(by simp) = k := by simp
  rw [hk] at hc
  rw [hlen] at h3
  have hP := pop_ok b wv lv (some ⟨g, 0, none⟩) ss.length cap fr gv k w h3 (by omega) hc2 ⟨b2, off, hA, hc⟩
  refine hP.mono ?_
  rintro e w1 ⟨rfl, rfl⟩
  have h7' : (Value.slice (some ⟨g, 0, none⟩) ss.length cap).ownBlock ≠ some b := h7
  exact ⟨rfl, h0.grown (grown_set w ⟨b, 4, none⟩ _) (h3 : w.heap[b]? = _) (.inr rfl), h1.setCell h2 _, h2, lv, _, step_set h3 _, ownsRow_setCell_other h4 (a := ⟨b, 4, none⟩) h6 _, ownsRow_setCell_other (own_pop (n := 0) h5) (a := ⟨b, 4, none⟩) h7' _, h6, h7', h8⟩
set_option maxRecDepth 100000 in
set_option maxHeartbeats 1000000 in
theorem sput (w0 wk : World) (b : Nat) (wv : Value) (fr gv k : Str) (ls ss : List Str) (w : World) (h : StepS w0 wk w b wv fr gv ls ss) (hlen : ss.length < 8) :
    Calls Tryz.prog 236 #[.pointer (some ⟨b, 0, none⟩), .string k] w (StepPost w0 wk b wv fr gv ls (ss ++ [k]) (.tuple #[])) := by
  obtain ⟨hT, hB, hbb, lv, sv, hs, hl, hown, hn1, hn2, hn3⟩ := h
  obtain ⟨h0, h3, h4, f4, f3⟩ := step_cell hs
  obtain ⟨sA, scap, rfl, hs1, hs2⟩ := (own_strs hown).form
  unfold maxLen at hs2
  have hblt := step_lt hs
  have HO := Lib.hid hown
  have HT := Lib.hid hT
  have HS := Lib.hid hs
  have HL := Lib.hid hl
  have HN1 := Lib.hid hn1
  have HN2 := Lib.hid hn2
  have HN3 := Lib.hid hn3
  have HBB := Lib.hid hbb
  clear hl hn1 hn2 hn3 hs hown hbb hT
  go_enter Tryz.func236, Tryz.ntmps236
  go_wp2_with fail
  rw [show decide ((ss.length : Int) < 8) = true from decide_eq_true (by omega)]
  refine (fneed_true w).mono ?_
  rintro e w2 ⟨rfl, rfl⟩
  go_wp2_with (at_builtin; go_loud (refine append_str w0.heap.size rfl _ _ rfl (.slice sA ss.length scap) ss _ rfl rfl HO.out hB hB.size (by omega) ?_))
  intro v1 w4 hown4 hb4 hg4 hat4
  have hs4 : StepAt w4 b wv fr gv lv (.slice sA ss.length scap) := (hg4.block b hblt (fun e => HN2.out e.symm)).trans HS.out
  have hl4 : w4.ownsRow w0.heap.size 9 1 lv ls.length (strCells ls) := own_kept HL.out hg4 HN3.out
  obtain ⟨k0, k3, k4, g4, g3⟩ := step_cell hs4
  have HT4 : Hid (TagK wk w4) := Lib.hid (HT.out.own HO.out hg4)
  have HS4 := Lib.hid hs4
  have HL4 := Lib.hid hl4
  have HX : Hid (lv.ownBlock = none ∨ lv.ownBlock ≠ v1.ownBlock) := by
    apply Lib.hid
    rcases hat4 with h | ⟨b', h, h'⟩
    · rw [h]; exact HN3.out
    · by_cases hz : lv.ownBlock = none
      · exact .inl hz
      · right
        intro e
        rw [h] at e
        have := own_lt HL.out b' e
        omega
  have HY : Hid (v1.ownBlock ≠ some b) := by
    apply Lib.hid
    rcases hat4 with h | ⟨b', h, h'⟩
    · rw [h]; exact HN2.out
    · rw [h]; intro e; injection e with e; omega
  obtain ⟨q4, cap4, hv4⟩ := own_form hown4 (by simp)
  have hlx : ss.length + 1 = (ss ++ [k]).length := by simp
  rw [hlx] at hv4 hown4
  have HLX := Lib.hid hlx
  subst hv4
  have HO4 := Lib.hid hown4
  clear hs4 hl4 hown4 h0 h3 h4 f4 f3 hlx
  go_wp2
  go_end0
  rw [HLX.out]
  exact ⟨rfl, HT4.out.grown (grown_set w4 ⟨b, 4, none⟩ _) (HS4.out : w4.heap[b]? = _) (.inr rfl), hb4.setCell HBB.out _, HBB.out, lv, _, step_set HS4.out _, ownsRow_setCell_other HL4.out (a := ⟨b, 4, none⟩) HN1.out _, ownsRow_setCell_other HO4.out (a := ⟨b, 4, none⟩) HY.out _, HN1.out, HY.out, HX.out⟩
end Go.Proofs.YthcjjjpcjjondaaGreatDoor

/- frame.stepper: take. -/
namespace Go.Proofs.YthcjjjpcjjondaaGreatDoor
open Go.RowKit
set_option linter.unusedVariables false
set_option linter.unusedSimpArgs false
set_option linter.unnecessarySimpa false

theorem StepS.drew {w0 wk w : World} {b : Nat} {wv : Value} {fr gv : Str} {ls ss : List Str} (h : StepS w0 wk w b wv fr gv ls ss) : StepS w0 wk w.drew b wv fr gv ls ss := by
  obtain ⟨h0, h1, h2, lv, sv, h3, h4, h5, h6⟩ := h
  exact ⟨h0, h1.drew, h2, lv, sv, h3, h4, h5, h6⟩
theorem StepS.cell0 {w0 wk w : World} {b : Nat} {wv : Value} {fr gv : Str} {ls ss : List Str} (h : StepS w0 wk w b wv fr gv ls ss) : w.cell? ⟨b, 0, none⟩ = some wv := by
  obtain ⟨h0, h1, h2, lv, sv, h3, h4, h5, h6⟩ := h
  exact (step_cell h3).1
set_option maxRecDepth 100000 in
set_option maxHeartbeats 1000000 in
/-- One kind taken that lies on top. -/
theorem stake (w0 wk : World) (b g cap : Nat) (wv : Value) (fr gv k : Str) (ls ss : List Str) (L : PW) (w : World) (hW : WMap w0 wv L) (h : StepS w0 wk w b wv fr gv ls (ss ++ [k])) (hk : kindErr L k = 0) (hz : k.size ≤ 4611686018427387904) (hc : w.cell? ⟨g, 0, none⟩ = some (.string k)) :
    Calls Tryz.prog 239 #[.pointer (some ⟨b, 0, none⟩), .slice (some ⟨g, 0, none⟩) 1 1] w (StepPost w0 wk b wv fr gv ls ss (.tuple #[])) := by
  have HK := Lib.hid (fun w1 (h : StepS w0 wk w1 b wv fr gv ls (ss ++ [k])) => sknown w0 wk b wv fr gv k ls (ss ++ [k]) L w1 hW h hk hz)
  have HS := Lib.hid h
  clear h
  go_enter Tryz.func239, Tryz.ntmps239
  go_wp2_with fail
  go_loopw [8] (fun i wr => (i = .int .i64 0 ∧ StepS w0 wk wr b wv fr gv ls (ss ++ [k]) ∧ wr.cell? ⟨g, 0, none⟩ = some (.string k)) ∨ (i = .int .i64 1 ∧ StepS w0 wk wr b wv fr gv ls ss)) (fun i _ => 1 - (intOf i).toNat)
  case atStart => exact .inl ⟨rfl, HS.out, hc⟩
  case round =>
    clear HS hc
    rcases hrel with ⟨rfl, hS, hc⟩ | ⟨rfl, hS⟩
    · go_wp2_with fail
      refine (HK.out wr hS).mono ?_
      rintro e w1 ⟨rfl, hS1⟩
      have hS1d := hS1.drew
      have hc0 := hS1.cell0
      have HSD := Lib.hid hS1d
      clear hS hS1 hS1d
      go_upto_region 4 with (fail)
      go_region_with (first
        | (go_at_call 238; refine (spop w0 wk b wv fr gv k ls ss _ HSD.out).mono ?_; rintro e w2 ⟨rfl, hS2⟩; have hc2 := hS2.cell0)
        | (go_at_call 57; refine (does_eq _ k _).mono ?_; rintro e w3 ⟨rfl, rfl⟩)
        | (go_at_call 237; refine (fneed_true _).mono ?_; rintro e w4 ⟨rfl, rfl⟩))
      all_goals
        go_wp2
        go_roundw
        case rel => exact .inr ⟨rfl, hS2⟩
        case measure => simp [intOf]
    · go_wp2
      go_end0
      exact ⟨rfl, hS⟩
end Go.Proofs.YthcjjjpcjjondaaGreatDoor
