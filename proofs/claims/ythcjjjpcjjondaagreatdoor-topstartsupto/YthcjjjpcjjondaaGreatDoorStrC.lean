/- Slices of texts: what the library's functions tell of them. -/
import Derived.Test.YthcjjjpcjjondaaGreatDoorClassCD
namespace Go.Proofs.YthcjjjpcjjondaaGreatDoor
open Go.RowKit
set_option linter.unusedVariables false
set_option linter.unusedSimpArgs false
set_option linter.unnecessarySimpa false

theorem StrSl.take {w : World} {A : Option Addr} {n cap : Nat} {xs : List Str} (h : StrSl w (.slice A n cap) xs) {k : Nat} (hk : k ≤ xs.length) : StrSl w (.slice A k cap) (xs.take k) := by
  obtain ⟨A', cap', he, h2, h3, h4⟩ := h
  injection he with e1 e2 e3
  subst e1 e2 e3
  refine ⟨A, cap, by rw [List.length_take, Nat.min_eq_left hk], by rw [List.length_take]; omega, h3, fun j x hj => ?_⟩
  rw [List.getElem?_take] at hj
  split at hj
  · exact h4 j x hj
  · cases hj
theorem RowR.take {α : Type} {R : World → α → List Value → Prop} {sz : Nat} {w : World} {A : Option Addr} {n cap : Nat} {xs : List α} (h : RowR R sz w (.slice A n cap) xs) {k : Nat} (hk : k ≤ xs.length) : RowR R sz w (.slice A k cap) (xs.take k) := by
  obtain ⟨A', cap', he, h2, h3, h4⟩ := h
  injection he with e1 e2 e3
  subst e1 e2 e3
  refine ⟨A, cap, by rw [List.length_take, Nat.min_eq_left hk], by rw [List.length_take]; omega, h3, fun j x hj => ?_⟩
  rw [List.getElem?_take] at hj
  split at hj
  · exact h4 j x hj
  · cases hj
theorem containsStr (v : Value) (xs : List Str) (x : Str) (w : World) (h : StrSl w v xs) : Calls Tryz.prog 23 #[v, .string x] w fun e w' => e = .returned (.bool (hasStr xs x)) ∧ w = w' := by
  by_cases hp : xs = []
  · subst hp
    obtain ⟨A, cap, rfl, _⟩ := h.empty
    exact (Tryz.slices_Contains_string_empty A cap x w).mono fun e w' ⟨h1, h2⟩ => ⟨h1, h2.symm⟩
  · obtain ⟨b, off, cap, rfl, h1, h2, hc⟩ := h.cells hp
    have hm : xs.length ≤ 9223372036854775807 := Nat.le_trans h1 h2
    refine (Tryz.slices_Contains_string b off xs.length cap xs x w (Nat.le_refl _) hm hc).mono fun e w' ⟨h1, h2⟩ => ⟨?_, h2.symm⟩
    rw [h1, List.take_length]
    congr 2
    rw [Bool.eq_iff_iff, Lib.containsS_iff, hasStr_iff]
/-! The same for fields. -/
def sameFld (m x : Fld) : Bool := decide (x.nm = m.nm)
def fldV (f : Fld) : Value := .agg (fldA f)
set_option maxHeartbeats 1000000 in
theorem sameFld_any (m x : Fld) (b : Nat) (w : World) (h0 : w.cell? ⟨b, 0, none⟩ = some (.string m.nm)) :
    Calls Tryz.prog 83 #[fldV x, .pointer (some ⟨b, 0, none⟩)] w (BoolPost (sameFld m x) w) := by
  have H : Hid (sameFld m x = (x.nm.toList == m.nm.toList)) := by
    apply Lib.hid; unfold sameFld; rw [toList_beq]
  obtain ⟨nm, ty⟩ := x
  unfold fldV fldA
  simp only [] at H ⊢
  generalize sameFld m ⟨nm, ty⟩ = r at *
  have hlt := World.block_lt_of_cell? w _ h0
  simp only [] at hlt
  have hb := Below.refl w.heap.size w
  have e0 : ∀ o, (w.alloc o).cell? ⟨b, 0, none⟩ = some (.string m.nm) := fun o => cell_below (hb.alloc (Nat.le_refl _) o) h0
  generalize m.nm = mn at *
  go_enter Tryz.func83, Tryz.ntmps83
  go_wp2
  all_goals
    go_ret
    exact bp_alloc _ (by rw [H.out]; simp [*])

set_option maxHeartbeats 2000000 in
theorem indexFld_any (m : Fld) (v : Value) (l : List Fld) (b : Nat) (w : World) (hl : FldSl w v l) (h0 : w.cell? ⟨b, 0, none⟩ = some (.string m.nm)) :
    Calls Tryz.prog 148 #[v, .func (.func 83) #[] #[.pointer (some ⟨b, 0, none⟩)]] w (IntPost (findAt (sameFld m) l 0) w) := by
  cases hlc : l with
  | nil =>
    subst hlc
    obtain ⟨A, cap, rfl, h3⟩ := hl.empty
    have H : Hid (findAt (sameFld m) [] 0 = -1) := Lib.hid rfl
    clear hl h0
    go_enter Tryz.func148, Tryz.ntmps148
    go_wp2
    go_loop [8] (fun i => i = .int .i64 0) (fun _ => 0)
    case atStart => rfl
    case round =>
      subst hrel
      go_wp2
      go_ret
      exact ⟨by rw [H.out]; rfl, Below.refl _ _⟩
  | cons x0 l0 =>
  have hne : l ≠ [] := by rw [hlc]; simp
  rw [← hlc]
  clear hlc x0 l0
  obtain ⟨bs, off, cap, rfl, h2, h3, hcell⟩ := FldSl.some hl hne
  unfold maxLen at h3
  have HC := Lib.hid hcell
  have HS := Lib.hid (fun x w1 hc0 => sameFld_any m x b w1 hc0)
  have HFD := Lib.hid (fun k (hk : k < l.length) => findAt_drop (sameFld m) hk)
  have H0 := Lib.hid h0
  generalize sameFld m = p at *
  clear hl hcell hne h0
  go_enter Tryz.func148, Tryz.ntmps148
  go_wp2
  go_loopw [8] (fun i wr => ∃ k : Nat, i = .int .i64 k ∧ k ≤ l.length ∧ Below w.heap.size w wr ∧ Hid (findAt p l 0 = findAt p (l.drop k) k)) (fun i _ => l.length - (intOf i).toNat)
  case atStart => exact ⟨0, rfl, Nat.zero_le _, Below.refl _ _, rfl⟩
  case round =>
    obtain ⟨k, rfl, hk, hb, HE⟩ := hrel
    by_cases hkn : k < l.length
    · obtain ⟨h8, _⟩ := HC.out k hkn
      obtain ⟨d0, d1⟩ := h8.below hb
      have HST := Lib.hid (HFD.out k hkn)
      clear h8
      generalize l[k] = x at *
      go_wp2_with fail
      refine (HS.out x _ (cell_below hb H0.out)).mono ?_
      rintro e w3 ⟨rfl, hb3⟩
      have HB3 : Below w.heap.size w w3 := bel_then hb hb3
      cases hn : p x
      · have HE' : Hid (findAt p l 0 = findAt p (l.drop (k + 1)) (k + 1)) := by
          apply Lib.hid; rw [HE.out, HST.out, hn]; rfl
        clear HE HST hn
        go_wp2
        go_roundw
        case rel => exact ⟨k + 1, by go_num, by omega, HB3, HE'⟩
        case measure => simp [intOf]; omega
      · have HE' : Hid (findAt p l 0 = (k : Int)) := by
          apply Lib.hid; rw [HE.out, HST.out, hn]; rfl
        clear HE HST hn
        go_wp2
        go_ret
        exact ⟨by rw [HE'.out]; rfl, HB3⟩
    · have hke : k = l.length := by omega
      have H : Hid (findAt p l 0 = -1) := by
        apply Lib.hid; rw [HE.out, hke, List.drop_length]; rfl
      clear HE hke
      go_wp2
      go_ret
      exact ⟨by rw [H.out]; rfl, hb⟩
theorem containsFld_any (m : Fld) (v : Value) (l : List Fld) (b : Nat) (w : World) (hl : FldSl w v l) (h0 : w.cell? ⟨b, 0, none⟩ = some (.string m.nm)) :
    Calls Tryz.prog 82 #[v, .func (.func 83) #[] #[.pointer (some ⟨b, 0, none⟩)]] w (BoolPost (l.any (sameFld m)) w) := by
  have H := Lib.hid (findAt_any (sameFld m) l 0)
  have HC := Lib.hid (indexFld_any m v l b w hl h0)
  clear hl h0
  generalize findAt (sameFld m) l 0 = i at *
  go_enter Tryz.func82, Tryz.ntmps82
  go_wp2_with fail
  refine HC.out.mono ?_
  rintro e w1 ⟨rfl, hb1⟩
  go_wp2
  go_ret
  exact ⟨by rw [← H.out]; rfl, hb1⟩
end Go.Proofs.YthcjjjpcjjondaaGreatDoor
