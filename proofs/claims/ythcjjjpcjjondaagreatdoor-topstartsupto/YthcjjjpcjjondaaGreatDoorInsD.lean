/- Instructions: ins.Check, whole. -/
import Derived.Test.YthcjjjpcjjondaaGreatDoorInsC
namespace Go.Proofs.YthcjjjpcjjondaaGreatDoor
open Go.RowKit
set_option linter.unusedVariables false
set_option linter.unusedSimpArgs false
set_option linter.unnecessarySimpa false

theorem toList_nil {s : Str} (h : s.toList = []) : s = ⟨#[]⟩ := bytes_nil (by rw [Lib.toList_data] at h; exact h)
theorem shapeB_iff (n : Str) (x : Ins) : shapeB n x = true ↔ (hasC n 65 = true ∨ x.a = 0) ∧ (hasC n 66 = true ∨ x.b = 0) ∧ (hasC n 84 = true ∨ x.ty.toList = []) ∧ (hasC n 67 = true ∨ x.cls.toList = []) ∧ (hasC n 78 = true ∨ x.nm.toList = []) := by
  unfold shapeB
  simp only [Bool.and_eq_true, Bool.or_eq_true, beq_iff_eq, Lib.toList_data, bytes, and_assoc]
theorem insErr_tail {i : Nat} {a b : Int} {ty cls nm : Str} (h1 : 1 ≤ i) (h28 : i ≤ 28) (hs : shapeB (formN i) ⟨i, a, b, ty, cls, nm⟩ = true) :
    insErr ⟨i, a, b, ty, cls, nm⟩ = insTail (formN i) (rangedB ⟨i, a, b, ty, cls, nm⟩) (typedB ⟨i, a, b, ty, cls, nm⟩) cls nm := by
  unfold insErr insTail
  rw [if_neg (by simp only []; omega)]
  simp only [Int.toNat_natCast]
  rw [if_neg (by rw [hs]; simp)]

theorem insCheck_any (x : Ins) (w : World) (hG : FormsLaid w) (hs : InsSmall x) : Calls Tryz.prog 60 #[insV x] w (ErrPost (insErr x) w) := by
  obtain ⟨op, a, b, ty, cls, nm⟩ := x
  obtain ⟨hty, hcls, hnm⟩ := hs
  simp only [] at hty hcls hnm
  by_cases hop : op < 1 ∨ 28 < op
  · have H : Hid (insErr ⟨op, a, b, ty, cls, nm⟩ = 1) := by apply Lib.hid; unfold insErr; rw [if_pos hop]
    unfold insV insA
    go_enter Tryz.func60, Tryz.ntmps60
    go_wp2_with fail
    refine (of_bad _ _ hop).mono ?_
    rintro e w1 ⟨rfl, hb1⟩
    go_wp2
    go_ret
    refine ep_mk H.out (by decide) rfl ?_
    exact bel_then ((Below.refl w.heap.size w).alloc (Nat.le_refl _) _) (hb1.alloc hb1.size _)
  obtain ⟨i, rfl⟩ := Int.eq_ofNat_of_zero_le (show 0 ≤ op by omega)
  have h1 : 1 ≤ i := by omega
  have h28 : i ≤ 28 := by omega
  have OF : OfC i (formW i) (formN i) := fun w1 hg => of_good i w1 h1 h28 hg
  have RG := ranged_any ⟨i, a, b, ty, cls, nm⟩
  have TY := fun w => typed_any ⟨i, a, b, ty, cls, nm⟩ w hty
  have hN := formN_cases i
  have hsi := shapeB_iff (formN i) ⟨i, a, b, ty, cls, nm⟩
  cases hsh : shapeB (formN i) ⟨i, a, b, ty, cls, nm⟩
  · have HE : insErr ⟨i, a, b, ty, cls, nm⟩ = 1 := by
      unfold insErr
      rw [if_neg hop, if_pos (by simpa using hsh)]
    rw [HE]
    have hno : ¬ _ := fun h => by rw [hsi.2 h] at hsh; cases hsh
    unfold insV insA
    simp only [] at hno
    rcases hN with e | e | e | e | e | e | e | e <;> rw [e] at OF hno
    · exact insCheck_bad0 i a b ty cls nm _ w hG (Lib.hid OF) (by have n0 : hasC (⟨#[]⟩ : Str) 65 = false := rfl; have n1 : hasC (⟨#[]⟩ : Str) 66 = false := rfl; have n2 : hasC (⟨#[]⟩ : Str) 84 = false := rfl; have n3 : hasC (⟨#[]⟩ : Str) 67 = false := rfl; have n4 : hasC (⟨#[]⟩ : Str) 78 = false := rfl; simp only [n0, n1, n2, n3, n4] at hno; simp only [true_or, false_or, true_and, and_true, Bool.false_eq_true, Classical.not_and_iff_not_or_not] at hno; exact hno)
    · exact insCheck_bad1 i a b ty cls nm _ w hG (Lib.hid OF) (by have n0 : hasC (⟨#[65]⟩ : Str) 65 = true := rfl; have n1 : hasC (⟨#[65]⟩ : Str) 66 = false := rfl; have n2 : hasC (⟨#[65]⟩ : Str) 84 = false := rfl; have n3 : hasC (⟨#[65]⟩ : Str) 67 = false := rfl; have n4 : hasC (⟨#[65]⟩ : Str) 78 = false := rfl; simp only [n0, n1, n2, n3, n4] at hno; simp only [true_or, false_or, true_and, and_true, Bool.false_eq_true, Classical.not_and_iff_not_or_not] at hno; exact hno)
    · exact insCheck_bad2 i a b ty cls nm _ w hG (Lib.hid OF) (by have n0 : hasC (⟨#[65, 66]⟩ : Str) 65 = true := rfl; have n1 : hasC (⟨#[65, 66]⟩ : Str) 66 = true := rfl; have n2 : hasC (⟨#[65, 66]⟩ : Str) 84 = false := rfl; have n3 : hasC (⟨#[65, 66]⟩ : Str) 67 = false := rfl; have n4 : hasC (⟨#[65, 66]⟩ : Str) 78 = false := rfl; simp only [n0, n1, n2, n3, n4] at hno; simp only [true_or, false_or, true_and, and_true, Bool.false_eq_true, Classical.not_and_iff_not_or_not] at hno; exact hno)
    · exact insCheck_bad3 i a b ty cls nm _ w hG (Lib.hid OF) (by have n0 : hasC (⟨#[65, 84]⟩ : Str) 65 = true := rfl; have n1 : hasC (⟨#[65, 84]⟩ : Str) 66 = false := rfl; have n2 : hasC (⟨#[65, 84]⟩ : Str) 84 = true := rfl; have n3 : hasC (⟨#[65, 84]⟩ : Str) 67 = false := rfl; have n4 : hasC (⟨#[65, 84]⟩ : Str) 78 = false := rfl; simp only [n0, n1, n2, n3, n4] at hno; simp only [true_or, false_or, true_and, and_true, Bool.false_eq_true, Classical.not_and_iff_not_or_not] at hno; exact hno)
    · exact insCheck_bad4 i a b ty cls nm _ w hG (Lib.hid OF) (by have n0 : hasC (⟨#[84]⟩ : Str) 65 = false := rfl; have n1 : hasC (⟨#[84]⟩ : Str) 66 = false := rfl; have n2 : hasC (⟨#[84]⟩ : Str) 84 = true := rfl; have n3 : hasC (⟨#[84]⟩ : Str) 67 = false := rfl; have n4 : hasC (⟨#[84]⟩ : Str) 78 = false := rfl; simp only [n0, n1, n2, n3, n4] at hno; simp only [true_or, false_or, true_and, and_true, Bool.false_eq_true, Classical.not_and_iff_not_or_not] at hno; exact hno)
    · exact insCheck_bad5 i a b ty cls nm _ w hG (Lib.hid OF) (by have n0 : hasC (⟨#[67]⟩ : Str) 65 = false := rfl; have n1 : hasC (⟨#[67]⟩ : Str) 66 = false := rfl; have n2 : hasC (⟨#[67]⟩ : Str) 84 = false := rfl; have n3 : hasC (⟨#[67]⟩ : Str) 67 = true := rfl; have n4 : hasC (⟨#[67]⟩ : Str) 78 = false := rfl; simp only [n0, n1, n2, n3, n4] at hno; simp only [true_or, false_or, true_and, and_true, Bool.false_eq_true, Classical.not_and_iff_not_or_not] at hno; exact hno)
    · exact insCheck_bad6 i a b ty cls nm _ w hG (Lib.hid OF) (by have n0 : hasC (⟨#[67, 78]⟩ : Str) 65 = false := rfl; have n1 : hasC (⟨#[67, 78]⟩ : Str) 66 = false := rfl; have n2 : hasC (⟨#[67, 78]⟩ : Str) 84 = false := rfl; have n3 : hasC (⟨#[67, 78]⟩ : Str) 67 = true := rfl; have n4 : hasC (⟨#[67, 78]⟩ : Str) 78 = true := rfl; simp only [n0, n1, n2, n3, n4] at hno; simp only [true_or, false_or, true_and, and_true, Bool.false_eq_true, Classical.not_and_iff_not_or_not] at hno; exact hno)
    · exact insCheck_bad7 i a b ty cls nm _ w hG (Lib.hid OF) (by have n0 : hasC (⟨#[84, 67, 78]⟩ : Str) 65 = false := rfl; have n1 : hasC (⟨#[84, 67, 78]⟩ : Str) 66 = false := rfl; have n2 : hasC (⟨#[84, 67, 78]⟩ : Str) 84 = true := rfl; have n3 : hasC (⟨#[84, 67, 78]⟩ : Str) 67 = true := rfl; have n4 : hasC (⟨#[84, 67, 78]⟩ : Str) 78 = true := rfl; simp only [n0, n1, n2, n3, n4] at hno; simp only [true_or, false_or, true_and, and_true, Bool.false_eq_true, Classical.not_and_iff_not_or_not] at hno; exact hno)
  · have HE := insErr_tail h1 h28 hsh
    rw [HE]
    have hyes := hsi.1 hsh
    simp only [] at hyes
    unfold insV insA at RG TY ⊢
    simp only [] at RG TY ⊢
    generalize rangedB ⟨i, a, b, ty, cls, nm⟩ = rb at *
    generalize typedB ⟨i, a, b, ty, cls, nm⟩ = tb at *
    clear HE hsi hsh
    rcases hN with e | e | e | e | e | e | e | e <;> rw [e] at OF hyes ⊢
    · have n0 : hasC (⟨#[]⟩ : Str) 65 = false := rfl
      have n1 : hasC (⟨#[]⟩ : Str) 66 = false := rfl
      have n2 : hasC (⟨#[]⟩ : Str) 84 = false := rfl
      have n3 : hasC (⟨#[]⟩ : Str) 67 = false := rfl
      have n4 : hasC (⟨#[]⟩ : Str) 78 = false := rfl
      simp only [n0, n1, n2, n3, n4] at hyes
      simp only [true_or, false_or, true_and, and_true, Bool.false_eq_true] at hyes
      obtain ⟨e_a, e_b, e_ty, e_cls, e_nm⟩ := hyes
      subst e_a
      subst e_b
      obtain rfl := toList_nil e_ty
      obtain rfl := toList_nil e_cls
      obtain rfl := toList_nil e_nm
      exact insCheck_good0 i  _ rb tb w hG  (Lib.hid OF) (Lib.hid RG) (Lib.hid TY)
    · have n0 : hasC (⟨#[65]⟩ : Str) 65 = true := rfl
      have n1 : hasC (⟨#[65]⟩ : Str) 66 = false := rfl
      have n2 : hasC (⟨#[65]⟩ : Str) 84 = false := rfl
      have n3 : hasC (⟨#[65]⟩ : Str) 67 = false := rfl
      have n4 : hasC (⟨#[65]⟩ : Str) 78 = false := rfl
      simp only [n0, n1, n2, n3, n4] at hyes
      simp only [true_or, false_or, true_and, and_true, Bool.false_eq_true] at hyes
      obtain ⟨e_b, e_ty, e_cls, e_nm⟩ := hyes
      subst e_b
      obtain rfl := toList_nil e_ty
      obtain rfl := toList_nil e_cls
      obtain rfl := toList_nil e_nm
      exact insCheck_good1 i a _ rb tb w hG  (Lib.hid OF) (Lib.hid RG) (Lib.hid TY)
    · have n0 : hasC (⟨#[65, 66]⟩ : Str) 65 = true := rfl
      have n1 : hasC (⟨#[65, 66]⟩ : Str) 66 = true := rfl
      have n2 : hasC (⟨#[65, 66]⟩ : Str) 84 = false := rfl
      have n3 : hasC (⟨#[65, 66]⟩ : Str) 67 = false := rfl
      have n4 : hasC (⟨#[65, 66]⟩ : Str) 78 = false := rfl
      simp only [n0, n1, n2, n3, n4] at hyes
      simp only [true_or, false_or, true_and, and_true, Bool.false_eq_true] at hyes
      obtain ⟨e_ty, e_cls, e_nm⟩ := hyes
      obtain rfl := toList_nil e_ty
      obtain rfl := toList_nil e_cls
      obtain rfl := toList_nil e_nm
      exact insCheck_good2 i a b _ rb tb w hG  (Lib.hid OF) (Lib.hid RG) (Lib.hid TY)
    · have n0 : hasC (⟨#[65, 84]⟩ : Str) 65 = true := rfl
      have n1 : hasC (⟨#[65, 84]⟩ : Str) 66 = false := rfl
      have n2 : hasC (⟨#[65, 84]⟩ : Str) 84 = true := rfl
      have n3 : hasC (⟨#[65, 84]⟩ : Str) 67 = false := rfl
      have n4 : hasC (⟨#[65, 84]⟩ : Str) 78 = false := rfl
      simp only [n0, n1, n2, n3, n4] at hyes
      simp only [true_or, false_or, true_and, and_true, Bool.false_eq_true] at hyes
      obtain ⟨e_b, e_cls, e_nm⟩ := hyes
      subst e_b
      obtain rfl := toList_nil e_cls
      obtain rfl := toList_nil e_nm
      exact insCheck_good3 i a ty _ rb tb w hG  (Lib.hid OF) (Lib.hid RG) (Lib.hid TY)
    · have n0 : hasC (⟨#[84]⟩ : Str) 65 = false := rfl
      have n1 : hasC (⟨#[84]⟩ : Str) 66 = false := rfl
      have n2 : hasC (⟨#[84]⟩ : Str) 84 = true := rfl
      have n3 : hasC (⟨#[84]⟩ : Str) 67 = false := rfl
      have n4 : hasC (⟨#[84]⟩ : Str) 78 = false := rfl
      simp only [n0, n1, n2, n3, n4] at hyes
      simp only [true_or, false_or, true_and, and_true, Bool.false_eq_true] at hyes
      obtain ⟨e_a, e_b, e_cls, e_nm⟩ := hyes
      subst e_a
      subst e_b
      obtain rfl := toList_nil e_cls
      obtain rfl := toList_nil e_nm
      exact insCheck_good4 i ty _ rb tb w hG  (Lib.hid OF) (Lib.hid RG) (Lib.hid TY)
    · have n0 : hasC (⟨#[67]⟩ : Str) 65 = false := rfl
      have n1 : hasC (⟨#[67]⟩ : Str) 66 = false := rfl
      have n2 : hasC (⟨#[67]⟩ : Str) 84 = false := rfl
      have n3 : hasC (⟨#[67]⟩ : Str) 67 = true := rfl
      have n4 : hasC (⟨#[67]⟩ : Str) 78 = false := rfl
      simp only [n0, n1, n2, n3, n4] at hyes
      simp only [true_or, false_or, true_and, and_true, Bool.false_eq_true] at hyes
      obtain ⟨e_a, e_b, e_ty, e_nm⟩ := hyes
      subst e_a
      subst e_b
      obtain rfl := toList_nil e_ty
      obtain rfl := toList_nil e_nm
      exact insCheck_good5 i cls _ rb tb w hG hcls (Lib.hid OF) (Lib.hid RG) (Lib.hid TY)
    · have n0 : hasC (⟨#[67, 78]⟩ : Str) 65 = false := rfl
      have n1 : hasC (⟨#[67, 78]⟩ : Str) 66 = false := rfl
      have n2 : hasC (⟨#[67, 78]⟩ : Str) 84 = false := rfl
      have n3 : hasC (⟨#[67, 78]⟩ : Str) 67 = true := rfl
      have n4 : hasC (⟨#[67, 78]⟩ : Str) 78 = true := rfl
      simp only [n0, n1, n2, n3, n4] at hyes
      simp only [true_or, false_or, true_and, and_true, Bool.false_eq_true] at hyes
      obtain ⟨e_a, e_b, e_ty⟩ := hyes
      subst e_a
      subst e_b
      obtain rfl := toList_nil e_ty
      exact insCheck_good6 i cls nm _ rb tb w hG hcls hnm (Lib.hid OF) (Lib.hid RG) (Lib.hid TY)
    · have n0 : hasC (⟨#[84, 67, 78]⟩ : Str) 65 = false := rfl
      have n1 : hasC (⟨#[84, 67, 78]⟩ : Str) 66 = false := rfl
      have n2 : hasC (⟨#[84, 67, 78]⟩ : Str) 84 = true := rfl
      have n3 : hasC (⟨#[84, 67, 78]⟩ : Str) 67 = true := rfl
      have n4 : hasC (⟨#[84, 67, 78]⟩ : Str) 78 = true := rfl
      simp only [n0, n1, n2, n3, n4] at hyes
      simp only [true_or, false_or, true_and, and_true, Bool.false_eq_true] at hyes
      obtain ⟨e_a, e_b⟩ := hyes
      subst e_a
      subst e_b
      exact insCheck_good7 i ty cls nm _ rb tb w hG hcls hnm (Lib.hid OF) (Lib.hid RG) (Lib.hid TY)
end Go.Proofs.YthcjjjpcjjondaaGreatDoor
