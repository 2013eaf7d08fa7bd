/- Names: what the program's name.Check computes. -/
import Derived.Test.YthcjjjpcjjondaaGreatDoorShelf
import Derived.Test.YthcjjjpcjjondaaGreatDoorPure
import Derived.Shelf.Strings.SlTrimAscii
import Derived.WalkKit
import Derived.WalkSpells
import Derived.WalkLawsBesides
import Derived.Outline
import Derived.Lib.Hide
import Derived.Deep.DeepFit
import Derived.Deep.LoopGhost
import Derived.Deep.DeepCutAuto
import Derived.WideLaws
namespace Go.Proofs.YthcjjjpcjjondaaGreatDoor
open Go.RowKit
set_option linter.unusedVariables false
set_option linter.unusedSimpArgs false
set_option linter.unnecessarySimpa false

/-- An error as a value: 0 is nil. -/
def errV (c : Int) : Value := if c = 0 then .nilIface else .iface 53 (.int .i64 c)
theorem errV_0 : errV 0 = .nilIface := rfl
theorem errV_ne {c : Int} (h : c ≠ 0) : errV c = .iface 53 (.int .i64 c) := by unfold errV; rw [if_neg h]

theorem bcell {W w1 : World} (hb : Below W.heap.size W w1) : (∀ b o, b < W.heap.size → w1.cell? ⟨b, o, none⟩ = W.cell? ⟨b, o, none⟩) ∧ (∀ b o, b < W.heap.size → w1.frozen? ⟨b, o, none⟩ = W.frozen? ⟨b, o, none⟩) :=
  ⟨fun b o h => hb.cell (p := ⟨b, o, none⟩) h, fun b o h => hb.frozen (p := ⟨b, o, none⟩) h⟩

theorem bel_drewN {B : Nat} {w W : World} (h : Below B w W) (n : Nat) : Below B w (W.drewN n) := ⟨h.os, h.tape, h.output, h.size, h.block⟩
theorem bel_then {w w1 w2 : World} (h : Below w.heap.size w w1) (k : Below w1.heap.size w1 w2) : Below w.heap.size w w2 := h.trans (k.mono h.size)
theorem u8_ne {b c : UInt8} (h : b ≠ c) : ((b.toNat : Int) == (c.toNat : Int)) = false := by
  simp only [beq_eq_false_iff_ne, ne_eq]; intro e; exact h (UInt8.toNat_inj.1 (by omega))

/-- The cells of a block just laid, behind what only lays more. -/
theorem box_at {w w1 : World} {c : Array Value} {t : TypeId} (hb : Below (w.alloc (.cells c t)).heap.size (w.alloc (.cells c t)) w1) (j : Nat) : w1.cell? ⟨w.heap.size, j, none⟩ = c[j]? := by
  rw [hb.cell (p := ⟨w.heap.size, j, none⟩) (by simp)]
  exact World.cell?_alloc_new w c t j
theorem box_lt {w w1 : World} {o : Obj} (hb : Below (w.alloc o).heap.size (w.alloc o) w1) : w.heap.size < w1.heap.size := by
  have := hb.size; simp at this; omega

def nameErr (s : Str) : Int := if isName s then 0 else 1

theorem name_ascii : ∀ (j : Nat) b, (letters ++ digits)[j]? = some b → b.toNat < 128 := Go.Proofs.ascii_of_all (by decide)

theorem u8_back (b : UInt8) : ((b.toNat : Int)).toNat.toUInt8 = b := by simp

set_option maxHeartbeats 400000 in
theorem nameCheck (s : Str) (w : World) (hs : s.size ≤ 9223372036854775807) :
    Calls Tryz.prog 67 #[.string s] w fun e w' => e = .returned (errV (nameErr s)) ∧ Below w.heap.size w w' := by
  by_cases h0 : s.size = 0
  · have he : nameErr s = 1 := by
      unfold nameErr isName isNameL
      have : bytes s = [] := List.eq_nil_of_length_eq_zero (by rw [bytes_length]; exact h0)
      simp [this]
    have he' := Lib.hid he
    have hn : s.toList = [] := by rw [Lib.toList_data]; exact List.eq_nil_of_length_eq_zero (by rw [← Lib.size_eq]; exact h0)
    clear he
    go_enter Tryz.func67, Tryz.ntmps67
    go_wp2
    go_ret
    exact ⟨by rw [he'.out]; rfl, Below.refl _ _⟩
  · have hn : s.toList.isEmpty = false := by
      rw [Lib.toList_data]
      cases h : s.data.toList with
      | nil => exact absurd (by rw [Lib.size_eq, h]; rfl) h0
      | cons a l => rfl
    by_cases h20 : s.size ≤ 20
    · have ht := trimS_nil_iff (bytes s) (letters ++ digits)
      have hx := Lib.contains_iff_indexByte digits
      by_cases hall : (bytes s).all (nameChars.contains ·) = true
      · have hT : Lib.trimS (bytes s) (letters ++ digits) = [] := ht.2 (by simpa [nameChars] using hall)
        obtain ⟨b0, l0, hb⟩ : ∃ b0 l0, bytes s = b0 :: l0 := by
          cases h : bytes s with
          | nil => exact absurd (by rw [← bytes_length, h]; rfl) h0
          | cons a l => exact ⟨a, l, rfl⟩
        have hi : s[0]'(by omega) = b0 := by
          have h1 : (bytes s)[0]? = some b0 := by rw [hb]; rfl
          have h2 : (bytes s)[0]? = some (s[0]'(by omega)) := List.getElem?_eq_getElem (by rw [bytes_length]; omega)
          rw [h1] at h2; injection h2 with h2; exact h2.symm
        have hd : nameErr s = if digits.contains b0 then 1 else 0 := by
          unfold nameErr isName isNameL
          rw [hb] at hall ⊢
          have hl : (b0 :: l0).length ≤ 20 := by rw [← hb, bytes_length]; exact h20
          rw [hall, decide_eq_true hl]
          simp only [List.isEmpty_cons, Bool.not_false, Bool.and_true, Bool.true_and, List.headD_cons]
          cases digits.contains b0 <;> rfl
        have HT := Lib.hid hT
        have HD := Lib.hid hd
        have HX := Lib.hid hx
        have HI := Lib.hid hi
        clear ht hx hT hd hb hall hi
        have h0' : 0 < s.size := by omega
        have HV : Hid (digits.contains b0 = decide (0 ≤ Lib.indexByte (⟨#[48, 49, 50, 51, 52, 53, 54, 55, 56, 57]⟩ : ByteArray).data.toList ((s[0]'h0').toNat : Int).toNat.toUInt8)) := by
          apply Lib.hid
          rw [u8_back, HX.out, HI.out]
          rfl
        go_enter Tryz.func67, Tryz.ntmps67
        go_wp2_with fail
        refine (Any.strings_Trim_laid Tryz.lays160 (by kernel_rfl) s ⟨(letters ++ digits).toArray⟩ _ hs (by decide) name_ascii).mono ?_
        rintro e w1 ⟨rfl, hb1⟩
        rw [show Lib.trimS s.data.toList (letters ++ digits).toArray.toList = [] from HT.out]
        go_wp2_with fail
        refine (Tryz.strings_IndexByte ⟨#[48, 49, 50, 51, 52, 53, 54, 55, 56, 57]⟩ _ _).mono ?_
        rintro e w2 ⟨rfl, rfl⟩
        have hv := HV.out
        generalize Lib.indexByte (⟨#[48, 49, 50, 51, 52, 53, 54, 55, 56, 57]⟩ : ByteArray).data.toList ((s[0]'h0').toNat : Int).toNat.toUInt8 = v at hv ⊢
        by_cases hd : 0 ≤ v
        · have he : nameErr s = 1 := by rw [HD.out, if_pos (hv.trans (decide_eq_true hd))]
          have HE := Lib.hid he
          clear hv he HD HX HI HV
          go_wp2
          go_ret
          exact ⟨by rw [HE.out]; rfl, hb1⟩
        · have he : nameErr s = 0 := by rw [HD.out, if_neg (by rw [hv]; simpa using hd)]
          have HE := Lib.hid he
          clear hv he HD HX HI HV
          go_wp2
          go_ret
          exact ⟨by rw [HE.out]; rfl, hb1⟩
      · have he : nameErr s = 1 := by
          unfold nameErr isName isNameL
          rw [Bool.eq_false_iff.2 hall]; rfl
        have hT : (⟨(Lib.trimS (bytes s) (letters ++ digits)).toArray⟩ : ByteArray).toList.isEmpty = false := by
          rw [Lib.toList_data]
          cases h : Lib.trimS (bytes s) (letters ++ digits) with
          | nil => exact absurd (List.all_eq_true.2 fun x hx => (by simpa [nameChars] using ht.1 h x hx)) hall
          | cons a l => rfl
        have HE := Lib.hid he
        clear ht hx he hall
        go_enter Tryz.func67, Tryz.ntmps67
        go_wp2_with fail
        refine (Any.strings_Trim_laid Tryz.lays160 (by kernel_rfl) s ⟨(letters ++ digits).toArray⟩ _ hs (by decide) name_ascii).mono ?_
        rintro e w1 ⟨rfl, hb1⟩
        generalize hq : (⟨(Lib.trimS s.data.toList (letters ++ digits).toArray.toList).toArray⟩ : ByteArray) = q
        have hqe : q.toList.isEmpty = false := by rw [← hq]; exact hT
        clear hq hT
        go_wp2
        go_ret
        exact ⟨by rw [HE.out]; rfl, hb1⟩
    · have he : nameErr s = 1 := by
        unfold nameErr isName isNameL
        have : ¬ (bytes s).length ≤ 20 := by rw [bytes_length]; exact h20
        simp [this]
      have he' := Lib.hid he
      clear he
      go_enter Tryz.func67, Tryz.ntmps67
      go_wp2
      go_ret
      exact ⟨by rw [he'.out]; rfl, Below.refl _ _⟩
end Go.Proofs.YthcjjjpcjjondaaGreatDoor
