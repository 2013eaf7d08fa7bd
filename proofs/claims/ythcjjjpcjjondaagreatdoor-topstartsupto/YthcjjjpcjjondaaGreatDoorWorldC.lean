/- Worlds: Every. -/
import Derived.Test.YthcjjjpcjjondaaGreatDoorWorldBS
namespace Go.Proofs.YthcjjjpcjjondaaGreatDoor
open Go.RowKit
set_option linter.unusedVariables false
set_option linter.unusedSimpArgs false
set_option linter.unnecessarySimpa false

/-- A slice of texts that is read, none of whose cells lies in a block X. -/
def SlX (w : World) (X : Option Nat) (v : Value) (xs : List Str) : Prop :=
  ∃ A cap, v = .slice A xs.length cap ∧ xs.length ≤ cap ∧ cap ≤ maxLen ∧ ∀ j x, xs[j]? = some x → ∃ b off, A = some ⟨b, off, none⟩ ∧ some b ≠ X ∧ w.cell? ⟨b, off + j, none⟩ = some (.string x)
theorem SlX.sl {w : World} {X : Option Nat} {v : Value} {xs : List Str} (h : SlX w X v xs) : StrSl w v xs := by
  obtain ⟨A, cap, h1, h2, h3, h4⟩ := h
  exact ⟨A, cap, h1, h2, h3, fun j x hj => by obtain ⟨b, off, a1, _, a3⟩ := h4 j x hj; exact ⟨b, off, a1, a3⟩⟩
theorem SlX.below {w w1 : World} {X : Option Nat} {v : Value} {xs : List Str} (h : SlX w X v xs) (hb : Below w.heap.size w w1) : SlX w1 X v xs := by
  obtain ⟨A, cap, h1, h2, h3, h4⟩ := h
  exact ⟨A, cap, h1, h2, h3, fun j x hj => by obtain ⟨b, off, a1, a2, a3⟩ := h4 j x hj; exact ⟨b, off, a1, a2, cell_below hb a3⟩⟩
theorem SlX.grown {w w1 : World} {X Y : Option Nat} {v : Value} {xs : List Str} (h : SlX w X v xs) (hg : w.grownBy w1 X) (hY : Y = X ∨ ∃ b, Y = some b ∧ w.heap.size ≤ b) : SlX w1 Y v xs := by
  obtain ⟨A, cap, h1, h2, h3, h4⟩ := h
  refine ⟨A, cap, h1, h2, h3, fun j x hj => ?_⟩
  obtain ⟨b, off, a1, a2, a3⟩ := h4 j x hj
  refine ⟨b, off, a1, ?_, cell_grown hg a2 a3⟩
  rcases hY with rfl | ⟨b', rfl, hb'⟩
  · exact a2
  · intro e
    injection e with e
    have := World.block_lt_of_cell? w _ a3
    simp only [] at this
    omega
theorem slX_old {w0 w : World} {X : Option Nat} {v : Value} {xs : List Str} (h : StrSl w0 v xs) (hb : Below w0.heap.size w0 w) (hX : ∀ k, X = some k → w0.heap.size ≤ k) : SlX w X v xs := by
  obtain ⟨A, cap, h1, h2, h3, h4⟩ := h
  refine ⟨A, cap, h1, h2, h3, fun j x hj => ?_⟩
  obtain ⟨b, off, a1, a3⟩ := h4 j x hj
  refine ⟨b, off, a1, ?_, cell_below hb a3⟩
  intro e
  have := World.block_lt_of_cell? w0 _ a3
  have := hX b e.symm
  simp only [] at *
  omega
theorem slX_own {w : World} {X : Option Nat} {base : Nat} {v : Value} {xs : List Str} (h : w.ownsRow base 9 1 v xs.length (strCells xs)) (hX : ∀ k, X = some k → k < base) : SlX w X v xs := by
  have hs := own_strs h
  obtain ⟨A, cap, h1, h2, h3, h4⟩ := hs
  refine ⟨A, cap, h1, h2, h3, fun j x hj => ?_⟩
  obtain ⟨b, off, a1, a3⟩ := h4 j x hj
  refine ⟨b, off, a1, ?_, a3⟩
  intro e
  have h5 := own_base h b (by rw [h1, a1]; rfl)
  have := hX b e.symm
  omega
theorem own_form {w : World} {base : Nat} {e : TypeId} {size n : Nat} {v : Value} {xs : List Value} (h : w.ownsRow base e size v n xs) (h0 : 0 < n) : ∃ g cap, v = .slice (some ⟨g, 0, none⟩) n cap := by
  rcases h.2 with ⟨_, h1⟩ | ⟨g, cap, cur, hv, _⟩
  · omega
  · exact ⟨g, cap, hv⟩
theorem fold_take {l : List Str} {out : List Str} {k : Nat} (hk : k < l.length) : (l.take (k + 1)).foldl addNew out = addNew ((l.take k).foldl addNew out) l[k] := by
  rw [List.take_succ_eq_append_getElem hk, List.foldl_append]; rfl
theorem fold_take_len {l : List Str} {out : List Str} (k : Nat) : ((l.take k).foldl addNew out).length ≤ (l.foldl addNew out).length := by
  have : l.foldl addNew out = (l.drop k).foldl addNew ((l.take k).foldl addNew out) := by rw [← List.foldl_append, List.take_append_drop]
  rw [this]; exact fold_len _ _

set_option maxRecDepth 100000 in
set_option maxHeartbeats 4000000 in
theorem every_any (v : Value) (L : PW) (n : Str) (k : Nat) (ev : List Str) (w : World) (h : WMap w v L) (hl : everyOf k L n = some ev) (hk : ev.length ≤ 1048576) :
    Calls Tryz.prog 89 #[v, .string n] w (StrsPost (sortS ev) w) := by
  have hb1 := (Below.refl w.heap.size w).alloc (Nat.le_refl _) (.cells #[.string n] 9)
  have HO1 := own_lit (base := w.heap.size) w n (Nat.le_refl _)
  obtain ⟨r, rfl⟩ := h.form
  have HM := Lib.hid h
  have HL := Lib.hid hl
  have hz1 : w.heap.size < (w.alloc (.cells #[.string n] 9)).heap.size := by simp
  clear h hl
  go_enter Tryz.func89, Tryz.ntmps89
  go_upto_region 2 with (fail)
  generalize w.alloc (.cells #[.string n] 9) = W1 at *
  have HO1' := Lib.hid HO1
  clear HO1
  go_wp2
  go_loopg [5, 6] k (fun kq v i wr => ∃ (out : List Str) (g cap j : Nat),
    v = .slice (some ⟨g, 0, none⟩) out.length cap ∧ i = .int .i64 j ∧ 0 < out.length ∧ wr.ownsRow w.heap.size 9 1 (.slice (some ⟨g, 0, none⟩) out.length cap) out.length (strCells out) ∧ Below w.heap.size w wr ∧ Hid (everyFrom kq L out j = some ev) ∧ j ≤ out.length)
  case atStart => exact ⟨[n], w.heap.size, 1, 0, rfl, rfl, by simp, HO1'.out, hb1, HL, Nat.zero_le _⟩
  case round =>
    clear HO1' HL hb1 hz1
    obtain ⟨out, g, cap, j, rfl, rfl, hpos, hown, hb, HR, hj⟩ := hrel
    have hle := every_len _ HR.out
    by_cases hjn : j < out.length
    · have hcx := (own_strs hown).at hjn
      obtain ⟨b, off, hA, hc⟩ := hcx
      injection hA with hA
      injection hA with e1 e2 _
      subst e1 e2
      rw [Nat.zero_add] at hc
      have HR1 : Hid (∃ k', gk = k' + 1 ∧ everyFrom k' L ((above L out[j]).foldl addNew out) (j + 1) = some ev) := by
        apply Lib.hid
        have h1 := HR.out
        cases gk with
        | zero => cases h1
        | succ k' => rw [everyFrom, List.getElem?_eq_getElem hjn] at h1; exact ⟨k', rfl, h1⟩
      generalize out[j] = x at *
      go_wp2_with fail
      refine (above_any _ L x w wr HM.out hb).mono ?_
      rintro e w2 ⟨av, rfl, hav, hb2⟩
      have hB2 : Below w.heap.size w w2 := bel_then hb hb2
      have hX : SlX w2 (some g) av (above L x) := by
        rcases hav with h | h
        · exact slX_old h hB2 (fun k e => by injection e with e; subst e; exact own_base hown g rfl)
        · exact slX_own h (fun k e => by injection e with e; subst e; exact own_lt hown g rfl)
      have hown2 := own_below hown hb2
      clear hav hown
      generalize above L x = ab at *
      obtain ⟨aA, acap, rfl, ha1, ha2⟩ := hX.sl.form
      unfold maxLen at ha2
      have hfl : (ab.foldl addNew out).length ≤ 1048576 := by obtain ⟨k', _, h⟩ := HR1.out; exact Nat.le_trans (every_len _ h) hk
      have HX := Lib.hid hX
      have HO2 := Lib.hid hown2
      clear hX hown2 hc
      go_wp2
      go_loopw [5, 24] (fun v i wr => ∃ (m g cap : Nat), i = .int .i64 m ∧ m ≤ ab.length ∧ v = .slice (some ⟨g, 0, none⟩) ((ab.take m).foldl addNew out).length cap ∧
        wr.ownsRow w.heap.size 9 1 (.slice (some ⟨g, 0, none⟩) ((ab.take m).foldl addNew out).length cap) ((ab.take m).foldl addNew out).length (strCells ((ab.take m).foldl addNew out)) ∧ Below w.heap.size w wr ∧ SlX wr (some g) (.slice aA ab.length acap) ab) (fun _ i _ => ab.length - (intOf i).toNat)
      case atStart => exact ⟨0, g, cap, rfl, Nat.zero_le _, rfl, HO2.out, hB2, HX.out⟩
      case round =>
        clear HX HO2 hb2 hB2 hb
        obtain ⟨m, g, cap, rfl, hm, rfl, hown, hb, hX⟩ := hrel
        have HX := Lib.hid hX
        by_cases hmn : m < ab.length
        · have hft := fold_take (out := out) hmn
          obtain ⟨b, off, hA, hc⟩ := hX.sl.at hmn
          have hlen := fold_take_len (l := ab) (out := out) m
          have HFT := Lib.hid hft
          have HCX := Lib.hid hc
          clear hft hX
          generalize hcur : (ab.take m).foldl addNew out = cur at *
          generalize ab[m] = y at *
          clear hcur
          obtain ⟨hcc1, hcc2⟩ : cur.length ≤ cap ∧ cap ≤ 9223372036854775807 := by
            obtain ⟨A', cap', he, h1, h2⟩ := (own_strs hown).form
            injection he with _ _ e3
            subst e3
            exact ⟨h1, h2⟩
          subst hA
          go_wp2_with fail
          refine (containsStr _ cur y wr (own_strs hown)).mono ?_
          rintro e w3 ⟨rfl, rfl⟩
          cases hcy : hasStr cur y
          case true =>
            have HA : Hid (addNew cur y = cur) := by apply Lib.hid; unfold addNew; rw [if_pos hcy]
            have HO := Lib.hid hown
            clear hcy hown hc
            go_wp2
            go_roundw
            case rel =>
              refine ⟨m + 1, g, cap, by go_num, by omega, ?_, ?_, hb, HX.out⟩
              · rw [HFT.out, HA.out]
              · rw [HFT.out, HA.out]; exact HO.out
            case measure => simp [intOf]; omega
          case false =>
            have HA : Hid (addNew cur y = cur ++ [y]) := by apply Lib.hid; unfold addNew; rw [if_neg (by rw [hcy]; simp)]
            have HO := Lib.hid hown
            clear hcy hown hc
            go_wp2_with (at_builtin; go_loud (refine append_str w.heap.size rfl _ _ rfl (.slice (some ⟨g, 0, none⟩) cur.length cap) cur _ rfl rfl HO.out hb hb.size (by omega) ?_))
            intro v1 w4 hown4 hb4 hg4 hat4
            replace hown4 : w4.ownsRow w.heap.size 9 1 v1 (cur ++ [y]).length (strCells (cur ++ [y])) := by rw [List.length_append]; exact hown4
            obtain ⟨g4, cap4, hv4⟩ := own_form hown4 (by simp)
            have HO4 := Lib.hid hown4
            have HV4 := Lib.hid hv4
            have HX4 : SlX w4 (some g4) (.slice (some ⟨b, off, none⟩) ab.length acap) ab := by
              have := HX.out.grown (Y := some g4) hg4 (by rw [hv4] at hat4; exact hat4)
              exact this
            clear hown4 hv4
            go_wp2
            go_roundw
            case rel =>
              refine ⟨m + 1, g4, cap4, by go_num, by omega, ?_, ?_, hb4, HX4⟩
              · rw [HFT.out, HA.out]; exact HV4.out
              · rw [HFT.out, HA.out, ← HV4.out]; exact HO4.out
            case measure => simp [intOf]; omega
        · have hme : m = ab.length := by omega
          have HM2 : Hid (ab.take m = ab) := by apply Lib.hid; rw [hme, List.take_length]
          have HO := Lib.hid hown
          have hpos2 : 0 < ((ab.take m).foldl addNew out).length := Nat.lt_of_lt_of_le hpos (fold_len _ _)
          have hln : out.length ≤ ((ab.take m).foldl addNew out).length := fold_len _ _
          clear hme hown hX
          obtain ⟨k', hk', hr'⟩ := HR1.out
          have HK' := Lib.hid hk'
          have HR' := Lib.hid hr'
          clear hk' hr'
          go_wp2
          go_roundg k'
          case measure => have := HK'.out; omega
          case rel =>
            refine ⟨(ab.take m).foldl addNew out, g, cap, j + 1, rfl, by go_num, hpos2, HO.out, hb, ?_, by omega⟩
            apply Lib.hid; rw [HM2.out]; exact HR'.out
    · have hje : Hid (ev = out) := by
        have h1 := HR.out
        apply Lib.hid
        cases gk with
        | zero => cases h1
        | succ k' =>
          rw [everyFrom, List.getElem?_eq_none (by omega)] at h1
          injection h1 with h1
          exact h1.symm
      have hne : out ≠ [] := List.length_pos_iff.1 hpos
      have HNE := Lib.hid hne
      clear HR hne
      go_wp2_with fail
      refine (sort_any _ out w.heap.size wr hown HNE.out (by omega)).mono ?_
      rintro e w3 ⟨rfl, hown3, hg3⟩
      have hb3 : Below w.heap.size w w3 := hb.grown hg3 hb.size (fun k e => by injection e with e; subst e; exact own_base hown g rfl)
      clear hown
      go_wp2
      go_ret
      exact ⟨_, rfl, by rw [hje.out, sortS_length]; exact hown3, hb3⟩
end Go.Proofs.YthcjjjpcjjondaaGreatDoor
