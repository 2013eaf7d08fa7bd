/- Worlds: round. -/
import Derived.Test.YthcjjjpcjjondaaGreatDoorWorldC
namespace Go.Proofs.YthcjjjpcjjondaaGreatDoor
open Go.RowKit
set_option linter.unusedVariables false
set_option linter.unusedSimpArgs false
set_option linter.unnecessarySimpa false

set_option maxRecDepth 100000 in
set_option maxHeartbeats 2000000 in
theorem roundIn_any (v : Value) (L : PW) (a n : Str) (k : Nat) (ev : List Str) (b1 b2 : Nat) (w : World) (h : WMap w v L) (hl : everyOf k L a = some ev) (hk : ev.length ≤ 1048576)
    (h1 : w.cell? ⟨b1, 0, none⟩ = some v) (h2 : w.cell? ⟨b2, 0, none⟩ = some (.string n)) :
    Calls Tryz.prog 88 #[.string a, .pointer (some ⟨b1, 0, none⟩), .pointer (some ⟨b2, 0, none⟩)] w (BoolPost (hasStr (sortS ev) n) w) := by
  have HE := Lib.hid (every_any v L a k ev w.drew (h.below ((Below.refl _ _).drew)) hl hk)
  obtain ⟨r, rfl⟩ := h.form
  clear h hl
  have hlt1 := World.block_lt_of_cell? w _ h1
  have hlt2 := World.block_lt_of_cell? w _ h2
  simp only [] at hlt1 hlt2
  go_enter Tryz.func88, Tryz.ntmps88
  go_wp2
  go_region_with (first
    | (go_at_call 89; refine HE.out.mono ?_; rintro e w2 ⟨ev2, rfl, hown2, hb2⟩; have q1 := cell_below hb2 h1; have q2 := cell_below hb2 h2)
    | (go_at_call 23; refine (containsStr _ (sortS ev) n _ (own_strs ‹_›)).mono ?_; rintro e w3 ⟨rfl, rfl⟩))
  all_goals
    go_wp2
    go_ret
    exact ⟨rfl, ((Below.refl w.heap.size w).drew).trans hb2⟩

/-- What Every tells of each of some names. -/
def EvOk (L : PW) (evf : Str → List Str) (xs : List Str) : Prop := ∀ a ∈ xs, ∃ k, everyOf k L a = some (evf a) ∧ (evf a).length ≤ 1048576
set_option maxRecDepth 100000 in
set_option maxHeartbeats 2000000 in
theorem indexStr_any (v mv : Value) (L : PW) (n : Str) (evf : Str → List Str) (xs : List Str) (b1 b2 : Nat) (w : World) (h : WMap w mv L) (hev : EvOk L evf xs) (hl : StrSl w v xs)
    (h1 : w.cell? ⟨b1, 0, none⟩ = some mv) (h2 : w.cell? ⟨b2, 0, none⟩ = some (.string n)) :
    Calls Tryz.prog 152 #[v, .func (.func 88) #[] #[.pointer (some ⟨b1, 0, none⟩), .pointer (some ⟨b2, 0, none⟩)]] w (IntPost (findAt (fun a => hasStr (sortS (evf a)) n) xs 0) w) := by
  by_cases hne : xs = []
  · subst hne
    obtain ⟨A, cap, rfl, h3⟩ := hl.empty
    have H : Hid (findAt (fun a => hasStr (sortS (evf a)) n) [] 0 = -1) := Lib.hid rfl
    clear hl h h1 h2 hev
    go_enter Tryz.func152, Tryz.ntmps152
    go_wp2
    go_loop [8] (fun i => i = .int .i64 0) (fun _ => 0)
    case atStart => rfl
    case round =>
      subst hrel
      go_wp2
      go_ret
      exact ⟨by rw [H.out]; rfl, Below.refl _ _⟩
  obtain ⟨bs, off, cap, rfl, h2', h3, _⟩ := hl.cells hne
  unfold maxLen at h3
  have HC : Hid (∀ (k : Nat) (hk : k < xs.length), w.cell? ⟨bs, off + k, none⟩ = some (.string xs[k])) := by
    apply Lib.hid
    intro k hk
    obtain ⟨b', off', he, hc⟩ := hl.at hk
    injection he with he
    injection he with e1 e2 _
    subst e1 e2
    exact hc
  have HS := Lib.hid (fun (a : Str) (ha : a ∈ xs) w1 (hw : Below w.heap.size w w1) => by
    obtain ⟨k, hk1, hk2⟩ := hev a ha
    exact roundIn_any mv L a n k (evf a) b1 b2 w1 (h.below hw) hk1 hk2 (cell_below hw h1) (cell_below hw h2))
  have HFD := Lib.hid (fun k (hk : k < xs.length) => findAt_drop (fun a => hasStr (sortS (evf a)) n) hk)
  have HMEM : Hid (∀ (k : Nat) (hk : k < xs.length), xs[k] ∈ xs) := Lib.hid (fun k hk => List.getElem_mem hk)
  clear hl hne h h1 h2 hev
  go_enter Tryz.func152, Tryz.ntmps152
  go_wp2
  go_loopw [8] (fun i wr => ∃ k : Nat, i = .int .i64 k ∧ k ≤ xs.length ∧ Below w.heap.size w wr ∧ Hid (findAt (fun a => hasStr (sortS (evf a)) n) xs 0 = findAt (fun a => hasStr (sortS (evf a)) n) (xs.drop k) k)) (fun i _ => xs.length - (intOf i).toNat)
  case atStart => exact ⟨0, rfl, Nat.zero_le _, Below.refl _ _, rfl⟩
  case round =>
    obtain ⟨k, rfl, hk, hb, HE⟩ := hrel
    by_cases hkn : k < xs.length
    · have c0 := cell_below hb (HC.out k hkn)
      have HST := Lib.hid (HFD.out k hkn)
      have HM := Lib.hid (HMEM.out k hkn)
      generalize xs[k] = x at *
      go_wp2_with fail
      refine (HS.out x HM.out _ hb).mono ?_
      rintro e w3 ⟨rfl, hb3⟩
      have HB3 : Below w.heap.size w w3 := bel_then hb hb3
      cases hn : hasStr (sortS (evf x)) n
      · have HE' : Hid (findAt (fun a => hasStr (sortS (evf a)) n) xs 0 = findAt (fun a => hasStr (sortS (evf a)) n) (xs.drop (k + 1)) (k + 1)) := by
          apply Lib.hid; rw [HE.out, HST.out, if_neg (by rw [hn]; simp)]
        clear HE HST hn
        go_wp2
        go_roundw
        case rel => exact ⟨k + 1, by go_num, by omega, HB3, HE'⟩
        case measure => simp [intOf]; omega
      · have HE' : Hid (findAt (fun a => hasStr (sortS (evf a)) n) xs 0 = (k : Int)) := by
          apply Lib.hid; rw [HE.out, HST.out, if_pos hn]
        clear HE HST hn
        go_wp2
        go_ret
        exact ⟨by rw [HE'.out]; rfl, HB3⟩
    · have hke : k = xs.length := by omega
      have H : Hid (findAt (fun a => hasStr (sortS (evf a)) n) xs 0 = -1) := by
        apply Lib.hid; rw [HE.out, hke, List.drop_length]; rfl
      clear HE hke
      go_wp2
      go_ret
      exact ⟨by rw [H.out]; rfl, hb⟩
theorem containsStrF_any (v mv : Value) (L : PW) (n : Str) (evf : Str → List Str) (xs : List Str) (b1 b2 : Nat) (w : World) (h : WMap w mv L) (hev : EvOk L evf xs) (hl : StrSl w v xs)
    (h1 : w.cell? ⟨b1, 0, none⟩ = some mv) (h2 : w.cell? ⟨b2, 0, none⟩ = some (.string n)) :
    Calls Tryz.prog 86 #[v, .func (.func 88) #[] #[.pointer (some ⟨b1, 0, none⟩), .pointer (some ⟨b2, 0, none⟩)]] w (BoolPost (xs.any fun a => hasStr (sortS (evf a)) n) w) := by
  have H := Lib.hid (findAt_any (fun a => hasStr (sortS (evf a)) n) xs 0)
  have HC := Lib.hid (indexStr_any v mv L n evf xs b1 b2 w h hev hl h1 h2)
  clear hl h1 h2 h hev
  generalize findAt (fun a => hasStr (sortS (evf a)) n) xs 0 = i at *
  generalize (xs.any fun a => hasStr (sortS (evf a)) n) = res at *
  go_enter Tryz.func86, Tryz.ntmps86
  go_wp2_with fail
  refine HC.out.mono ?_
  rintro e w1 ⟨rfl, hb1⟩
  go_wp2
  go_ret
  exact ⟨by rw [← H.out]; rfl, hb1⟩

set_option maxRecDepth 100000 in
set_option maxHeartbeats 2000000 in
theorem round_any (v : Value) (L : PW) (n : Str) (evf : Str → List Str) (w : World) (h : WMap w v L) (hev : EvOk L evf (above L n)) :
    Calls Tryz.prog 47 #[v, .string n] w (BoolPost (roundB L evf n) w) := by
  obtain ⟨r, rfl⟩ := h.form
  have HR : Hid (roundB L evf n = (above L n).any fun a => hasStr (sortS (evf a)) n) := Lib.hid rfl
  have hb1 := (Below.refl w.heap.size w).alloc (Nat.le_refl _) (.cells #[.map (some r)] 64)
  have hb2 := hb1.alloc hb1.size (.cells #[.string n] 9)
  have HM := Lib.hid (h.below hb2)
  have HEV := Lib.hid hev
  have c1 : ((w.alloc (.cells #[.map (some r)] 64)).alloc (.cells #[.string n] 9)).cell? ⟨w.heap.size, 0, none⟩ = some (.map (some r)) := by
    simp
  have c2 : ((w.alloc (.cells #[.map (some r)] 64)).alloc (.cells #[.string n] 9)).cell? ⟨w.heap.size + 1, 0, none⟩ = some (.string n) := by
    simp
  clear h hev
  go_enter Tryz.func47, Tryz.ntmps47
  go_upto_region 1 with (fail)
  generalize (w.alloc (.cells #[.map (some r)] 64)).alloc (.cells #[.string n] 9) = W1 at *
  go_wp2_with fail
  refine (above_any _ L n W1 W1 HM.out (Below.refl _ _)).mono ?_
  rintro e w2 ⟨av, rfl, hav, hbw⟩
  have hsl : StrSl w2 av (above L n) := by
    rcases hav with h | h
    · exact h.below hbw
    · exact own_strs h
  have q1 := cell_below hbw c1
  have q2 := cell_below hbw c2
  have HSL := Lib.hid hsl
  clear hav hsl
  generalize above L n = ab at *
  go_wp2_with fail
  refine (containsStrF_any av _ L n evf ab _ _ w2 (HM.out.below hbw) HEV.out HSL.out q1 q2).mono ?_
  rintro e w3 ⟨rfl, hb3⟩
  go_wp2
  go_ret
  exact ⟨by rw [HR.out]; rfl, bel_then (hb2.trans (hbw.mono hb2.size)) hb3⟩
end Go.Proofs.YthcjjjpcjjondaaGreatDoor
