/- Types as texts: what the program's package desc computes. -/
import Derived.Test.YthcjjjpcjjondaaGreatDoorBase
import Derived.Test.YthcjjjpcjjondaaGreatDoorPure
import Derived.Deep.QuietTactic
import Derived.BigQuiet
import Derived.Test.YthcjjjpcjjondaaGreatDoorOwnRow
namespace Go.Proofs.YthcjjjpcjjondaaGreatDoor
open Go.RowKit
set_option linter.unusedVariables false
set_option linter.unusedSimpArgs false
set_option linter.unnecessarySimpa false


set_option maxHeartbeats 400000 in
theorem number_yes (s : Str) (w : World) (h : isNum s = true) : Calls Tryz.prog 163 #[.string s] w fun e w' => e = .returned (.bool true) ∧ w = w' := by
  have h1 : (s.toList == [73]) = true ∨ (s.toList == [74]) = true := by rw [Lib.toList_data]; simpa [isNum, bytes] using h
  by_cases h2 : s.toList = [73]
  · go_enter Tryz.func163, Tryz.ntmps163
    go_wp2
    go_ret
    exact ⟨rfl, rfl⟩
  · have h3 : s.toList = [74] := by simpa [h2] using h1
    clear h h1
    go_enter Tryz.func163, Tryz.ntmps163
    go_wp2
    go_ret
    exact ⟨rfl, rfl⟩
set_option maxHeartbeats 400000 in
theorem number_no (s : Str) (w : World) (h : isNum s = false) : Calls Tryz.prog 163 #[.string s] w fun e w' => e = .returned (.bool false) ∧ w = w' := by
  have h1 : ¬ s.toList = [73] := by rw [Lib.toList_data]; intro e; simp [isNum, bytes, e] at h
  have h2 : ¬ s.toList = [74] := by rw [Lib.toList_data]; intro e; simp [isNum, bytes, e] at h
  clear h
  go_enter Tryz.func163, Tryz.ntmps163
  go_wp2
  go_ret
  exact ⟨by simp [h1, h2], rfl⟩
theorem number_any (s : Str) (w : World) : Calls Tryz.prog 163 #[.string s] w fun e w' => e = .returned (.bool (isNum s)) ∧ w = w' := by
  cases h : isNum s
  · exact number_no s w h
  · exact number_yes s w h

def cutR (s : Str) : Value := match cutLen (bytes s) with
  | none => .tuple #[.string ⟨#[]⟩, .string s, .bool false]
  | some n => .tuple #[.string (s.extract 0 n), .string (s.extract n s.size), .bool true]

set_option maxHeartbeats 400000 in
theorem cut_any (s : Str) (w : World) (hs : s.size ≤ 4611686018427387904) :
    Calls Tryz.prog 52 #[.string s] w fun e w' => e = .returned (cutR s) ∧ Below w.heap.size w w' := by
  have hT := Tryz.strings_TrimLeft_one s 91 (by decide)
  have hl := trimLeftB_len (bytes s)
  have hd := trimLeftB_drop (bytes s)
  rw [bytes_length] at hl
  generalize hdd : deepL (bytes s) = d at hl hd
  have HD := Lib.hid hd
  have HDD := Lib.hid hdd
  have HT := Lib.hid hT
  have hL : d + (Lib.trimLeftB (bytes s) 91).length = s.size := by omega
  have HL := Lib.hid hL
  clear hd hdd hT hl hL
  go_enter Tryz.func52, Tryz.ntmps52
  go_wp2_with fail
  refine (HT.out _).mono ?_
  rintro e w1 ⟨rfl, rfl⟩
  go_upto_region 2 with (fail)
  rw [show wrap64 ((s.size : Int) - ((Lib.trimLeftB s.data.toList 91).length : Int)) = (d : Int) from by
    have := HL.out; unfold bytes at this; unfold wrap64; omega]
  have hr : bytes (s.extract d s.size) = (bytes s).drop d := bytes_extract_end s d
  have hds : d ≤ s.size := by have := HL.out; omega
  have HR := Lib.hid hr
  clear hr
  by_cases h3 : 3 < d
  · have he : cutR s = .tuple #[.string ⟨#[]⟩, .string s, .bool false] := by unfold cutR cutLen; rw [HDD.out, if_pos h3]
    have HE := Lib.hid he
    clear he
    have h3' : (3 : Int) < (d : Int) := by omega
    go_wp2
    go_ret3
    exact ⟨by rw [HE.out]; rfl, Below.refl _ _⟩
  have h3' : ¬ (3 : Int) < (d : Int) := by omega
  cases hrest : (bytes s).drop d with
  | nil =>
    have he : cutR s = .tuple #[.string ⟨#[]⟩, .string s, .bool false] := by unfold cutR cutLen; rw [HDD.out, if_neg h3, hrest]
    have HE := Lib.hid he
    have hx : (s.extract d s.size).toList = [] := by rw [Lib.toList_data]; exact HR.out.trans hrest
    clear he hrest
    go_wp2
    go_ret3
    exact ⟨by rw [HE.out]; rfl, Below.refl _ _⟩
  | cons b t =>
    have hx : (s.extract d s.size).toList.isEmpty = false := by rw [Lib.toList_data]; rw [show (s.extract d s.size).data.toList = b :: t from HR.out.trans hrest]; rfl
    have HB := Lib.hid (HR.out.trans hrest)
    have hlen : (s.extract d s.size).size = s.size - d := by rw [← bytes_length, HR.out, List.length_drop, bytes_length]
    have hlt : d < s.size := by
      have := congrArg List.length hrest
      rw [List.length_drop, List.length_cons, bytes_length] at this
      omega
    have HLEN := Lib.hid hlen
    have HREST := Lib.hid hrest
    have h0 : 0 < (s.extract d s.size).size := by rw [hlen]; omega
    have HI : Hid ((s.extract d s.size)[0]'h0 = b) := by
      have h1 : (bytes (s.extract d s.size))[0]? = some b := by rw [HB.out]; rfl
      have h2 : (bytes (s.extract d s.size))[0]? = some ((s.extract d s.size)[0]'h0) := List.getElem?_eq_getElem (by rw [bytes_length]; exact h0)
      rw [h1] at h2; injection h2 with h2; exact h2.symm
    clear hlen hrest
    go_upto_region 6 with (fail)
    generalize hrr : s.extract d s.size = r at *
    have HRR := Lib.hid hrr
    clear hrr
    have hrs : r.size ≤ 4611686018427387904 := by have := HLEN.out; omega
    go_upto_region 8 with (fail)
    rw [show r[0]'h0 = b from HI.out]
    by_cases hb : b = 73 ∨ b = 74
    · have he : cutR s = .tuple #[.string (s.extract 0 (d + 1)), .string (s.extract (d + 1) s.size), .bool true] := by
        unfold cutR cutLen; rw [HDD.out, if_neg h3, HREST.out]; simp only [if_pos hb]
      have HE := Lib.hid he
      have hds' : d + 1 ≤ s.size := by omega
      have hw : IntKind.i64.wrap ((d : Int) + 1) = (d : Int) + 1 := IntWalk.i64_in _ (by omega)
      have hw2 : ((d : Int) + 1).toNat = d + 1 := by omega
      have h1 : (0 : Int) ≤ (d : Int) + 1 := by omega
      have h2 : (d : Int) + 1 ≤ (s.size : Int) := by omega
      have hbn : (b.toNat : Int) = 73 ∨ (b.toNat : Int) = 74 := by rcases hb with rfl | rfl <;> simp
      clear he hb
      rcases hbn with hbn | hbn
      all_goals
        rw [hbn]
        clear hbn
        go_wp2
        go_quiet (fail)
        go_wp2
        go_ret3
        exact ⟨by rw [HE.out]; first | rfl | simp, bel_drewN (Below.refl _ _) _⟩
    have hb1 : ((b.toNat : Int) == 73) = false := u8_ne (c := 73) fun e => hb (.inl e)
    have hb2 : ((b.toNat : Int) == 74) = false := u8_ne (c := 74) fun e => hb (.inr e)
    by_cases hc : b = 76
    · subst hc
      clear hb hb1 hb2
      have hix := indexByte_lt (76 :: t) 59
      have hig := Lib.indexByte_ge (76 :: t) 59
      have HIX : Hid (Lib.indexByte r.data.toList (59 : Int).toNat.toUInt8 = Lib.indexByte (76 :: t) 59) := by
        have h1 := HB.out
        unfold bytes at h1
        apply Lib.hid
        rw [h1]; rfl
      have he : cutR s = if Lib.indexByte (76 :: t) 59 < 0 then .tuple #[.string ⟨#[]⟩, .string s, .bool false] else if isNameL (((76 :: t).take (Lib.indexByte (76 :: t) 59).toNat).drop 1) then .tuple #[.string (s.extract 0 (d + (Lib.indexByte (76 :: t) 59).toNat + 1)), .string (s.extract (d + (Lib.indexByte (76 :: t) 59).toNat + 1) s.size), .bool true] else .tuple #[.string ⟨#[]⟩, .string s, .bool false] := by
        unfold cutR cutLen; rw [HDD.out, if_neg h3, HREST.out]
        simp only [show ¬ ((76 : UInt8) = 73 ∨ (76 : UInt8) = 74) by decide, if_false, if_true]
        by_cases hq : Lib.indexByte (76 :: t) 59 < 0
        · simp only [if_pos hq]
        · by_cases hn : isNameL (((76 :: t).take (Lib.indexByte (76 :: t) 59).toNat).drop 1) = true
          · simp only [if_neg hq, if_pos hn]
          · simp only [if_neg hq, if_neg hn]
      have hrsz : r.size = (76 :: t).length := by rw [← HB.out, bytes_length]
      have hix2 : Lib.indexByte (76 :: t) 59 < r.size := by
        rcases hix with h | ⟨h, _⟩
        · omega
        · cases h
      have hnm : bytes (r.extract 1 (Lib.indexByte (76 :: t) 59).toNat) = (((76 :: t).take (Lib.indexByte (76 :: t) 59).toNat).drop 1) := by
        rw [bytes_extract, HB.out, List.drop_take]
      have hi0 : Lib.indexByte (76 :: t) 59 ≠ 0 := by
        intro e
        have := (Lib.indexByte_some (o := 0) e).1
        simp at this
      clear hix
      generalize Lib.indexByte (76 :: t) 59 = i at *
      have HE := Lib.hid he
      have HNM := Lib.hid hnm
      have HRSZ := Lib.hid hrsz
      clear he hnm hrsz
      go_wp2_with fail
      refine (Tryz.strings_IndexByte _ _ _).mono ?_
      rintro e w2 ⟨rfl, rfl⟩
      rw [HIX.out]
      go_upto_region 12 with (fail)
      try rw [show wrap64 (i + 1) = i + 1 from by unfold wrap64; omega]
      by_cases hi : i < 0
      · have hi' : (i + 1 == 0) = true := by simp; omega
        rw [if_pos hi] at HE
        go_wp2
        go_ret3
        exact ⟨by rw [HE.out]; rfl, Below.refl _ _⟩
      · rw [if_neg hi] at HE
        obtain ⟨k, rfl⟩ := Int.eq_ofNat_of_zero_le (show 0 ≤ i by omega)
        have hi' : ((k : Int) + 1 == 0) = false := by simp; omega
        have hk1 : (1 : Int) ≤ (k : Int) := by omega
        have hk2 : k < r.size := by omega
        have hrd : r.size ≤ s.size - d := by have := HLEN.out; omega
        clear hi0 hi hix2
        go_wp2_with fail
        have hnm' := HNM.out
        rw [Int.toNat_natCast] at hnm'
        have HNM' := Lib.hid hnm'
        clear hnm'
        refine (nameCheck _ _ (by rw [← bytes_length, bytes_extract, List.length_take, List.length_drop, bytes_length]; omega)).mono ?_
        rintro e w3 ⟨rfl, hb3⟩
        by_cases hn : isName (r.extract 1 k) = true
        · have hn' : isNameL (((76 :: t).take ((k : Int)).toNat).drop 1) = true := by rw [Int.toNat_natCast, ← HNM'.out]; exact hn
          rw [if_pos hn'] at HE
          rw [show nameErr (r.extract 1 k) = 0 by unfold nameErr; rw [if_pos hn], errV_0]
          have hds' : d + k + 1 ≤ s.size := by omega
          have hw : IntKind.i64.wrap ((d : Int) + ((k : Int) + 1)) = (d : Int) + ((k : Int) + 1) := IntWalk.i64_in _ (by omega)
          have hw2 : ((d : Int) + ((k : Int) + 1)).toNat = d + k + 1 := by omega
          have h1 : (0 : Int) ≤ (d : Int) + ((k : Int) + 1) := by omega
          have h2 : (d : Int) + ((k : Int) + 1) ≤ (s.size : Int) := by omega
          clear hn hn'
          go_wp2
          go_quiet (fail)
          go_wp2
          go_ret3
          exact ⟨by rw [HE.out]; first | rfl | simp, bel_drewN hb3 _⟩
        · have hn' : ¬ isNameL (((76 :: t).take ((k : Int)).toNat).drop 1) = true := by rw [Int.toNat_natCast, ← HNM'.out]; exact hn
          rw [if_neg hn'] at HE
          rw [show nameErr (r.extract 1 k) = 1 by unfold nameErr; rw [if_neg hn], errV_ne (by decide)]
          clear hn hn'
          go_wp2
          go_ret3
          exact ⟨by rw [HE.out]; rfl, hb3⟩
    · have hb3 : ((b.toNat : Int) == 76) = false := u8_ne (c := 76) hc
      have he : cutR s = .tuple #[.string ⟨#[]⟩, .string s, .bool false] := by
        unfold cutR cutLen; rw [HDD.out, if_neg h3, HREST.out]; simp only [if_neg hb, if_neg hc]
      have HE := Lib.hid he
      clear he hb hc
      go_wp2
      go_ret3
      exact ⟨by rw [HE.out]; rfl, Below.refl _ _⟩

set_option maxHeartbeats 400000 in
theorem descCheck (s : Str) (w : World) (hs : s.size ≤ 4611686018427387904) :
    Calls Tryz.prog 54 #[.string s] w fun e w' => e = .returned (errV (descErr s)) ∧ Below w.heap.size w w' := by
  have C := cut_any s w hs
  unfold cutR at C
  have hb := bytes_length s
  cases h : cutLen (bytes s) with
  | none =>
    rw [h] at C
    have HE : Hid (descErr s = 1) := by apply Lib.hid; unfold descErr isType; rw [h]; rfl
    have HC := Lib.hid C
    clear C h hb
    go_enter Tryz.func54, Tryz.ntmps54
    go_wp2_with fail
    refine (HC.out).mono ?_
    rintro e w1 ⟨rfl, hb1⟩
    go_wp2
    go_ret
    exact ⟨by rw [HE.out]; rfl, hb1⟩
  | some n =>
    rw [h] at C
    have hn := (cutLen_le h).2
    rw [hb] at hn
    have HC := Lib.hid C
    clear C
    by_cases hns : n = s.size
    · have HE : Hid (descErr s = 0) := by apply Lib.hid; unfold descErr isType; rw [h, hns]; simp
      have hx : (s.extract n s.size).toList = [] := by
        rw [Lib.toList_data]; show bytes _ = []
        rw [bytes_extract_end, List.drop_eq_nil_iff, hb]; omega
      clear h hns hb
      go_enter Tryz.func54, Tryz.ntmps54
      go_wp2_with fail
      refine (HC.out).mono ?_
      rintro e w1 ⟨rfl, hb1⟩
      go_wp2
      go_ret
      exact ⟨by rw [HE.out]; rfl, hb1⟩
    · have HE : Hid (descErr s = 1) := by apply Lib.hid; unfold descErr isType; rw [h]; simp [hns]
      have hx : (s.extract n s.size).toList.isEmpty = false := by
        rw [Lib.toList_data]
        cases hd : (s.extract n s.size).data.toList with
        | nil =>
          exfalso
          have : bytes (s.extract n s.size) = [] := hd
          rw [bytes_extract_end, List.drop_eq_nil_iff, hb] at this; omega
        | cons a l => rfl
      clear h hns hb
      go_enter Tryz.func54, Tryz.ntmps54
      go_wp2_with fail
      refine (HC.out).mono ?_
      rintro e w1 ⟨rfl, hb1⟩
      go_wp2
      go_ret
      exact ⟨by rw [HE.out]; rfl, hb1⟩

/-- desc.Class of a type that is a number's, or a class's. -/
theorem trimLeftB_extract (s : Str) : (⟨(Lib.trimLeftB s.data.toList 91).toArray⟩ : Str) = s.extract (deepL (bytes s)) s.size := by
  apply bytes_inj
  rw [bytes_extract_end]
  exact trimLeftB_drop (bytes s)
def classR (s : Str) : Str := if isNum (s.extract (deepL (bytes s)) s.size) then ⟨#[]⟩ else classOf s
set_option maxHeartbeats 400000 in
theorem descClass (s : Str) (w : World) (hs : s.size ≤ 4611686018427387904) (h2 : deepL (bytes s) + 2 ≤ s.size ∨ isNum (s.extract (deepL (bytes s)) s.size) = true) :
    Calls Tryz.prog 99 #[.string s] w fun e w' => e = .returned (.string (classR s)) ∧ w = w' := by
  have HT := Lib.hid (trimLeftB_extract s)
  have HC : Hid (classR s = if isNum (s.extract (deepL (bytes s)) s.size) then ⟨#[]⟩ else (s.extract (deepL (bytes s)) s.size).extract 1 (s.size - deepL (bytes s) - 1)) := Lib.hid rfl
  have hlen : (s.extract (deepL (bytes s)) s.size).size = s.size - deepL (bytes s) := by rw [← bytes_length, bytes_extract_end, List.length_drop, bytes_length]
  have HL := Lib.hid hlen
  have hdl := deepL_le (bytes s)
  rw [bytes_length] at hdl
  generalize deepL (bytes s) = d at *
  clear hlen
  go_enter Tryz.func99, Tryz.ntmps99
  go_wp2_with fail
  refine (Tryz.strings_TrimLeft_one s 91 (by decide) _).mono ?_
  rintro e w1 ⟨rfl, rfl⟩
  rw [HT.out]
  generalize s.extract d s.size = r at *
  go_wp2_with fail
  cases hn : isNum r
  · refine (number_no r _ hn).mono ?_
    rintro e w2 ⟨rfl, rfl⟩
    have hrs := HL.out
    have h3 : d + 2 ≤ s.size := by
      rcases h2 with h | h
      · exact h
      · rw [hn] at h; cases h
    have hr2 : 2 ≤ r.size := by omega
    have hr3 : (1 : Int) ≤ (r.size : Int) - 1 := by omega
    have hr4 : (r.size : Int) - 1 ≤ (r.size : Int) := by omega
    have hr5 : (0 : Int) ≤ (r.size : Int) - 1 := by omega
    have HN := Lib.hid hn
    have HRS := Lib.hid hrs
    have hr6 : r.size ≤ 4611686018427387904 := by omega
    clear hn h2 hrs
    go_wp2
    go_ret
    exact ⟨by rw [HC.out, HN.out]; simp [HRS.out], rfl⟩
  · refine (number_yes r _ hn).mono ?_
    rintro e w2 ⟨rfl, rfl⟩
    have HN := Lib.hid hn
    clear hn h2
    go_wp2
    go_ret
    exact ⟨by rw [HC.out, HN.out]; rfl, rfl⟩
end Go.Proofs.YthcjjjpcjjondaaGreatDoor

/- A method's type as a text: what desc.Method computes. -/
namespace Go.Proofs.YthcjjjpcjjondaaGreatDoor
open Go.RowKit

theorem info_string : (Tryz.prog.info? 9).map (fun i => (i.zero, i.size, i.bytes)) = some (some (.string ⟨#[]⟩), 1, 16) := by kernel_rfl
section
variable {ops : Array Oper} {rest : List Oper} {o : Oper} {a : Act} {Q : Exit → Act → World → Prop}
/-- append(v, y) at []string. -/
theorem append_str {w0 W : World} (base : Nat) (hgd : o.guard = none) (s x : Operand)
    (ho : o.op = .call { callee := .builtin .append, args := #[s, x], argTypes := #[24, 24] })
    (v : Value) (xs : List Str) (y : Str) (hs : a.eval s = v) (hx : a.eval x = .slice (some ⟨W.heap.size, 0, none⟩) 1 1)
    (HO : W.ownsRow base 9 1 v xs.length (strCells xs)) (HB : Below base w0 W) (hbase : base ≤ W.heap.size) (hl : xs.length + 1 ≤ 8796093022208)
    (h : ∀ v1 w1, w1.ownsRow base 9 1 v1 (xs ++ [y]).length (strCells (xs ++ [y])) → Below base w0 w1 → W.grownBy w1 v.ownBlock → (v1.ownBlock = v.ownBlock ∨ ∃ b, v1.ownBlock = some b ∧ W.heap.size ≤ b) → wpList Tryz.prog ops Q rest (a.put o.dst v1) w1) :
    wpList Tryz.prog ops Q (o :: rest) a (W.alloc (.cells #[.string y] 9)) := by
  refine append_elem base hgd s x 24 9 (.string ⟨#[]⟩) 1 16 ho Tryz.underlying24 info_string rfl (by decide) (by decide) v xs.length (strCells xs) #[.string y] rfl hs hx (by simp [Value.oneCell']) HO HB hbase (by omega) ?_
  intro v1 w1 h1 h2 h3 h4
  refine h v1 w1 ?_ h2 h3 h4
  have e : strCells (xs ++ [y]) = strCells xs ++ [.string y] := by simp [strCells]
  rw [e, List.length_append]
  exact h1
end

def strLen : Value → Nat | .string s => s.size | _ => 0
def boolN : Value → Nat | .bool true => 1 | _ => 0

/-- What is left to do of an argument list: done ones, the rest. -/
def ArgsLeft (fin : Option (List Str × List UInt8)) (done : List Str) (rest : Str) (is : Bool) : Prop :=
  if is then ∃ k, rest.size < k ∧ fin = (argsFrom k (bytes rest)).map (fun p => (done ++ p.1, p.2)) else fin = none

theorem argsLeft_step {fin : Option (List Str × List UInt8)} {done : List Str} {rest : Str} (h : ArgsLeft fin done rest true) (h1 : (bytes rest).head? ≠ some 41) :
    (cutLen (bytes rest) = none → fin = none) ∧ ∀ n, cutLen (bytes rest) = some n → ArgsLeft fin (done ++ [rest.extract 0 n]) (rest.extract n rest.size) true := by
  unfold ArgsLeft at h
  simp only [if_true] at h
  obtain ⟨k, hk, hf⟩ := h
  cases k with
  | zero => omega
  | succ k =>
    rw [argsFrom, if_neg h1] at hf
    refine ⟨fun hn => by rw [hf, hn]; rfl, fun n hn => ?_⟩
    have hc := cutLen_le hn
    rw [bytes_length] at hc
    unfold ArgsLeft
    simp only [if_true]
    refine ⟨k, ?_, ?_⟩
    · rw [← bytes_length, bytes_extract_end, List.length_drop, bytes_length]; omega
    · rw [hf, hn]
      simp only [bytes_extract_end]
      have e : mkS ((bytes rest).take n) = rest.extract 0 n := by
        apply bytes_inj; rw [bytes_mkS, bytes_extract]; simp
      cases argsFrom k ((bytes rest).drop n) with
      | none => simp
      | some p => simp [e]
theorem argsLeft_end {fin : Option (List Str × List UInt8)} {done : List Str} {rest : Str} (h : ArgsLeft fin done rest true) (h1 : (bytes rest).head? = some 41) : fin = some (done, bytes rest) := by
  unfold ArgsLeft at h
  simp only [if_true] at h
  obtain ⟨k, hk, hf⟩ := h
  cases k with
  | zero => omega
  | succ k =>
    rw [argsFrom, if_pos h1] at hf
    simpa using hf
theorem hasPrefix_one (s : Str) (c : UInt8) : Lib.hasPrefix s.data.toList [c] = decide ((bytes s).head? = some c) := by
  unfold Lib.hasPrefix bytes
  cases s.data.toList with
  | nil => simp
  | cons a l =>
    by_cases h : a = c
    · subst h; simp [List.isPrefixOf]
    · have h' : ¬ c = a := fun e => h e.symm
      simp [List.isPrefixOf, h, h']

def MethPost (s : Str) (w : World) (e : Ending) (w' : World) : Prop :=
  (match methodOf s with
    | none => e = .returned (.tuple #[.slice none 0 0, .string ⟨#[]⟩, errV 1])
    | some (args, gives) => ∃ v, e = .returned (.tuple #[v, .string gives, errV 0]) ∧ w'.ownsRow w.heap.size 9 1 v args.length (strCells args))
  ∧ Below w.heap.size w w'
def methEnd (fin : Option (List Str × List UInt8)) : Option (List Str × Str) := match fin with
    | none => none
    | some (args, r) => if args.length ≤ 5 ∧ (r.drop 1 = [86] ∨ isType (mkS (r.drop 1)) = true) then some (args, mkS (r.drop 1)) else none
theorem methodOf_eq (s : Str) : methodOf s = methEnd (if (bytes s).head? = some 40 then argsFrom ((bytes s).length + 1) ((bytes s).drop 1) else none) := by
  unfold methodOf methodL
  by_cases h1 : (bytes s).head? = some 40
  · rw [if_pos h1, if_pos h1]
    unfold methEnd
    cases argsFrom ((bytes s).length + 1) ((bytes s).drop 1) with
    | none => rfl
    | some p =>
      obtain ⟨args, r⟩ := p
      by_cases h2 : args.length ≤ 5 ∧ (r.drop 1 = [86] ∨ isType (mkS (r.drop 1)) = true)
      · simp only [if_pos h2, Option.map_some]
      · simp only [if_neg h2, Option.map_none]
  · rw [if_neg h1, if_neg h1]; rfl
theorem methPost_bad {s : Str} {w w' : World} (h : methodOf s = none) (hb : Below w.heap.size w w') : MethPost s w (.returned (.tuple #[.slice none 0 0, .string ⟨#[]⟩, errV 1])) w' := by
  unfold MethPost; rw [h]; exact ⟨rfl, hb⟩
theorem methPost_good {s : Str} {w w' : World} {args : List Str} {gives : Str} {v : Value} (h : methodOf s = some (args, gives)) (hv : w'.ownsRow w.heap.size 9 1 v args.length (strCells args)) (hb : Below w.heap.size w w') :
    MethPost s w (.returned (.tuple #[v, .string gives, errV 0])) w' := by
  unfold MethPost; rw [h]; exact ⟨⟨v, rfl, hv⟩, hb⟩
theorem args_start (s : Str) : ArgsLeft (if (bytes s).head? = some 40 then argsFrom ((bytes s).length + 1) ((bytes s).drop 1) else none) [] ⟨(Lib.trimPrefix s.data.toList [40]).toArray⟩ (Lib.hasPrefix s.data.toList [40]) := by
  have hp := hasPrefix_one s 40
  unfold Lib.trimPrefix
  rw [hp]
  by_cases h1 : (bytes s).head? = some 40
  · rw [decide_eq_true h1]
    simp only [if_true, if_pos h1]
    unfold ArgsLeft
    simp only [if_true]
    refine ⟨(bytes s).length + 1, ?_, ?_⟩
    · show ((bytes s).drop 1).length < _
      rw [List.length_drop]; omega
    · show _ = (argsFrom _ ((bytes s).drop 1)).map _
      cases argsFrom ((bytes s).length + 1) ((bytes s).drop 1) with
      | none => rfl
      | some p => rfl
  · rw [decide_eq_false h1]
    unfold ArgsLeft
    simp only [Bool.false_eq_true, if_false, if_neg h1]
theorem trimPrefix_size (s : Str) (p : List UInt8) : (⟨(Lib.trimPrefix s.data.toList p).toArray⟩ : Str).size ≤ s.size := by
  have h1 : s.data.toList.length = s.size := rfl
  show (Lib.trimPrefix s.data.toList p).length ≤ _
  unfold Lib.trimPrefix
  split
  · rw [List.length_drop]; omega
  · exact Nat.le_of_eq h1

set_option maxRecDepth 100000 in
set_option maxHeartbeats 1000000 in
theorem method_any (s : Str) (w : World) (hs : s.size ≤ 1099511627776) :
    Calls Tryz.prog 27 #[.string s] w (MethPost s w) := by
  have hfin := methodOf_eq s
  have hst := args_start s
  have hsz := trimPrefix_size s [40]
  have HFIN := Lib.hid hfin
  generalize (if (bytes s).head? = some 40 then argsFrom ((bytes s).length + 1) ((bytes s).drop 1) else none) = fin at *
  clear hfin
  go_enter Tryz.func27, Tryz.ntmps27
  go_wp2_with fail
  refine (Tryz.strings_CutPrefix s ⟨#[40]⟩ _).mono ?_
  rintro e w1 ⟨rfl, rfl⟩
  go_upto_region 2 with (fail)
  generalize (⟨(Lib.trimPrefix s.data.toList [40]).toArray⟩ : Str) = r0 at *
  generalize Lib.hasPrefix s.data.toList [40] = b0 at *
  have hown0 := own_nil w1 w1.heap.size 9 1
  go_wp2
  go_loopw [5, 6, 7] (fun r b v wr => ∃ (rest : Str) (is : Bool) (done : List Str), r = .string rest ∧ b = .bool is ∧ wr.ownsRow w1.heap.size 9 1 v done.length (strCells done) ∧ Below w1.heap.size w1 wr ∧ Hid (ArgsLeft fin done rest is) ∧ rest.size + done.length ≤ 1099511627776) (fun r b _ _ => strLen r + boolN b)
  case atStart => exact ⟨r0, b0, [], rfl, rfl, hown0, Below.refl _ _, hst, by simp; omega⟩
  case round =>
    obtain ⟨rest, is, done, rfl, rfl, hown, hb, HL, hlen⟩ := hrel
    clear hown0 hst
    cases is with
    | false =>
      have hf : fin = none := by have := HL.out; unfold ArgsLeft at this; simpa using this
      have HM : Hid (methodOf s = none) := by apply Lib.hid; rw [HFIN.out, hf]; rfl
      clear hf HFIN HL
      go_wp2_with fail
      refine (Tryz.strings_TrimPrefix rest ⟨#[41]⟩ _).mono ?_
      rintro e w2 ⟨rfl, rfl⟩
      go_wp2
      go_ret3
      exact methPost_bad HM.out hb
    | true =>
      have hp := hasPrefix_one rest 41
      go_wp2_with fail
      refine (Tryz.strings_HasPrefix rest ⟨#[41]⟩ _).mono ?_
      rintro e w2 ⟨rfl, rfl⟩
      by_cases h1 : (bytes rest).head? = some 41
      · rw [decide_eq_true h1] at hp
        rw [hp]
        have hf := argsLeft_end HL.out h1
        have HM := HFIN.out
        rw [hf] at HM
        replace HM := Lib.hid HM
        clear hf HFIN HL hp
        go_wp2_with fail
        refine (Tryz.strings_TrimPrefix rest ⟨#[41]⟩ _).mono ?_
        rintro e w3 ⟨rfl, rfl⟩
        go_upto_region 9 with (fail)
        have htp : bytes (⟨(Lib.trimPrefix rest.data.toList [41]).toArray⟩ : Str) = (bytes rest).drop 1 := by
          show Lib.trimPrefix rest.data.toList [41] = _
          unfold Lib.trimPrefix
          rw [hasPrefix_one, decide_eq_true h1]; rfl
        have hgs := trimPrefix_size rest [41]
        generalize (⟨(Lib.trimPrefix rest.data.toList [41]).toArray⟩ : Str) = gives at *
        have HM2 : Hid (methodOf s = if done.length ≤ 5 ∧ (bytes gives = [86] ∨ isType gives = true) then some (done, gives) else none) := by
          apply Lib.hid
          rw [HM.out]
          unfold methEnd
          simp only []
          rw [← htp, mkS_bytes]
        clear HM htp h1
        obtain ⟨A, cap, he, hcap⟩ : ∃ A cap, u7 = .slice A done.length cap ∧ done.length ≤ cap := by
          obtain ⟨A, cap, h1, h2, _⟩ := (own_strs hown).form
          exact ⟨A, cap, h1, h2⟩
        rw [he]
        have hu := Lib.hid he
        clear he
        by_cases h5 : done.length ≤ 5
        · have h5' : ¬ (5 : Int) < (done.length : Int) := by omega
          by_cases hV : bytes gives = [86]
          · have hV' : gives.toList = [86] := by rw [Lib.toList_data]; exact hV
            have HM := HM2.out
            rw [if_pos ⟨h5, .inl hV⟩] at HM
            replace HM := Lib.hid HM
            clear HM2 hV
            go_wp2
            go_ret3
            exact methPost_good HM.out (by rw [← hu.out]; exact hown) hb
          · have hV' : (gives.toList == [86]) = false := by rw [Lib.toList_data]; simpa [bytes] using hV
            have hV2 : ¬ gives.toList = [86] := by rw [Lib.toList_data]; exact hV
            by_cases hT : isType gives = true
            · have HM := HM2.out
              rw [if_pos ⟨h5, .inr hT⟩] at HM
              replace HM := Lib.hid HM
              have HE : Hid (descErr gives = 0) := by apply Lib.hid; unfold descErr; rw [if_pos hT]
              clear HM2 hV hT
              go_wp2_with fail
              refine (descCheck gives _ (by omega)).mono ?_
              rintro e w4 ⟨rfl, hb4⟩
              rw [HE.out, errV_0]
              go_wp2
              go_ret3
              exact methPost_good HM.out (by rw [← hu.out]; exact own_below hown hb4) (hb.trans (hb4.mono hb.size))
            · have HM := HM2.out
              rw [if_neg (by rintro ⟨_, h | h⟩ <;> contradiction)] at HM
              replace HM := Lib.hid HM
              have HE : Hid (descErr gives = 1) := by apply Lib.hid; unfold descErr; rw [if_neg hT]
              clear HM2 hV hT
              go_wp2_with fail
              refine (descCheck gives _ (by omega)).mono ?_
              rintro e w4 ⟨rfl, hb4⟩
              rw [HE.out, errV_ne (by decide)]
              go_wp2
              go_ret3
              exact methPost_bad HM.out (hb.trans (hb4.mono hb.size))
        · have h5' : (5 : Int) < (done.length : Int) := by omega
          have HM := HM2.out
          rw [if_neg (by rintro ⟨h, _⟩; exact h5 h)] at HM
          replace HM := Lib.hid HM
          clear HM2 h5
          go_wp2
          go_ret3
          exact methPost_bad HM.out hb
      · rw [decide_eq_false h1] at hp
        rw [hp]
        obtain ⟨s1, s2⟩ := argsLeft_step HL.out h1
        have S1 := Lib.hid s1
        have S2 := Lib.hid s2
        clear s1 s2 hp
        go_wp2_with fail
        refine (cut_any rest _ (by omega)).mono ?_
        rintro e w3 ⟨rfl, hb3⟩
        unfold cutR
        cases hc : cutLen (bytes rest) with
        | none =>
          have hf := S1.out hc
          have HA : Hid (ArgsLeft fin done rest false) := by apply Lib.hid; unfold ArgsLeft; simpa using hf
          simp only []
          have hown3 := own_below hown (hb3)
          have hB3 : Below w1.heap.size w1 w3 := hb.trans (hb3.mono hb.size)
          clear hc hown hb
          go_wp2
          go_roundw
          case rel => exact ⟨rest, false, done, rfl, rfl, hown3, hB3, HA, hlen⟩
          case measure => simp [strLen, boolN]
        | some n =>
          have hc2 := cutLen_le hc
          rw [bytes_length] at hc2
          have HA := Lib.hid (S2.out n hc)
          simp only []
          clear hc
          have hown3 := own_below hown (hb3)
          have hB3 : Below w1.heap.size w1 w3 := hb.trans (hb3.mono hb.size)
          have hsz3 : w1.heap.size ≤ w3.heap.size := hB3.size
          clear hown hb
          go_wp2_with (at_builtin; go_loud (refine append_str w1.heap.size rfl _ _ rfl u7 done _ rfl rfl hown3 hB3 hsz3 ?hl ?_))
          case hl => omega
          intro v1 w4 hown4 hb4 hg4 _
          go_wp2
          go_roundw
          case rel => exact ⟨rest.extract n rest.size, true, done ++ [rest.extract 0 n], rfl, rfl, (by rw [List.length_append]; exact hown4), hb4, HA, by
            rw [← bytes_length, bytes_extract_end, List.length_drop, bytes_length, List.length_append, List.length_singleton]; omega⟩
          case measure =>
            have e : (rest.extract n rest.size).size = rest.size - n := by rw [← bytes_length, bytes_extract_end, List.length_drop, bytes_length]
            show (rest.extract n rest.size).size + 1 < rest.size + 1
            rw [e]; omega
end Go.Proofs.YthcjjjpcjjondaaGreatDoor
