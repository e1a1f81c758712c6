/-
  Which names a pattern matches, in plain Lean: by definition; from the front, place by place. No program in sight.
  Patterns: contracts of fits (of each kind of part), of the marks behind stars, of Match.
  The document's patterns (inquestref13): contracts of fits, of Match.
  What holds of an entry: of a term, of a question, of its normal form. The normal form holds just if the question does. No walk.
  What holds: contracts of the comparisons, of has, of terms.
  What holds: contracts of terms, of the program, of the document.
  What holds: contract of the document's terms.
  What holds: contracts of inquestref25.Holds, at a question's place of its parts; of norm.Holds, at the parts of a tree without nots.
  What holds: contract of norm.Holds at the parts of a tree without nots.
-/
import Derived.Test.YtnnjcedlomfhoaaGreatDoorHA
import Derived.Test.YtnnjcedlomfhoaaGreatDoorHGlobE
import Derived.Test.YtnnjcedlomfhoaaGreatDoorHReadLaw
import Derived.Test.YtnnjcedlomfhoaaGreatDoorHRGlobC
import Derived.Test.YtnnjcedlomfhoaaGreatDoorHRErr
import Derived.Deep.RegionHeld3
import Derived.Lib.FieldsU
namespace Go.Proofs.YtnnjcedlomfhoaaGreatDoor
set_option linter.unusedVariables false
def isStar : Prt → Bool
  | .stars _ => true
  | _ => false
/-- Is a rune in a class? -/
def inR (l : List (Int × Int)) (c : Int) : Bool := l.any fun x => decide (x.1 ≤ c) && decide (c ≤ x.2)
/-- Is a rune what a part tells? -/
def fitP (p : Prt) (c : Int) : Bool :=
  match p with
  | .self r => r == c
  | .one => !(c == 47)
  | .stars deep => deep || !(c == 47)
  | .cls no l => (inR l c != no) && !(c == 47)
/-- Does a name match? -/
def matchP : List Prt → List Int → Bool
  | [], l => l.isEmpty
  | p :: ps, [] => isStar p && matchP ps []
  | p :: ps, c :: l => if isStar p = true then matchP ps (c :: l) || (fitP p c && matchP (p :: ps) l) else fitP p c && matchP ps l
termination_by ps l => ps.length + l.length
def openTo (ps : List Prt) (al : List Bool) : Nat → List Bool
  | 0 => al
  | i + 1 => if isStar (ps.getD i .one) = true ∧ (openTo ps al i).getD i false = true then (openTo ps al i).set (i + 1) true else openTo ps al i
def openA (ps : List Prt) (al : List Bool) : List Bool := openTo ps al ps.length
def nextTo (ps : List Prt) (al : List Bool) (c : Int) : Nat → List Bool
  | 0 => List.replicate al.length false
  | i + 1 => if al.getD i false = true ∧ fitP (ps.getD i .one) c = true then (nextTo ps al c i).set (if isStar (ps.getD i .one) = true then i else i + 1) true else nextTo ps al c i
def nextA (ps : List Prt) (al : List Bool) (c : Int) : List Bool := nextTo ps al c ps.length
def startA (ps : List Prt) : List Bool := (List.replicate (ps.length + 1) false).set 0 true
def runA (ps : List Prt) (al : List Bool) : List Int → List Bool
  | [] => al
  | c :: l => runA ps (openA ps (nextA ps al c)) l
def matchF (ps : List Prt) (l : List Int) : Bool := (runA ps (openA ps (startA ps)) l).getD ps.length false
theorem openTo_len (ps : List Prt) (al : List Bool) : ∀ i, (openTo ps al i).length = al.length
  | 0 => rfl
  | i + 1 => by
    rw [openTo]
    split
    · rw [List.length_set, openTo_len]
    · exact openTo_len ps al i
theorem nextTo_len (ps : List Prt) (al : List Bool) (c : Int) : ∀ i, (nextTo ps al c i).length = al.length
  | 0 => by simp [nextTo]
  | i + 1 => by
    rw [nextTo]
    split
    · rw [List.length_set, nextTo_len]
    · exact nextTo_len ps al c i
theorem set_getD (l : List Bool) (i j : Nat) (hi : i < l.length) : (l.set i true).getD j false = (decide (j = i) || l.getD j false) := by
  rw [List.getD_eq_getElem?_getD, List.getD_eq_getElem?_getD, List.getElem?_set]
  by_cases h : i = j
  · subst h; simp [hi]
  · rw [if_neg h, decide_eq_false (fun e => h e.symm)]; simp
/-- Is the rest matched from some place that is reached? -/
def accA (ps : List Prt) (al : List Bool) (l : List Int) : Prop := ∃ i, i ≤ ps.length ∧ al.getD i false = true ∧ matchP (ps.drop i) l = true
theorem drop_getD (ps : List Prt) (i : Nat) (h : i < ps.length) : ps.drop i = ps.getD i .one :: ps.drop (i + 1) := by
  rw [List.drop_eq_getElem_cons h, List.getD_eq_getElem?_getD, List.getElem?_eq_getElem h]; rfl
theorem match_skip {p : Prt} {ps : List Prt} {l : List Int} (hp : isStar p = true) (h : matchP ps l = true) : matchP (p :: ps) l = true := by
  cases l with
  | nil => rw [matchP, hp, h]; rfl
  | cons c l => rw [matchP, if_pos hp, h]; rfl
theorem openTo_acc (ps : List Prt) (al : List Bool) (l : List Int) (hl : al.length = ps.length + 1) : ∀ i, i ≤ ps.length → (accA ps (openTo ps al i) l ↔ accA ps al l)
  | 0, _ => Iff.rfl
  | i + 1, hi => by
    rw [← openTo_acc ps al l hl i (by omega), openTo]
    split
    · rename_i h
      constructor
      · rintro ⟨k, h1, h2, h3⟩
        rw [set_getD _ _ _ (by rw [openTo_len]; omega)] at h2
        by_cases hk : k = i + 1
        · subst hk
          exact ⟨i, by omega, h.2, by rw [drop_getD ps i (by omega)]; exact match_skip h.1 h3⟩
        · rw [decide_eq_false hk, Bool.false_or] at h2
          exact ⟨k, h1, h2, h3⟩
      · rintro ⟨k, h1, h2, h3⟩
        exact ⟨k, h1, by rw [set_getD _ _ _ (by rw [openTo_len]; omega), h2]; simp, h3⟩
    · exact Iff.rfl
/-- Behind stars that are reached the place is reached, too. -/
def closedA (ps : List Prt) (al : List Bool) (n : Nat) : Prop := ∀ j, j < n → isStar (ps.getD j .one) = true → al.getD j false = true → al.getD (j + 1) false = true
theorem openTo_closed (ps : List Prt) (al : List Bool) (hl : al.length = ps.length + 1) : ∀ i, i ≤ ps.length → closedA ps (openTo ps al i) i
  | 0, _ => fun j h => absurd h (by omega)
  | i + 1, hi => by
    have ih := openTo_closed ps al hl i (by omega)
    intro j hj hs ha
    rw [openTo] at ha ⊢
    split at ha
    · rename_i h
      rw [if_pos h]
      rw [set_getD _ _ _ (by rw [openTo_len]; omega)] at ha ⊢
      by_cases h1 : j = i
      · subst h1; simp
      · rw [decide_eq_false (show ¬ j = i + 1 by omega), Bool.false_or] at ha
        rw [ih j (by omega) hs ha]; simp
    · rename_i h
      rw [if_neg h]
      by_cases h1 : j = i
      · subst h1
        exact absurd ⟨hs, ha⟩ h
      · exact ih j (by omega) hs ha
theorem nextTo_iff (ps : List Prt) (al : List Bool) (c : Int) (hl : al.length = ps.length + 1) : ∀ i, i ≤ ps.length → ∀ k, (nextTo ps al c i).getD k false = true ↔
    ∃ j, j < i ∧ al.getD j false = true ∧ fitP (ps.getD j .one) c = true ∧ k = if isStar (ps.getD j .one) = true then j else j + 1
  | 0, _, k => by
    constructor
    · intro h
      rw [nextTo, List.getD_eq_getElem?_getD, List.getElem?_replicate] at h
      split at h <;> simp at h
    · rintro ⟨j, hj, _⟩; omega
  | i + 1, hi, k => by
    have ih := nextTo_iff ps al c hl i (by omega) k
    rw [nextTo]
    split
    · rename_i h
      have hb : (if isStar (ps.getD i .one) = true then i else i + 1) < (nextTo ps al c i).length := by rw [nextTo_len]; split <;> omega
      rw [set_getD _ _ _ hb, Bool.or_eq_true, decide_eq_true_eq, ih]
      constructor
      · rintro (e | ⟨j, h1, h2⟩)
        · exact ⟨i, by omega, h.1, h.2, e⟩
        · exact ⟨j, by omega, h2⟩
      · rintro ⟨j, h1, h2, h3, h4⟩
        by_cases e : j = i
        · subst e; exact .inl h4
        · exact .inr ⟨j, by omega, h2, h3, h4⟩
    · rename_i h
      rw [ih]
      constructor
      · rintro ⟨j, h1, h2⟩
        exact ⟨j, by omega, h2⟩
      · rintro ⟨j, h1, h2, h3, h4⟩
        by_cases e : j = i
        · subst e; exact absurd ⟨h2, h3⟩ h
        · exact ⟨j, by omega, h2, h3, h4⟩
theorem next_acc (ps : List Prt) (al : List Bool) (c : Int) (l : List Int) (hl : al.length = ps.length + 1) (hc : closedA ps al ps.length) : accA ps (nextA ps al c) l ↔ accA ps al (c :: l) := by
  constructor
  · rintro ⟨k, h1, h2, h3⟩
    obtain ⟨j, j1, j2, j3, j4⟩ := (nextTo_iff ps al c hl ps.length (Nat.le_refl _) k).1 h2
    refine ⟨j, by omega, j2, ?_⟩
    rw [drop_getD ps j j1, matchP]
    split
    · rename_i hs
      rw [if_pos hs] at j4
      subst j4
      rw [j3, ← drop_getD ps k j1, h3]; simp
    · rename_i hs
      rw [if_neg hs] at j4
      subst j4
      rw [j3, h3]; rfl
  · rintro ⟨i, h1, h2, h3⟩
    -- from a place that is reached, forward over stars
    have key : ∀ (d i : Nat), ps.length - i = d → i ≤ ps.length → al.getD i false = true → matchP (ps.drop i) (c :: l) = true → accA ps (nextA ps al c) l := by
      intro d
      induction d with
      | zero =>
        intro i hd hi ha hm
        have e : i = ps.length := by omega
        subst e
        rw [List.drop_length, matchP] at hm
        simp at hm
      | succ d ih =>
        intro i hd hi ha hm
        have hip : i < ps.length := by omega
        rw [drop_getD ps i hip, matchP] at hm
        split at hm
        · rename_i hs
          rw [Bool.or_eq_true] at hm
          rcases hm with hm | hm
          · exact ih (i + 1) (by omega) (by omega) (hc i hip hs ha) hm
          · rw [Bool.and_eq_true] at hm
            refine ⟨i, hi, ?_, by rw [drop_getD ps i hip]; exact hm.2⟩
            exact (nextTo_iff ps al c hl ps.length (Nat.le_refl _) i).2 ⟨i, hip, ha, hm.1, by rw [if_pos hs]⟩
        · rename_i hs
          rw [Bool.and_eq_true] at hm
          refine ⟨i + 1, by omega, ?_, hm.2⟩
          exact (nextTo_iff ps al c hl ps.length (Nat.le_refl _) (i + 1)).2 ⟨i, hip, ha, hm.1, by rw [if_neg hs]⟩
    exact key _ i rfl h1 h2 h3
theorem end_acc (ps : List Prt) (al : List Bool) (hl : al.length = ps.length + 1) (hc : closedA ps al ps.length) : accA ps al [] ↔ al.getD ps.length false = true := by
  constructor
  · rintro ⟨i, h1, h2, h3⟩
    have key : ∀ (d i : Nat), ps.length - i = d → i ≤ ps.length → al.getD i false = true → matchP (ps.drop i) [] = true → al.getD ps.length false = true := by
      intro d
      induction d with
      | zero =>
        intro i hd hi ha hm
        have e : i = ps.length := by omega
        subst e; exact ha
      | succ d ih =>
        intro i hd hi ha hm
        have hip : i < ps.length := by omega
        rw [drop_getD ps i hip, matchP, Bool.and_eq_true] at hm
        exact ih (i + 1) (by omega) (by omega) (hc i hip hm.1 ha) hm.2
    exact key _ i rfl h1 h2 h3
  · intro h
    exact ⟨ps.length, Nat.le_refl _, h, by rw [List.drop_length, matchP]; rfl⟩
theorem run_acc (ps : List Prt) : ∀ (l : List Int) (al : List Bool), al.length = ps.length + 1 → closedA ps al ps.length → ((runA ps al l).getD ps.length false = true ↔ accA ps al l)
  | [], al, hl, hc => (end_acc ps al hl hc).symm
  | c :: l, al, hl, hc => by
    have h1 : (nextA ps al c).length = ps.length + 1 := by rw [nextA, nextTo_len, hl]
    have h2 : (openA ps (nextA ps al c)).length = ps.length + 1 := by rw [openA, openTo_len, h1]
    rw [runA, run_acc ps l _ h2 (openTo_closed ps _ h1 _ (Nat.le_refl _)), openA, openTo_acc ps _ l h1 _ (Nat.le_refl _), next_acc ps al c l hl hc]
theorem matchF_eq (ps : List Prt) (l : List Int) : matchF ps l = matchP ps l := by
  have h1 : (startA ps).length = ps.length + 1 := by simp [startA]
  have h2 : (openA ps (startA ps)).length = ps.length + 1 := by rw [openA, openTo_len, h1]
  have h3 : accA ps (startA ps) l ↔ matchP ps l = true := by
    constructor
    · rintro ⟨i, _, h4, h5⟩
      unfold startA at h4
      rw [set_getD _ _ _ (by simp)] at h4
      by_cases hi : i = 0
      · subst hi; simpa using h5
      · rw [decide_eq_false hi, Bool.false_or, List.getD_eq_getElem?_getD, List.getElem?_replicate] at h4
        split at h4 <;> simp at h4
    · intro h
      refine ⟨0, by omega, ?_, by simpa using h⟩
      unfold startA
      rw [set_getD _ _ _ (by simp)]; rfl
  rw [Bool.eq_iff_iff, matchF, run_acc ps l _ h2 (openTo_closed ps _ h1 _ (Nat.le_refl _)), openA, openTo_acc ps _ l h1 _ (Nat.le_refl _), h3]
end Go.Proofs.YtnnjcedlomfhoaaGreatDoor
namespace Go.Proofs.YtnnjcedlomfhoaaGreatDoor
open Go.RowKit
set_option linter.unusedVariables false
def bz (l : List Bool) : Array Value := (l.map Value.bool).toArray
theorem bz_at (l : List Bool) (k : Nat) (h : k < l.length) : (bz l)[k]? = some (.bool (l.getD k false)) := by
  unfold bz
  rw [List.getElem?_toArray, List.getElem?_map, List.getD_eq_getElem?_getD, List.getElem?_eq_getElem h]; rfl
theorem bz_set (l : List Bool) (k : Nat) (b : Bool) : (bz l).setIfInBounds k (.bool b) = bz (l.set k b) := by
  unfold bz
  rw [List.map_set]; simp
theorem bool_info' : (Tryz.prog.info? 4).map (fun i => (i.zero, i.size, i.bytes)) = some (some (.bool false), 1, 1) := by kernel_rfl
theorem make_bz (n : Nat) (hn : n ≤ 100000) (w : World) : (Instr.makeSlice 61 (.int .i64 (n : Int)) (.int .i64 (n : Int))).run Tryz.prog w = .ok (.slice (some ⟨w.heap.size, 0, none⟩) n n) (w.alloc (.cells (bz (List.replicate n false)) 4)) := by
  obtain ⟨i0, hi, hz0, hz1, hz2⟩ := info_parts bool_info'
  rw [run_make_rowN 61 4 i0 (.bool false) Tryz.underlying61 hi hz0 .i64 .i64 n n (Nat.le_refl _) (by rw [hz2]; omega) (by omega) w, hz1]
  have e : madeCells (Value.bool false).cells (n * 1) = bz (List.replicate n false) := by
    unfold madeCells bz
    apply Array.ext
    · simp
    · intro i h1 h2
      simp at h1
      simp [Value.cells, Nat.mod_one]
  rw [e]
theorem fself_any (w : World) (r c : Int) : Calls Tryz.prog 135 #[.int .i32 r, .int .i32 c] w fun e w' => e = .returned (.bool (fitP (.self r) c)) ∧ Below w.heap.size w w' := by
  go_enter Tryz.func135, Tryz.ntmps135
  go_wp2_with fail
  go_ret
  exact ⟨rfl, Below.refl _ _⟩
theorem fone_any (w : World) (c : Int) : Calls Tryz.prog 137 #[.agg #[], .int .i32 c] w fun e w' => e = .returned (.bool (fitP .one c)) ∧ Below w.heap.size w w' := by
  go_enter Tryz.func137, Tryz.ntmps137
  go_wp2_with fail
  go_ret
  exact ⟨rfl, (Below.refl _ _).alloc (Nat.le_refl _) _⟩
set_option maxRecDepth 100000 in
theorem fstars_any (w : World) (d : Bool) (c : Int) : Calls Tryz.prog 136 #[.agg #[.bool d], .int .i32 c] w fun e w' => e = .returned (.bool (fitP (.stars d) c)) ∧ Below w.heap.size w w' := by
  cases d
  all_goals
    go_enter Tryz.func136, Tryz.ntmps136
    go_wp2_with fail
    go_ret
    exact ⟨rfl, (Below.refl _ _).alloc (Nat.le_refl _) _⟩
theorem inR_take (l : List (Int × Int)) (c : Int) (k : Nat) (h : k < l.length) : inR (l.take (k + 1)) c = (inR (l.take k) c || (decide (l[k].1 ≤ c) && decide (c ≤ l[k].2))) := by
  rw [List.take_succ_eq_append_getElem h]
  unfold inR
  rw [List.any_append]
  simp
theorem addr_block (ad : Addr) (k : Nat) : (ad.add k).block = ad.block := by unfold Addr.add; split <;> rfl
theorem OR.at_ {w : World} {q : Nat} {v : Value} {l : List Int} (h : OR w q v l) : ∃ A c, v = .slice A l.length c ∧ l.length ≤ maxLen ∧ ∀ k (hk : k < l.length), ∃ ad, A = some ad ∧ ad.block < w.heap.size ∧ w.cell? (ad.add k) = some (.int .i32 l[k]) := by
  obtain ⟨A, c, hv, hR, h1, h2⟩ := h.form
  refine ⟨A, c, hv, by omega, fun k hk => ?_⟩
  obtain ⟨ad, u, e, hb, hx, hc⟩ := Reads.at_ hR hk
  unfold rv at hx
  rw [List.getElem?_map, List.getElem?_eq_getElem hk] at hx
  injection hx with hx
  subst hx
  exact ⟨ad, e, hb, hc⟩
set_option maxRecDepth 100000 in
set_option maxHeartbeats 4000000 in
theorem fcls_any (w : World) (base : Nat) (no : Bool) (l : List (Int × Int)) (vf vt : Value) (c : Int) (h1 : OR w base vf (l.map (·.1))) (h2 : OR w base vt (l.map (·.2))) :
    Calls Tryz.prog 138 #[.agg #[.bool no, vf, vt], .int .i32 c] w fun e w' => e = .returned (.bool (fitP (.cls no l) c)) ∧ Below w.heap.size w w' := by
  obtain ⟨A1, c1, rfl, hl1, hr1⟩ := h1.at_
  obtain ⟨A2, c2, rfl, hl2, hr2⟩ := h2.at_
  rw [List.length_map] at hl1 hl2 ⊢
  have hwr : Hid (∀ k : Nat, k < l.length → IntKind.i64.wrap ((k : Int) + 1) = (k : Int) + 1) := fun k hk => IntWalk.i64_in _ (by unfold maxLen at hl1; omega)
  clear h1 h2 hl1 hl2
  rw [List.length_map]
  obtain ⟨n, hn⟩ : ∃ n, n = l.length := ⟨_, rfl⟩
  rw [← hn]
  replace hn := hide hn
  have hr1' := hide hr1
  have hr2' := hide hr2
  clear hr1 hr2
  go_enter Tryz.func138, Tryz.ntmps138
  go_wp2_with fail
  have hB0 := hide (Blk.new w 188 #[.bool no, .slice A1 n c1, .slice A2 n c2])
  have hb0 := hide ((Below.refl w.heap.size w).alloc (Nat.le_refl _) (.cells #[.bool no, .slice A1 n c1, .slice A2 n c2] 188))
  obtain ⟨w0, hw0⟩ : ∃ x, x = w.alloc (.cells #[.bool no, .slice A1 n c1, .slice A2 n c2] 188) := ⟨_, rfl⟩
  rw [← hw0] at hB0 hb0 ⊢
  clear hw0
  go_loopw [5, 10] (fun v5 v10 wr => ∃ k : Nat, v10 = .int .i64 k ∧ k ≤ n ∧ v5 = .bool (inR (l.take k) c) ∧ w0 = wr) (fun _ v10 _ => n - (intOf v10).toNat)
  case atStart => exact ⟨0, rfl, by omega, rfl, rfl⟩
  case round =>
    obtain ⟨k, rfl, hk, rfl, rfl⟩ := hrel
    have p1 : w0.cell? ⟨w.heap.size, 1, none⟩ = some (.slice A1 n c1) := hB0.out.cell 1
    have p2 : w0.cell? ⟨w.heap.size, 2, none⟩ = some (.slice A2 n c2) := hB0.out.cell 2
    have p0 : w0.cell? ⟨w.heap.size, 0, none⟩ = some (.bool no) := hB0.out.cell 0
    by_cases h3 : k < n
    · have hkl : k < l.length := by have := hn.out; omega
      have h3' : (k : Int) < (n : Int) := by omega
      obtain ⟨ad, rfl, hab, q1⟩ := hr1'.out k (by rw [List.length_map]; exact hkl)
      obtain ⟨bd, rfl, hbb, q2⟩ := hr2'.out k (by rw [List.length_map]; exact hkl)
      rw [List.getElem_map] at q1 q2
      have q1' : w0.cell? (ad.add k) = some (.int .i32 l[k].1) := (hb0.out.cell (by rw [addr_block]; exact hab)).trans q1
      have q2' : w0.cell? (bd.add k) = some (.int .i32 l[k].2) := (hb0.out.cell (by rw [addr_block]; exact hbb)).trans q2
      have hw := hwr.out k hkl
      have hin := hide (inR_take l c k hkl)
      generalize l[k].1 = x at *
      generalize l[k].2 = y at *
      clear q1 q2
      generalize inR (l.take k) c = b at *
      cases b with
      | true =>
        go_wp2_with fail
        go_roundw
        case rel => exact ⟨k + 1, by go_num, by omega, by rw [hin.out]; rfl, by first | rfl | trivial⟩
        case measure => simp [intOf]; omega
      | false =>
        by_cases hx : x ≤ c
        · go_wp2_with fail
          go_roundw
          case rel => exact ⟨k + 1, by go_num, by omega, by rw [hin.out]; simp [hx], by first | rfl | trivial⟩
          case measure => simp [intOf]; omega
        · go_wp2_with fail
          go_roundw
          case rel => exact ⟨k + 1, by go_num, by omega, by rw [hin.out]; simp [hx], by first | rfl | trivial⟩
          case measure => simp [intOf]; omega
    · have h3' : ¬ (k : Int) < (n : Int) := by omega
      have htk : l.take k = l := List.take_of_length_le (by have := hn.out; omega)
      rw [htk]
      generalize hb : inR l c = b at *
      have hf : Hid (((b != no) && !(c == 47)) = fitP (.cls no l) c) := by rw [Hid, fitP, hb]
      clear hb
      cases b <;> cases no
      all_goals
        go_wp2_with fail
        go_ret
        exact ⟨by rw [← hf.out]; rfl, hb0.out⟩
theorem GlobAt.below {w w' : World} {g : Nat} {ps : List Prt} (h : GlobAt w g ps) (hb : Below w.heap.size w w') : GlobAt w' g ps := by
  obtain ⟨v, vs, h1, h2, h3⟩ := h
  exact ⟨v, vs, h1.below hb h1.lt, ownsRow_keep h2 (fun k _ hk => hb.block k hk), h3.keep fun q u l _ ho => ho.below hb (Nat.le_refl _)⟩
/-- A pattern in memory: its row's address, its parts. -/
theorem GlobAt.form {w : World} {g : Nat} {ps : List Prt} (h : GlobAt w g ps) : ∃ A c, w.cell? ⟨g, 0, none⟩ = some (.slice A ps.length c) ∧ g < w.heap.size ∧
    ∀ k (hk : k < ps.length), ∃ ad u, A = some ad ∧ ad.block < w.heap.size ∧ w.cell? (ad.add k) = some u ∧ PrtV w g u ps[k] := by
  obtain ⟨v, vs, h1, h2, h3⟩ := h
  have hl := h3.1
  have key : ∃ A c, v = .slice A vs.length c := by
    rcases h2.2 with ⟨e, h0⟩ | ⟨g', cap, cur, e, _⟩
    · exact ⟨none, 0, by rw [e]; simp at h0; rw [h0]; rfl⟩
    · exact ⟨_, _, e⟩
  obtain ⟨A, c, rfl⟩ := key
  have hR := Reads.of_own h2
  refine ⟨A, c, by rw [← hl]; exact h1.cell 0, h1.lt, fun k hk => ?_⟩
  obtain ⟨ad, u, e, hb, hx, hc⟩ := Reads.at_ hR (show k < vs.length by omega)
  exact ⟨ad, u, e, hb, hc, h3.2 k u _ hx (List.getElem?_eq_getElem hk)⟩
theorem globR_len : ∀ (f : Nat) (l : List Int) {ps : List Prt}, globR f l = some ps → ps.length ≤ l.length
  | 0, _, _, h => by cases h
  | f + 1, l, ps, h => by
    rw [globR] at h
    split at h
    · cases h; simp
    · cases hp : partR l with
      | none => rw [hp] at h; cases h
      | some y =>
        obtain ⟨p, r⟩ := y
        rw [hp] at h
        obtain ⟨x, hx, e⟩ := Option.map_eq_some_iff.1 h
        subst e
        have h1 := partR_len hp
        have h2 := globR_len f r hx
        simp; omega
theorem globP_len {s : List UInt8} {ps : List Prt} (h : globP s = some ps) : ps.length ≤ 100 := by
  unfold globP at h
  split at h
  · cases h
  · rename_i h0
    have h1 := globR_len _ _ h
    have h2 := runesG_len (str s)
    rw [str_size] at h2
    have : ¬ 100 < s.length := fun c => h0 (.inl c)
    omega
theorem openTo_succ_star (ps : List Prt) (al : List Bool) (i : Nat) (hi : i < ps.length) (d : Bool) (hp : ps[i] = .stars d) : openTo ps al (i + 1) = if (openTo ps al i).getD i false = true then (openTo ps al i).set (i + 1) true else openTo ps al i := by
  have e : ps.getD i .one = .stars d := by rw [List.getD_eq_getElem?_getD, List.getElem?_eq_getElem hi]; exact hp
  rw [openTo, e]
  simp [isStar]
theorem openTo_succ_other (ps : List Prt) (al : List Bool) (i : Nat) (hi : i < ps.length) (hp : isStar ps[i] = false) : openTo ps al (i + 1) = openTo ps al i := by
  have e : ps.getD i .one = ps[i] := by rw [List.getD_eq_getElem?_getD, List.getElem?_eq_getElem hi]; rfl
  rw [openTo, e, hp]
  simp
theorem prt_star {w : World} {base : Nat} {u : Value} {p : Prt} (h : PrtV w base u p) : (∃ d, p = .stars d ∧ u = .iface 166 (.agg #[.bool d])) ∨ (isStar p = false ∧ ∃ t x, u = .iface t x ∧ (t = 153 ∨ t = 174 ∨ t = 188)) := by
  cases p with
  | self c => exact .inr ⟨rfl, _, _, h, .inl rfl⟩
  | one => exact .inr ⟨rfl, _, _, h, .inr (.inl rfl)⟩
  | stars d => exact .inl ⟨d, rfl, h⟩
  | cls no l =>
    obtain ⟨vf, vt, e, h1, h2⟩ := h
    exact .inr ⟨rfl, _, _, e, .inr (.inr rfl)⟩
theorem as_star (d : Bool) (xT : TypeId) (w : World) : (Instr.typeAssert (.iface 166 (.agg #[.bool d])) xT 166 true).run Tryz.prog w = .ok (.tuple #[.agg #[.bool d], .bool true]) w := by
  first | kernel_rfl | simp [Instr.typeAssert, run_underlying Tryz.underlying166]
theorem as_self (x : Value) (xT : TypeId) (w : World) : (Instr.typeAssert (.iface 153 x) xT 166 true).run Tryz.prog w = .ok (.tuple #[.agg #[.bool false], .bool false]) w := by
  first | kernel_rfl | simp [Instr.typeAssert, run_underlying Tryz.underlying166]
theorem as_one (x : Value) (xT : TypeId) (w : World) : (Instr.typeAssert (.iface 174 x) xT 166 true).run Tryz.prog w = .ok (.tuple #[.agg #[.bool false], .bool false]) w := by
  first | kernel_rfl | simp [Instr.typeAssert, run_underlying Tryz.underlying166]
theorem as_cls (x : Value) (xT : TypeId) (w : World) : (Instr.typeAssert (.iface 188 x) xT 166 true).run Tryz.prog w = .ok (.tuple #[.agg #[.bool false], .bool false]) w := by
  first | kernel_rfl | simp [Instr.typeAssert, run_underlying Tryz.underlying166]
theorem add_bz {w : World} {q k n : Nat} {al : List Bool} (hB : Blk w q 4 (bz al)) (hk : k < al.length) : w.cell? ⟨q, k, none⟩ = some (.bool (al.getD k false)) := (hB.cell k).trans (bz_at al k hk)
set_option maxRecDepth 100000 in
set_option maxHeartbeats 4000000 in
theorem gopen_any (w w0 : World) (g : Nat) (ps : List Prt) (h : GlobAt w0 g ps) (hps : ps.length ≤ 100) (q n1 : Nat) (al : List Bool) (hB : Blk w q 4 (bz al)) (hl : al.length = ps.length + 1) (hn1 : n1 = ps.length + 1) (hb0 : Below w0.heap.size w0 w) (hq : w0.heap.size ≤ q) :
    Calls Tryz.prog 86 #[.pointer (some ⟨g, 0, none⟩), .slice (some ⟨q, 0, none⟩) n1 n1] w fun e w' => e = .returned (.tuple #[]) ∧ Blk w' q 4 (bz (openA ps al)) ∧ Below q w w' := by
  obtain ⟨A, c, q0, hgl, hel⟩ := (h.below hb0).form
  have hlow : Hid (∀ wr, Below q w wr → ∀ k (hk : k < ps.length), ∃ ad u, A = some ad ∧ ad.block < wr.heap.size ∧ wr.cell? (ad.add k) = some u ∧ PrtV wr g u ps[k]) := by
    intro wr hbr k hk
    have hw := hb0.trans (hbr.mono hq)
    obtain ⟨A', c', q0', -, hel'⟩ := (h.below hw).form
    obtain ⟨A0, c0, q00, hg0, -⟩ := h.form
    have e1 := (hb0.cell (p := ⟨g, 0, none⟩) hg0).trans q00
    have e2 := (hw.cell (p := ⟨g, 0, none⟩) hg0).trans q00
    rw [q0] at e1
    rw [q0'] at e2
    have e3 : A = A0 := by injection e1 with e1; injection e1
    have e4 : A' = A0 := by injection e2 with e2; injection e2
    subst e3 e4
    exact hel' k hk
  subst hn1
  obtain ⟨n, hn⟩ : ∃ n, n = ps.length := ⟨_, rfl⟩
  rw [← hn] at q0 hps hl ⊢
  have hnl : Hid (openA ps al = openTo ps al n) := by rw [Hid, openA, hn]
  replace hn := hide hn
  have hB' := hide hB
  replace hl := hide hl
  clear hB hel hb0
  go_enter Tryz.func86, Tryz.ntmps86
  go_wp2_with fail
  go_loopw [13] (fun v13 wr => ∃ k : Nat, v13 = .int .i64 k ∧ k ≤ n ∧ Blk wr q 4 (bz (openTo ps al k)) ∧ Below q w wr) (fun v13 _ => n - (intOf v13).toNat)
  case atStart => exact ⟨0, rfl, by omega, hB'.out, Below.refl _ _⟩
  case round =>
    obtain ⟨k, rfl, hk, hBk, hbl⟩ := hrel
    have hlk : (openTo ps al k).length = n + 1 := by rw [openTo_len, hl.out]
    by_cases h3 : k < n
    · have hkl : k < ps.length := by have := hn.out; omega
      have h3' : (k : Int) < (n : Int) := by omega
      obtain ⟨ad, u, e, hab, hc, hp⟩ := hlow.out wr hbl k hkl
      subst e
      have hqw := hBk.lt
      have hab2 : (ad.add k).block < wr.heap.size := by rw [addr_block]; exact hab
      have ck := add_bz (n := 0) hBk (k := k) (by omega)
      have fk1 := hBk.frozen (k + 1)
      obtain ⟨s1, ck1⟩ : ∃ s, wr.cell? ⟨q, k + 1, none⟩ = some s := ⟨_, add_bz (n := 0) hBk (k := k + 1) (by omega)⟩
      have hset := hide (hBk.set_ (k + 1) (.bool true))
      rw [bz_set] at hset
      have hB2 := hide hBk
      clear hBk
      rcases prt_star hp with ⟨d, hpd, rfl⟩ | ⟨hps, t, x, rfl, ht⟩
      · have ta := as_star d
        have hs := hide (openTo_succ_star ps al k hkl d hpd)
        cases ha : (openTo ps al k).getD k false with
        | true =>
          rw [ha] at ck hs
          rw [if_pos rfl] at hs
          clear ha hp hpd
          go_wp2_with fail
          go_roundw
          case rel => exact ⟨k + 1, by go_num, by omega, by rw [hs.out, ← bz_set]; exact (hB2.out.set_ _ _).alloc _, (below_set hbl (Nat.le_refl _) _).alloc (by simp; omega) _⟩
          case measure => simp [intOf]; omega
        | false =>
          rw [ha] at ck hs
          rw [if_neg Bool.false_ne_true] at hs
          clear ha hp hpd
          go_wp2_with fail
          go_roundw
          case rel => exact ⟨k + 1, by go_num, by omega, by rw [hs.out]; exact hB2.out.alloc _, hbl.alloc (Nat.le_of_lt hqw) _⟩
          case measure => simp [intOf]; omega
      · have hs := hide (openTo_succ_other ps al k hkl hps)
        have t1 := as_self x
        have t2 := as_one x
        have t3 := as_cls x
        rcases ht with rfl | rfl | rfl
        all_goals
          clear hp
          go_wp2_with fail
          go_roundw
          case rel => exact ⟨k + 1, by go_num, by omega, by rw [hs.out]; exact hB2.out.alloc _, hbl.alloc (Nat.le_of_lt hqw) _⟩
          case measure => simp [intOf]; omega
    · have h3' : ¬ (k : Int) < (n : Int) := by omega
      have e : k = n := by omega
      subst e
      go_wp2_with fail
      go_end0
      exact ⟨rfl, by rw [hnl.out]; exact hBk, hbl⟩
theorem nextTo_succ (ps : List Prt) (al : List Bool) (c : Int) (i : Nat) (hi : i < ps.length) : nextTo ps al c (i + 1) =
    if (al.getD i false && fitP ps[i] c) = true then (nextTo ps al c i).set (if isStar ps[i] = true then i else i + 1) true else nextTo ps al c i := by
  have e : ps.getD i .one = ps[i] := by rw [List.getD_eq_getElem?_getD, List.getElem?_eq_getElem hi]; rfl
  rw [nextTo, e]
  simp [Bool.and_eq_true]
/-- The runes of bytes, from a place on. -/
theorem runesD_next (f : Nat) (s : ByteArray) (pos : Nat) (h : pos < s.size) : runesD (f + 1) (s.data.toList.drop pos) = ((Utf8.decode s pos).1 : Int) :: runesD f (s.data.toList.drop (pos + (Utf8.decode s pos).2)) := by
  have hne : s.data.toList.drop pos ≠ [] := by
    intro e
    have := congrArg List.length e
    simp at this
    have h2 : s.data.size = s.size := rfl
    omega
  rw [runesD, if_neg hne, Lib.decodeL_drop, List.drop_drop]
theorem runesD_nil (f : Nat) : runesD f [] = [] := by cases f <;> simp [runesD]
set_option maxRecDepth 100000 in
set_option maxHeartbeats 800000 in
theorem gmatch_any (w : World) (g : Nat) (ps : List Prt) (h : GlobAt w g ps) (hps : ps.length ≤ 100) (s : ByteArray) (hs : s.size ≤ 1000) :
    Calls Tryz.prog 65 #[.pointer (some ⟨g, 0, none⟩), .string s] w fun e w' => e = .returned (.bool (matchF ps (runesG s))) ∧ Below w.heap.size w w' := by
  obtain ⟨A, c, q0, hgl, hel⟩ := h.form
  obtain ⟨R, hR⟩ : ∃ R, R = matchF ps (runesG s) := ⟨_, rfl⟩
  rw [← hR]
  have hR2 : R = (runA ps (openA ps (startA ps)) (runesD s.size (s.data.toList.drop 0))).getD ps.length false := by
    rw [hR, matchF, runesG_D, List.drop_zero]
  clear hR
  obtain ⟨n, hn⟩ : ∃ n, n = ps.length := ⟨_, rfl⟩
  rw [← hn] at q0 hps hR2
  have hps' : (n : Int) ≤ 100 := by omega
  have hmk := make_bz (n + 1) (by omega)
  rw [show ((n + 1 : Nat) : Int) = (n : Int) + 1 from by push_cast; rfl] at hmk
  have hs' : ¬ (1000 : Int) < (s.size : Int) := by omega
  have hst : Hid (startA ps = (List.replicate (n + 1) false).set 0 true) := by rw [Hid, startA, hn]
  replace hn := hide hn
  have hG := hide h
  replace hR2 := hide hR2
  clear h hel
  go_enter Tryz.func65, Tryz.ntmps65
  go_upto_region 4 with (fail)
  have hB1 := Blk.new w 4 (bz (List.replicate (n + 1) false))
  have hb1 := (Below.refl w.heap.size w).alloc (Nat.le_refl _) (.cells (bz (List.replicate (n + 1) false)) 4)
  obtain ⟨w1, hw1⟩ : ∃ x, x = w.alloc (.cells (bz (List.replicate (n + 1) false)) 4) := ⟨_, rfl⟩
  rw [← hw1] at hB1 hb1 ⊢
  have k0 := add_bz (n := 0) hB1 (k := 0) (by simp)
  have f0 := hB1.frozen 0
  have hB2 := hB1.set_ 0 (.bool true)
  rw [bz_set, ← hst.out] at hB2
  have hb2 := below_set hb1 (Nat.le_refl _) (i := 0) (.bool true)
  have hlst : (startA ps).length = ps.length + 1 := by simp [startA]
  have hop := hide (gopen_any _ w g ps hG.out (by rw [← hn.out]; exact hps) w.heap.size (n + 1) (startA ps) hB2 hlst (by rw [hn.out]) hb2 (Nat.le_refl _))
  clear hw1 hB1 hb1
  replace hb2 := hide hb2
  clear hB2
  go_wp2_with fail
  refine hop.out.mono ?_
  rintro e w3 ⟨rfl, hB3, hb3⟩
  have hbw3 := hide (hb2.out.trans hb3)
  have hlo : (openA ps (startA ps)).length = n + 1 := by rw [openA, openTo_len, hlst, hn.out]
  have hq3 := hB3.lt
  have hsz3 := hbw3.out.size
  clear hop hb3 hb2 k0 f0
  generalize openA ps (startA ps) = al0 at *
  have hB3' := hide hB3
  clear hB3
  go_wp2_with fail
  go_loopg [5] s.size (fun gf v5 wx => ∃ (pos q : Nat) (al : List Bool), v5 = .slice (some ⟨q, 0, none⟩) (n + 1) (n + 1) ∧ Blk wx q 4 (bz al) ∧ al.length = n + 1 ∧ wx.heap[w3.heap.size]? = some (.stringIter s pos) ∧ w.heap.size ≤ q ∧ Below w.heap.size w wx ∧
      R = (runA ps al (runesD gf (s.data.toList.drop pos))).getD n false ∧ s.size ≤ pos + gf ∧ pos ≤ s.size)
  case atStart => exact ⟨0, w.heap.size, al0, rfl, hB3'.out.alloc _, hlo, World.iter_heap w3 s 0, Nat.le_refl _, hbw3.out.alloc hsz3 _, hR2.out, by omega, Nat.zero_le _⟩
  case round =>
    clear hB3' hbw3 hR2 hlo
    obtain ⟨pos, q, al, rfl, hB, hla, hit, hq, hbw, hR, hfu, hps2⟩ := hrel
    by_cases hlt : pos < s.size
    · obtain ⟨g', rfl⟩ : ∃ g', gk = g' + 1 := ⟨gk - 1, by omega⟩
      have hnx : ∀ ty, (Instr.next (.pointer (some ⟨w3.heap.size, 0, none⟩)) true ty).run Tryz.prog wr = _ := fun ty => Lib.run_next_any_at wr w3.heap.size s pos ty hit hlt
      have hwn : pos + (Utf8.decode s pos).2 ≤ s.size := by
        have := Lib.decodeN_le_n' (s.size - pos) (s.get! pos).toNat (s.get! (pos + 1)).toNat (s.get! (pos + 2)).toNat (s.get! (pos + 3)).toNat (by omega)
        rw [← Lib.decode_at] at this
        omega
      have hwd := Lib.width_pos s pos
      rw [runesD_next g' s pos hlt] at hR
      obtain ⟨ch, hch⟩ : ∃ ch : Int, ch = ((Utf8.decode s pos).1 : Int) := ⟨_, rfl⟩
      obtain ⟨K, hK⟩ : ∃ K, (Utf8.decode s pos).2 = K := ⟨_, rfl⟩
      rw [← hch, hK] at hnx hR
      rw [hK] at hwn hwd
      have hitl : w3.heap.size < wr.heap.size := (Array.getElem?_eq_some_iff.1 hit).1
      have hne : q ≠ w3.heap.size := by
        rintro rfl
        unfold Blk at hB
        rw [hB] at hit
        cases hit
      have hit2 := Lib.iterAt_heap wr w3.heap.size s pos (pos + K) hit
      have hbw2 := Lib.below_iterAt hbw (k := w3.heap.size) hsz3 s (pos + K)
      have hB2 : Blk (wr.iterAt w3.heap.size s (pos + K)) q 4 (bz al) := (Lib.iterAt_other wr w3.heap.size q s (pos + K) hne).trans hB
      obtain ⟨W, hWd⟩ : ∃ W, wr.iterAt w3.heap.size s (pos + K) = W := ⟨_, rfl⟩
      rw [hWd] at hnx hit2 hbw2 hB2
      clear hWd hit hbw hB hch hne hitl
      have hqW := hB2.lt
      have hitW : w3.heap.size < W.heap.size := (Array.getElem?_eq_some_iff.1 hit2).1
      have hszW := hbw2.size
      have hBq := hide (hB2.alloc (.cells (bz (List.replicate (n + 1) false)) 4))
      have hit3 := hide ((Below.heap_alloc W (.cells (bz (List.replicate (n + 1) false)) 4) _ hitW).trans hit2)
      have hbw3 := hide (hbw2.alloc hszW (.cells (bz (List.replicate (n + 1) false)) 4))
      have hBn := hide (Blk.new W 4 (bz (List.replicate (n + 1) false)))
      have hg2 : W.cell? ⟨g, 0, none⟩ = some (.slice A n c) := (hbw2.cell hgl).trans q0
      replace hR := hide hR
      go_upto_region 10 with (fail)
      obtain ⟨W2, hW2⟩ : ∃ x, x = W.alloc (.cells (bz (List.replicate (n + 1) false)) 4) := ⟨_, rfl⟩
      rw [← hW2] at hBq hit3 hbw3 hBn ⊢
      have hgw2 : W2.cell? ⟨g, 0, none⟩ = some (.slice A n c) := (hbw3.out.cell hgl).trans q0
      have hW.heap.sizel : W.heap.size < W2.heap.size := hBn.out.lt
      clear hg2 hW2 hB2 hit2 hbw2 hnx
      go_wp2_with fail
      go_loopw [43] (fun v43 wi => ∃ k : Nat, v43 = .int .i64 k ∧ k ≤ n ∧ Blk wi W.heap.size 4 (bz (nextTo ps al ch k)) ∧ Below W.heap.size W2 wi) (fun v43 _ => n - (intOf v43).toNat)
      case atStart => exact ⟨0, rfl, by omega, by rw [nextTo, hla]; exact hBn.out, Below.refl _ _⟩
      case round =>
        obtain ⟨k, rfl, hk, hBk, hbl⟩ := hrel
        have hlk : (nextTo ps al ch k).length = n + 1 := by rw [nextTo_len, hla]
        by_cases h3 : k < n
        · have hkl : k < ps.length := by have := hn.out; omega
          have h3' : (k : Int) < (n : Int) := by omega
          have hbw4 := hbw3.out.trans (hbl.mono (by omega))
          obtain ⟨A', c', q0', hgl', hel'⟩ := (hG.out.below hbw4).form
          have hcg := (hbw4.cell (p := ⟨g, 0, none⟩) hgl).trans q0
          rw [q0'] at hcg
          obtain rfl : A' = A := by injection hcg with hcg; injection hcg
          obtain ⟨ad, u, e, hab, hc, hp⟩ := hel' k hkl
          subst e
          have hab2 : (ad.add k).block < wr.heap.size := by rw [addr_block]; exact hab
          have ck := add_bz (n := 0) (hBq.out.below hbl (by omega)) (k := k) (by omega)
          have hns := hide (nextTo_succ ps al ch k hkl)
          have hB2' := hide hBk
          have hbl' := hide hbl
          cases ha : al.getD k false with
          | false =>
            rw [ha] at ck hns
            rw [Bool.false_and, if_neg Bool.false_ne_true] at hns
            clear hp ha
            go_wp2_with fail
            go_roundw
            case rel => exact ⟨k + 1, by go_num, by omega, by rw [hns.out]; exact hB2'.out, hbl'.out⟩
            case measure => simp [intOf]; omega
          | true =>
            rw [ha] at ck hns
            rw [Bool.true_and] at hns
            have fk0 := hBk.frozen k
            have fk1 := hBk.frozen (k + 1)
            have ck1 := add_bz (n := 0) hBk (k := k) (by omega)
            have ck2 := add_bz (n := 0) hBk (k := k + 1) (by omega)
            clear ha hBk hbl
            cases hpk : ps[k] with
            | stars d =>
              have ta := as_star d
              rw [hpk] at hp hns
              obtain rfl : u = _ := hp
              have hst2 : isStar (.stars d) = true := rfl
              rw [hst2, if_pos rfl] at hns
              go_wp2_with fail
              refine (fstars_any _ d ch).mono ?_
              rintro e wx ⟨rfl, hbx⟩
              have hl2 := hbl'.out.size
              have hB5 := hB2'.out.below hbx (hB2'.out.lt)
              have hbl5 := hide (hbl'.out.trans (hbx.mono (by omega)))
              have fk0' := hB5.frozen k
              have ck1' := add_bz (n := 0) hB5 (k := k) (by omega)
              replace hB5 := hide hB5
              generalize fitP (.stars d) ch = b at *
              cases b with
              | true =>
                rw [if_pos rfl] at hns
                go_wp2_with fail
                go_roundw
                case rel => exact ⟨k + 1, by go_num, by omega, by rw [hns.out, ← bz_set]; exact hB5.out.set_ _ _, below_set hbl5.out (Nat.le_refl _) _⟩
                case measure => simp [intOf]; omega
              | false =>
                rw [if_neg Bool.false_ne_true] at hns
                go_wp2_with fail
                go_roundw
                case rel => exact ⟨k + 1, by go_num, by omega, by rw [hns.out]; exact hB5.out, hbl5.out⟩
                case measure => simp [intOf]; omega
            | self r =>
              rw [hpk] at hp hns
              obtain rfl : u = _ := hp
              have ta := as_self
              have hst2 : isStar (.self r) = false := rfl
              rw [hst2, if_neg Bool.false_ne_true] at hns
              go_wp2_with fail
              refine (fself_any _ r ch).mono ?_
              rintro e wx ⟨rfl, hbx⟩
              have hl2 := hbl'.out.size
              have hB5 := hB2'.out.below hbx (hB2'.out.lt)
              have hbl5 := hide (hbl'.out.trans (hbx.mono (by omega)))
              have fk0' := hB5.frozen (k + 1)
              have ck1' := add_bz (n := 0) hB5 (k := k + 1) (by omega)
              replace hB5 := hide hB5
              generalize fitP (.self r) ch = b at *
              cases b with
              | true =>
                rw [if_pos rfl] at hns
                go_wp2_with fail
                go_roundw
                case rel => exact ⟨k + 1, by go_num, by omega, by rw [hns.out, ← bz_set]; exact hB5.out.set_ _ _, below_set hbl5.out (Nat.le_refl _) _⟩
                case measure => simp [intOf]; omega
              | false =>
                rw [if_neg Bool.false_ne_true] at hns
                go_wp2_with fail
                go_roundw
                case rel => exact ⟨k + 1, by go_num, by omega, by rw [hns.out]; exact hB5.out, hbl5.out⟩
                case measure => simp [intOf]; omega
            | one =>
              rw [hpk] at hp hns
              obtain rfl : u = _ := hp
              have ta := as_one
              have hst2 : isStar (.one) = false := rfl
              rw [hst2, if_neg Bool.false_ne_true] at hns
              go_wp2_with fail
              refine (fone_any _ ch).mono ?_
              rintro e wx ⟨rfl, hbx⟩
              have hl2 := hbl'.out.size
              have hB5 := hB2'.out.below hbx (hB2'.out.lt)
              have hbl5 := hide (hbl'.out.trans (hbx.mono (by omega)))
              have fk0' := hB5.frozen (k + 1)
              have ck1' := add_bz (n := 0) hB5 (k := k + 1) (by omega)
              replace hB5 := hide hB5
              generalize fitP (.one) ch = b at *
              cases b with
              | true =>
                rw [if_pos rfl] at hns
                go_wp2_with fail
                go_roundw
                case rel => exact ⟨k + 1, by go_num, by omega, by rw [hns.out, ← bz_set]; exact hB5.out.set_ _ _, below_set hbl5.out (Nat.le_refl _) _⟩
                case measure => simp [intOf]; omega
              | false =>
                rw [if_neg Bool.false_ne_true] at hns
                go_wp2_with fail
                go_roundw
                case rel => exact ⟨k + 1, by go_num, by omega, by rw [hns.out]; exact hB5.out, hbl5.out⟩
                case measure => simp [intOf]; omega
            | cls no l =>
              rw [hpk] at hp hns
              obtain ⟨vf, vt, hu, h1, h2⟩ := hp
              subst hu
              have ta := as_cls
              have hst2 : isStar (.cls no l) = false := rfl
              rw [hst2, if_neg Bool.false_ne_true] at hns
              go_wp2_with fail
              refine (fcls_any _ _ no l vf vt ch h1 h2).mono ?_
              rintro e wx ⟨rfl, hbx⟩
              have hl2 := hbl'.out.size
              have hB5 := hB2'.out.below hbx (hB2'.out.lt)
              have hbl5 := hide (hbl'.out.trans (hbx.mono (by omega)))
              have fk0' := hB5.frozen (k + 1)
              have ck1' := add_bz (n := 0) hB5 (k := k + 1) (by omega)
              replace hB5 := hide hB5
              generalize fitP (.cls no l) ch = b at *
              cases b with
              | true =>
                rw [if_pos rfl] at hns
                go_wp2_with fail
                go_roundw
                case rel => exact ⟨k + 1, by go_num, by omega, by rw [hns.out, ← bz_set]; exact hB5.out.set_ _ _, below_set hbl5.out (Nat.le_refl _) _⟩
                case measure => simp [intOf]; omega
              | false =>
                rw [if_neg Bool.false_ne_true] at hns
                go_wp2_with fail
                go_roundw
                case rel => exact ⟨k + 1, by go_num, by omega, by rw [hns.out]; exact hB5.out, hbl5.out⟩
                case measure => simp [intOf]; omega
        · have h3' : ¬ (k : Int) < (n : Int) := by omega
          have e : k = n := by omega
          subst e
          have hna : Hid (nextTo ps al ch k = nextA ps al ch) := by rw [Hid, nextA, hn.out]
          have hbw4 := hbw3.out.trans (hbl.mono (by omega))
          have hit4 := hide ((hbl.block w3.heap.size (by omega)).trans hit3.out)
          rw [hna.out] at hBk hlk
          have hop := hide (gopen_any wr w g ps hG.out (by rw [← hn.out]; exact hps) W.heap.size (k + 1) (nextA ps al ch) hBk (by rw [hlk, hn.out]) (by rw [hn.out]) hbw4 (by omega))
          replace hbw4 := hide hbw4
          clear hBk hna
          go_wp2_with fail
          refine hop.out.mono ?_
          rintro e w5 ⟨rfl, hB5, hb5⟩
          have hbw5 := hbw4.out.trans (hb5.mono (by omega))
          have hit5 := (hb5.block w3.heap.size (by omega)).trans hit4.out
          go_wp2_with fail
          go_roundg g'
          case measure => omega
          case rel => exact ⟨pos + K, W.heap.size, openA ps (nextA ps al ch), rfl, hB5, by rw [openA, openTo_len, hlk], hit5, by omega, hbw5, hR.out, by omega, hwn⟩
    · have e : pos = s.size := by omega
      have hnx : ∀ ty, (Instr.next (.pointer (some ⟨w3.heap.size, 0, none⟩)) true ty).run Tryz.prog wr = _ := fun ty => Lib.run_next_end_at wr w3.heap.size s pos ty hit hlt
      have hd : s.data.toList.drop pos = [] := List.drop_eq_nil_of_le (by rw [e]; have h2 : s.data.size = s.size := rfl; simp)
      rw [hd, runesD_nil, runA] at hR
      have kn := add_bz (n := 0) hB (k := n) (by omega)
      rw [← hR] at kn
      have kg : wr.cell? ⟨g, 0, none⟩ = some (.slice A n c) := (hbw.cell hgl).trans q0
      clear hd hR hB hit hfu
      go_wp2_with fail
      go_ret
      exact ⟨rfl, hbw⟩
end Go.Proofs.YtnnjcedlomfhoaaGreatDoor
namespace Go.Proofs.YtnnjcedlomfhoaaGreatDoor
open Go.RowKit
set_option linter.unusedVariables false
/-- A pattern's row in memory. -/
def GlobR (w : World) (base : Nat) (v : Value) (ps : List Prt) : Prop := ∃ vs : List (List Value), w.ownsRow base 126 5 v ps.length vs.flatten ∧ RowR w base vs ps
theorem GlobR.below {w w' : World} {b : Nat} {v : Value} {ps : List Prt} (h : GlobR w b v ps) (hb : Below w.heap.size w w') : GlobR w' b v ps := by
  obtain ⟨vs, h1, h2⟩ := h
  refine ⟨vs, op_keep h1 fun k hk => hb.block k (op_blk h1 hk).2.1, h2.keep fun u n l ho => ownI_keep ho fun k _ hk => hb.block k hk⟩
theorem flatten5 : ∀ (vs : List (List Value)) (k j : Nat), (∀ cs ∈ vs, cs.length = 5) → j < 5 → vs.flatten[k * 5 + j]? = (vs[k]?).bind (·[j]?)
  | [], k, j, _, _ => by simp
  | c :: vs, 0, j, h, hj => by
    have hc := h c (.head _)
    rw [List.flatten_cons, List.getElem?_append_left (by omega)]
    simp
  | c :: vs, k + 1, j, h, hj => by
    have hc := h c (.head _)
    rw [List.flatten_cons, List.getElem?_append_right (by omega), hc, show (k + 1) * 5 + j - 5 = k * 5 + j from by omega, flatten5 vs k j (fun c' h' => h c' (.tail _ h')) hj]
    simp
/-- A part's five cells, at an address. -/
def CellsAt (w : World) (p : Addr) (c0 c1 c2 c3 c4 : Value) : Prop :=
  w.cell? p = some c0 ∧ w.cell? ⟨p.block, p.off + 1, none⟩ = some c1 ∧ w.cell? ⟨p.block, p.off + 2, none⟩ = some c2 ∧ w.cell? ⟨p.block, p.off + 3, none⟩ = some c3 ∧ w.cell? ⟨p.block, p.off + 4, none⟩ = some c4
theorem len5 {l : List Value} (h : l.length = 5) : ∃ a b c d e, l = [a, b, c, d, e] := by
  match l, h with
  | [a, b, c, d, e], _ => exact ⟨a, b, c, d, e, rfl⟩
theorem GlobR.form {w : World} {b : Nat} {v : Value} {ps : List Prt} (h : GlobR w b v ps) : ∃ A c, v = .slice A ps.length c ∧
    ∀ k (hk : k < ps.length), ∃ ad c0 c1 c2 c3 c4, A = some ad ∧ ad.block < w.heap.size ∧ CellsAt w (ad.add (k * 5)) c0 c1 c2 c3 c4 ∧ PrtR w b [c0, c1, c2, c3, c4] ps[k] := by
  obtain ⟨vs, h1, h2⟩ := h
  have hl := h2.1
  have key : ∃ A c, v = .slice A ps.length c := by
    rcases h1.2 with ⟨e, h0⟩ | ⟨g', cap, cur, e, _⟩
    · refine ⟨none, 0, ?_⟩
      rw [e]
      have : ps.length = 0 := by
        rcases Nat.eq_zero_or_pos ps.length with h | h
        · exact h
        · omega
      rw [this]
    · exact ⟨_, _, e⟩
  obtain ⟨A, c, rfl⟩ := key
  have hR := Reads.of_own h1
  refine ⟨A, c, rfl, fun k hk => ?_⟩
  obtain ⟨ad, e, hb, hc⟩ := hR.2 (by omega)
  have h5 : ∀ cs ∈ vs, cs.length = 5 := by
    intro cs hcs
    obtain ⟨j, hj, rfl⟩ := List.getElem_of_mem hcs
    exact (h2.2 j vs[j] (ps[j]'(by omega)) (List.getElem?_eq_getElem hj) (List.getElem?_eq_getElem (by omega))).1
  have hkv : k < vs.length := by omega
  have hp := (h2.2 k vs[k] ps[k] (List.getElem?_eq_getElem hkv) (List.getElem?_eq_getElem hk)).2
  obtain ⟨c0, c1, c2, c3, c4, hcs⟩ := len5 (h5 _ (List.getElem_mem hkv))
  have hx : ∀ j u, j < 5 → [c0, c1, c2, c3, c4][j]? = some u → w.cell? (ad.add (k * 5 + j)) = some u := by
    intro j u hj hu
    refine hc _ u ?_
    rw [flatten5 vs k j h5 hj, List.getElem?_eq_getElem hkv, hcs]
    exact hu
  have k0 := hx 0 _ (by omega) rfl
  have k1 := hx 1 _ (by omega) rfl
  have k2 := hx 2 _ (by omega) rfl
  have k3 := hx 3 _ (by omega) rfl
  have k4 := hx 4 _ (by omega) rfl
  rw [← add_of_add, add_pos _ _ (by decide)] at k1 k2 k3 k4
  rw [hcs] at hp
  exact ⟨ad, c0, c1, c2, c3, c4, e, hb, ⟨k0, k1, k2, k3, k4⟩, hp⟩
theorem OI.at_ {w : World} {b n : Nat} {v : Value} {l : List Int} (h : OI w b v n l) {A : Option Addr} {m c : Nat} (hv : v = .slice A m c) : ∀ k (hk : k < l.length), k < n → ∃ ad, A = some ad ∧ ad.block < w.heap.size ∧ w.cell? (ad.add k) = some (.int .i64 l[k]) := by
  intro k hk hkn
  have hR : ∃ A' m' c', v = .slice A' m' c' ∧ Reads w w.heap.size 1 A' n (iv l) := by
    rcases h.2 with ⟨e, h0⟩ | ⟨g', cap, cur, e, _⟩
    · subst e; exact ⟨_, _, _, rfl, Reads.of_own (by rw [h0] at h ⊢; exact h)⟩
    · subst e; exact ⟨_, _, _, rfl, Reads.of_own h⟩
  obtain ⟨A', m', c', e, hR⟩ := hR
  rw [hv] at e
  injection e with e1 e2 e3
  subst e1
  exact RI.elem hR hkn hk
def FitRet (w : World) (b : Bool) (e : Ending) (w' : World) : Prop := e = .returned (.bool b) ∧ Below w.heap.size w w'
end Go.Proofs.YtnnjcedlomfhoaaGreatDoor
namespace Go.Proofs.YtnnjcedlomfhoaaGreatDoor
set_option linter.unusedVariables false
structure FileV where
  name : List UInt8
  method : Int
  dos : Int
  crc : Int
  x4 : Int
  size : Int
  x6 : Int
def fileV (f : FileV) : Value := .agg #[.string (str f.name), .int .i64 f.method, .int .i64 f.dos, .int .u32 f.crc, .int .i64 f.x4, .int .i64 f.size, .int .i64 f.x6]
def cmpI (n op m : Int) : Bool :=
  if op = 1 then n == m else if op = 2 then n != m else if op = 3 then decide (n < m) else if op = 4 then decide (n ≤ m) else if op = 5 then decide (m < n) else op == 6 && decide (m ≤ n)
def globM (t name : List UInt8) : Bool := match globP t with
  | some ps => matchP ps (runesG (str name))
  | none => false
def namedN (name : List UInt8) (x : Ask) : Bool :=
  if x.op ≠ 7 ∧ x.op ≠ 8 then (x.op == 1 || x.op == 2) && ((name == x.text) == (x.op == 1)) else globG x.text && (globM x.text name == (x.op == 7))
/-- The program's: does an entry hold for a term? -/
def termN (f : FileV) (found : List (List UInt8)) (x : Ask) : Bool :=
  if x.kind = 4 then namedN f.name x
  else if x.kind = 5 then cmpI f.size x.op x.n
  else if x.kind = 6 then cmpI f.dos x.op x.n
  else if x.kind = 7 then cmpI f.crc x.op x.n
  else if x.kind = 8 then cmpI f.method x.op x.n
  else if x.kind = 9 then (x.op == 1 || x.op == 2) && (decide (x.text ∈ found) == (x.op == 1))
  else false
section
variable (f : FileV) (found : List (List UInt8))
def evN : Q → Bool
  | .term a => termN f found a
  | .neg q => !evN q
  | .two k x y => if k = 1 then evN x || evN y else evN x && evN y
end
def boolAt (bs : List Bool) (k : Int) : Bool := bs.getD k.toNat false
def evNext (f : FileV) (found : List (List UInt8)) (bs : List Bool) (x : Ask) : Bool :=
  if jointB x = true then (if x.kind = 1 then boolAt bs x.a || boolAt bs x.b else boolAt bs x.a && boolAt bs x.b) else termN f found x
def evs (f : FileV) (found : List (List UInt8)) (bs : List Bool) : List Ask → List Bool
  | [] => bs
  | x :: l => evs f found (bs ++ [evNext f found bs x]) l
theorem evs_append (f : FileV) (found : List (List UInt8)) (l r : List Ask) : ∀ bs, evs f found bs (l ++ r) = evs f found (evs f found bs l) r := by
  induction l with
  | nil => intro bs; rfl
  | cons x l ih => intro bs; exact ih _
theorem evs_len (f : FileV) (found : List (List UInt8)) (l : List Ask) : ∀ bs, (evs f found bs l).length = bs.length + l.length := by
  induction l with
  | nil => intro bs; rfl
  | cons x l ih => intro bs; rw [evs, ih]; simp; omega
theorem boolAt_in (bs : List Bool) (k : Nat) (z : Int) (hz : z = (k : Int)) (h : k < bs.length) : boolAt bs z = bs[k] := by
  subst hz
  unfold boolAt
  rw [Int.toNat_natCast, List.getD_eq_getElem?_getD, List.getElem?_eq_getElem h]; rfl
/-- A tree without nots: joints are or and and, terms no joints. -/
def flatQ : Q → Prop
  | .term a => jointB a = false
  | .neg _ => False
  | .two k x y => (k = 1 ∨ k = 2) ∧ flatQ x ∧ flatQ y
theorem evs_tree (f : FileV) (found : List (List UInt8)) : ∀ (q : Q) (bs : List Bool), flatQ q → ∃ es, evs f found bs (q.parts bs.length) = bs ++ es ∧ es.length = q.size ∧ es.getLast? = some (evN f found q)
  | .term a, bs, h => by
    refine ⟨[termN f found a], ?_, rfl, rfl⟩
    have hj : jointB a = false := h
    show evs f found bs [a] = _
    rw [evs, evs, evNext, if_neg (by rw [hj]; decide)]
  | .neg q, bs, h => h.elim
  | .two k x y, bs, h => by
    obtain ⟨es, h1, h2, h3⟩ := evs_tree f found x bs h.2.1
    obtain ⟨fs, g1, g2, g3⟩ := evs_tree f found y (bs ++ es) h.2.2
    refine ⟨es ++ fs ++ [evN f found (.two k x y)], ?_, by simp [Q.size, h2, g2]; omega, by simp⟩
    have hx := x.size_pos
    have hy := y.size_pos
    rw [List.length_append, h2] at g1
    rw [Q.parts, evs_append, h1, evs_append, g1, evs, evs, evNext, if_pos (by rcases h.1 with e | e <;> simp [jointB, e])]
    dsimp only
    have ex : boolAt (bs ++ es ++ fs) ((bs.length : Int) + (x.size : Int) - 1) = evN f found x := by
      rw [boolAt_in _ (bs.length + (x.size - 1)) _ (by omega) (by simp; omega)]
      rw [List.getLast?_eq_getElem?, h2, List.getElem?_eq_getElem (by omega)] at h3
      rw [List.getElem_append_left (by simp; omega), List.getElem_append_right (by omega)]
      have : bs.length + (x.size - 1) - bs.length = x.size - 1 := by omega
      simp only [this]
      exact Option.some.inj h3
    have ey : boolAt (bs ++ es ++ fs) ((bs.length : Int) + (x.size : Int) + (y.size : Int) - 1) = evN f found y := by
      rw [boolAt_in _ (bs.length + x.size + (y.size - 1)) _ (by omega) (by simp; omega)]
      rw [List.getLast?_eq_getElem?, g2, List.getElem?_eq_getElem (by omega)] at g3
      rw [List.getElem_append_right (by simp; omega)]
      have : bs.length + x.size + (y.size - 1) - (bs ++ es).length = y.size - 1 := by simp; omega
      simp only [this]
      exact Option.some.inj g3
    rw [ex, ey, evN]
    simp [List.append_assoc]
theorem evs_last (f : FileV) (found : List (List UInt8)) (q : Q) (h : flatQ q) : (evs f found [] (q.parts 0)).getD (q.size - 1) false = evN f found q := by
  obtain ⟨es, h1, h2, h3⟩ := evs_tree f found q [] h
  rw [show q.parts 0 = q.parts ([] : List Bool).length from rfl, h1, List.nil_append, List.getD_eq_getElem?_getD]
  rw [List.getLast?_eq_getElem?, h2] at h3
  rw [h3]; rfl
end Go.Proofs.YtnnjcedlomfhoaaGreatDoor
namespace Go.Proofs.YtnnjcedlomfhoaaGreatDoor
open Go.RowKit
set_option linter.unusedVariables false
abbrev BoolRet := FitRet
theorem BoolRet.mk {w w' : World} {b b' : Bool} (h : b' = b) (hb : Below w.heap.size w w') : BoolRet w b (.returned (.bool b')) w' := ⟨by rw [h], hb⟩
theorem ncmp_any (w : World) (n op m : Int) : Calls Tryz.prog 42 #[.int .i64 n, .int .i64 op, .int .i64 m] w (BoolRet w (cmpI n op m)) := by
  obtain ⟨r, hr⟩ : ∃ r, r = cmpI n op m := ⟨_, rfl⟩
  rw [← hr]
  unfold cmpI at hr
  by_cases e1 : op = 1
  · subst e1
    have hf : Hid ((n == m) = r) := hr.symm
    clear hr
    go_enter Tryz.func42, Tryz.ntmps42
    go_wp2_with fail
    go_ret
    exact BoolRet.mk hf.out (Below.refl _ _)
  by_cases e2 : op = 2
  · subst e2
    have hf : Hid ((n != m) = r) := hr.symm
    clear hr
    go_enter Tryz.func42, Tryz.ntmps42
    go_wp2_with fail
    go_ret
    exact BoolRet.mk hf.out (Below.refl _ _)
  by_cases e3 : op = 3
  · subst e3
    have hf : Hid (decide (n < m) = r) := hr.symm
    clear hr
    go_enter Tryz.func42, Tryz.ntmps42
    go_wp2_with fail
    go_ret
    exact BoolRet.mk hf.out (Below.refl _ _)
  by_cases e4 : op = 4
  · subst e4
    have hf : Hid (decide (n ≤ m) = r) := hr.symm
    clear hr
    go_enter Tryz.func42, Tryz.ntmps42
    go_wp2_with fail
    go_ret
    exact BoolRet.mk hf.out (Below.refl _ _)
  by_cases e5 : op = 5
  · subst e5
    have hf : Hid (decide (m < n) = r) := hr.symm
    clear hr
    go_enter Tryz.func42, Tryz.ntmps42
    go_wp2_with fail
    go_ret
    exact BoolRet.mk hf.out (Below.refl _ _)
  rw [if_neg e1, if_neg e2, if_neg e3, if_neg e4, if_neg e5] at hr
  have n1 : (op == 1) = false := by simp [e1]
  have n2 : (op == 2) = false := by simp [e2]
  have n3 : (op == 3) = false := by simp [e3]
  have n4 : (op == 4) = false := by simp [e4]
  have n5 : (op == 5) = false := by simp [e5]
  by_cases e6 : op = 6
  · subst e6
    have hf : Hid (decide (m ≤ n) = r) := by rw [Hid, hr]; rfl
    clear hr e1 e2 e3 e4 e5
    go_enter Tryz.func42, Tryz.ntmps42
    go_wp2_with fail
    go_ret
    exact BoolRet.mk hf.out (Below.refl _ _)
  · have n6 : (op == 6) = false := by simp [e6]
    have hf : Hid (false = r) := by rw [Hid, hr, n6]; rfl
    clear hr e1 e2 e3 e4 e5 e6
    go_enter Tryz.func42, Tryz.ntmps42
    go_wp2_with fail
    go_ret
    exact BoolRet.mk hf.out (Below.refl _ _)
theorem ask_box (w : World) (x : Ask) : Blk (w.alloc (.cells #[.int .i64 x.kind, .int .i64 x.op, .int .i64 x.a, .int .i64 x.b, .int .i64 x.n, .string (str x.text), .bool x.isText] 54)) w.heap.size 54 #[.int .i64 x.kind, .int .i64 x.op, .int .i64 x.a, .int .i64 x.b, .int .i64 x.n, .string (str x.text), .bool x.isText] := Blk.new w 54 _
set_option maxRecDepth 100000 in
set_option maxHeartbeats 4000000 in
theorem named_any (w : World) (name : List UInt8) (x : Ask) (hT : Utf8T w) (hn : name.length ≤ 1000) : Calls Tryz.prog 41 #[.string (str name), askV x] w (BoolRet w (namedN name x)) := by
  obtain ⟨r, hr⟩ : ∃ r, r = namedN name x := ⟨_, rfl⟩
  rw [← hr]
  unfold namedN at hr
  unfold askV
  have hbx := hide (ask_box w x)
  have hb0 := hide ((Below.refl w.heap.size w).alloc (Nat.le_refl _) (.cells #[.int .i64 x.kind, .int .i64 x.op, .int .i64 x.a, .int .i64 x.b, .int .i64 x.n, .string (str x.text), .bool x.isText] 54))
  by_cases hop : x.op ≠ 7 ∧ x.op ≠ 8
  · rw [if_pos hop] at hr
    have n7 : (x.op != 7) = true := by simp [hop.1]
    have n8 : (x.op != 8) = true := by simp [hop.2]
    clear hop
    obtain ⟨sb, hsb⟩ : ∃ b, b = ((str name).toList == (str x.text).toList) := ⟨_, rfl⟩
    have hse : (name == x.text) = sb := by rw [hsb, str_bytes, str_bytes]
    rw [hse] at hr
    clear hse
    replace hsb := hsb.symm
    obtain ⟨kind, op, a, b, n, text, isText⟩ := x
    dsimp only at *
    by_cases e1 : op = 1
    · subst e1
      have hf : Hid ((sb == true) = r) := by rw [Hid, hr]; simp
      clear hr
      cases sb
      all_goals
        go_enter Tryz.func41, Tryz.ntmps41
        go_wp2_with fail
        go_ret
        exact BoolRet.mk (by rw [← hf.out]; first | done | rfl) hb0.out
    · have n1 : (op == 1) = false := by simp [e1]
      by_cases e2 : op = 2
      · subst e2
        have hf : Hid ((sb == false) = r) := by rw [Hid, hr]; simp
        clear hr e1
        cases sb
        all_goals
          go_enter Tryz.func41, Tryz.ntmps41
          go_wp2_with fail
          go_ret
          exact BoolRet.mk (by rw [← hf.out]; first | done | rfl) hb0.out
      · have n2 : (op == 2) = false := by simp [e2]
        have hf : Hid (false = r) := by rw [Hid, hr, n1, n2]; rfl
        clear hr e1 e2
        go_enter Tryz.func41, Tryz.ntmps41
        go_wp2_with fail
        go_ret
        exact BoolRet.mk hf.out hb0.out
  · rw [if_neg hop] at hr
    have h78 : x.op = 7 ∨ x.op = 8 := by omega
    clear hop
    have hg := hide (gnew_any _ (str x.text) (hT.below hb0.out))
    obtain ⟨kind, op, a, b, n, text, isText⟩ := x
    dsimp only at *
    have hm : Hid (∀ ps, globP text = some ps → globM text name = matchP ps (runesG (str name)) ∧ globG text = true ∧ ps.length ≤ 100) := by
      intro ps hps
      refine ⟨?_, ?_, globP_len hps⟩
      · unfold globM; rw [hps]
      · unfold globG; rw [hps]; rfl
    have hmn : Hid (globP text = none → globG text = false ∧ (globE text == 0) = false) := fun h => ⟨by unfold globG; rw [h]; rfl, globE_ne h⟩
    replace hr := hide hr
    rcases h78 with rfl | rfl
    all_goals
      go_enter Tryz.func41, Tryz.ntmps41
      go_wp2_with fail
      refine hg.out.mono ?_
      rintro e w1 ⟨hb1, hr1⟩
      have hbw1 := hb0.out.trans (hb1.mono (hb0.out.size))
      have hbx1 := hbx.out.below hb1 (by have := hbx.out.lt; exact this)
      have c1 : w1.cell? ⟨w.heap.size, 1, none⟩ = some (.int .i64 _) := hbx1.cell 1
      have hlt1 : w.heap.size < w1.heap.size := hbx1.lt
      have hsz1 := hbw1.size
      clear hg hb0 hbx hb1 hbx1
      rw [str_toList] at hr1
      rcases hr1 with ⟨ps, g, hps, rfl, -, hG⟩ | ⟨hno, rfl⟩
      · obtain ⟨m1, m2, m3⟩ := hm.out ps hps
        have hr2 := hr.out
        rw [m1, m2] at hr2
        have hM := hide (gmatch_any w1.drew g ps (hG.below (Below.refl _ _).drew) m3 (str name) (by rw [str_size]; exact hn))
        rw [matchF_eq] at hM
        generalize matchP ps (runesG (str name)) = bb at *
        replace hr2 := hide hr2
        have hbw1' := hide hbw1
        clear hm hmn hps m1 m2 m3 hG hbw1 hr
        go_upto_region 4 with (fail)
        go_region_with (first | (go_at_call 65; refine hM.out.mono ?_; rintro e w5 ⟨rfl, hb5⟩; have c5 := (hb5.cell (p := ⟨w.heap.size, 1, none⟩) hlt1).trans c1; have hbw5 := hide (hbw1'.out.drew.trans (hb5.mono hsz1)); clear hb5))
        all_goals
          first | done | go_wp2_with fail
          go_ret
          exact BoolRet.mk (by rw [hr2.out]; cases bb <;> rfl) hbw5.out
      · obtain ⟨m1, m2⟩ := hmn.out hno
        have hf : Hid (false = r) := by rw [Hid, hr.out, m1]; rfl
        clear hm hmn hno m1 hr
        try rw [str_toList]
        generalize globE text = ee at *
        go_wp2_with fail
        go_region
        go_wp2_with fail
        go_ret
        exact BoolRet.mk hf.out hbw1.drew
end Go.Proofs.YtnnjcedlomfhoaaGreatDoor
namespace Go.Proofs.YtnnjcedlomfhoaaGreatDoor
open Go.RowKit
set_option linter.unusedVariables false
theorem crc_wrap {c : Int} (h : 0 ≤ c ∧ c ≤ 4294967295) : IntKind.i64.wrap c = c := IntWalk.i64_in _ (by omega)
theorem two_boxes (w : World) (x : Ask) (f : FileV) :
    Blk ((w.alloc (.cells #[.int .i64 x.kind, .int .i64 x.op, .int .i64 x.a, .int .i64 x.b, .int .i64 x.n, .string (str x.text), .bool x.isText] 54)).alloc (.cells #[.string (str f.name), .int .i64 f.method, .int .i64 f.dos, .int .u32 f.crc, .int .i64 f.x4, .int .i64 f.size, .int .i64 f.x6] 40)) w.heap.size 54
      #[.int .i64 x.kind, .int .i64 x.op, .int .i64 x.a, .int .i64 x.b, .int .i64 x.n, .string (str x.text), .bool x.isText] ∧
    Blk ((w.alloc (.cells #[.int .i64 x.kind, .int .i64 x.op, .int .i64 x.a, .int .i64 x.b, .int .i64 x.n, .string (str x.text), .bool x.isText] 54)).alloc (.cells #[.string (str f.name), .int .i64 f.method, .int .i64 f.dos, .int .u32 f.crc, .int .i64 f.x4, .int .i64 f.size, .int .i64 f.x6] 40)) (w.heap.size + 1) 40
      #[.string (str f.name), .int .i64 f.method, .int .i64 f.dos, .int .u32 f.crc, .int .i64 f.x4, .int .i64 f.size, .int .i64 f.x6] ∧
    Below w.heap.size w ((w.alloc (.cells #[.int .i64 x.kind, .int .i64 x.op, .int .i64 x.a, .int .i64 x.b, .int .i64 x.n, .string (str x.text), .bool x.isText] 54)).alloc (.cells #[.string (str f.name), .int .i64 f.method, .int .i64 f.dos, .int .u32 f.crc, .int .i64 f.x4, .int .i64 f.size, .int .i64 f.x6] 40)) := by
  have h2 := Blk.new (w.alloc (.cells #[.int .i64 x.kind, .int .i64 x.op, .int .i64 x.a, .int .i64 x.b, .int .i64 x.n, .string (str x.text), .bool x.isText] 54)) 40 #[.string (str f.name), .int .i64 f.method, .int .i64 f.dos, .int .u32 f.crc, .int .i64 f.x4, .int .i64 f.size, .int .i64 f.x6]
  rw [show (w.alloc (.cells #[.int .i64 x.kind, .int .i64 x.op, .int .i64 x.a, .int .i64 x.b, .int .i64 x.n, .string (str x.text), .bool x.isText] 54)).heap.size = w.heap.size + 1 from by simp] at h2
  exact ⟨(ask_box w x).alloc _, h2, ((Below.refl _ _).alloc (Nat.le_refl _) _).alloc (by simp) _⟩
set_option maxRecDepth 100000 in
set_option maxHeartbeats 8000000 in
theorem nterm_any (w : World) (x : Ask) (f : FileV) (A : Option Addr) (n c : Nat) (l : List (List UInt8)) (h : RSL w w.heap.size A n l) (hn : n ≤ 100000) (hT : Utf8T w) (hnm : f.name.length ≤ 1000) (hc : 0 ≤ f.crc ∧ f.crc ≤ 4294967295) :
    Calls Tryz.prog 24 #[askV x, fileV f, .slice A n c] w (BoolRet w (termN f l x)) := by
  obtain ⟨r, hr⟩ : ∃ r, r = termN f l x := ⟨_, rfl⟩
  rw [← hr]
  unfold termN at hr
  obtain ⟨hB1, hB2, hb0⟩ := two_boxes w x f
  have hcw := crc_wrap hc
  unfold askV fileV
  obtain ⟨kind, op, a, b, nn, text, isText⟩ := x
  obtain ⟨name, method, dos, crc, x4, size, x6⟩ := f
  dsimp only at *
  obtain ⟨w2, hw2⟩ : ∃ y, y = (w.alloc (.cells #[.int .i64 kind, .int .i64 op, .int .i64 a, .int .i64 b, .int .i64 nn, .string (str text), .bool isText] 54)).alloc (.cells #[.string (str name), .int .i64 method, .int .i64 dos, .int .u32 crc, .int .i64 x4, .int .i64 size, .int .i64 x6] 40) := ⟨_, rfl⟩
  rw [← hw2] at hB1 hB2 hb0
  have p0 : w2.cell? ⟨w.heap.size, 0, none⟩ = some (.int .i64 kind) := hB1.cell 0
  have p1 : w2.cell? ⟨w.heap.size, 1, none⟩ = some (.int .i64 op) := hB1.cell 1
  have p2 : w2.cell? ⟨w.heap.size, 2, none⟩ = some (.int .i64 a) := hB1.cell 2
  have p3 : w2.cell? ⟨w.heap.size, 3, none⟩ = some (.int .i64 b) := hB1.cell 3
  have p4 : w2.cell? ⟨w.heap.size, 4, none⟩ = some (.int .i64 nn) := hB1.cell 4
  have p5 : w2.cell? ⟨w.heap.size, 5, none⟩ = some (.string (str text)) := hB1.cell 5
  have p6 : w2.cell? ⟨w.heap.size, 6, none⟩ = some (.bool isText) := hB1.cell 6
  have q0 : w2.cell? ⟨w.heap.size + 1, 0, none⟩ = some (.string (str name)) := hB2.cell 0
  have q1 : w2.cell? ⟨w.heap.size + 1, 1, none⟩ = some (.int .i64 method) := hB2.cell 1
  have q2 : w2.cell? ⟨w.heap.size + 1, 2, none⟩ = some (.int .i64 dos) := hB2.cell 2
  have q3 : w2.cell? ⟨w.heap.size + 1, 3, none⟩ = some (.int .u32 crc) := hB2.cell 3
  have q5 : w2.cell? ⟨w.heap.size + 1, 5, none⟩ = some (.int .i64 size) := hB2.cell 5
  have hT2 := hide (hT.below hb0)
  have hL2 := hide ((h.below hb0).more hb0.size)
  have hb0' := hide hb0
  replace hw2 := hide hw2
  clear hB1 hB2 h hT hb0 hc
  by_cases k4 : kind = 4
  · subst k4
    rw [if_pos rfl] at hr
    have hC := hide (named_any w2 name ⟨4, op, a, b, nn, text, isText⟩ hT2.out hnm)
    rw [← hr] at hC
    clear hr
    go_enter Tryz.func24, Tryz.ntmps24
    go_upto_region 1 with (fail)
    rw [← hw2.out]
    go_wp2_with fail
    refine hC.out.mono ?_
    rintro e w3 ⟨rfl, hb3⟩
    have hbw := hb0'.out.trans (hb3.mono hb0'.out.size)
    go_wp2_with fail
    go_ret
    exact BoolRet.mk rfl hbw
  rw [if_neg k4] at hr
  have n4 : (kind == 4) = false := by simp [k4]
  by_cases k5 : kind = 5
  · subst k5
    rw [if_pos rfl] at hr
    have hC := hide (ncmp_any w2 size op nn)
    rw [← hr] at hC
    clear hr
    go_enter Tryz.func24, Tryz.ntmps24
    go_upto_region 1 with (fail)
    rw [← hw2.out]
    go_wp2_with fail
    refine hC.out.mono ?_
    rintro e w3 ⟨rfl, hb3⟩
    have hbw := hb0'.out.trans (hb3.mono hb0'.out.size)
    go_wp2_with fail
    go_ret
    exact BoolRet.mk rfl hbw
  rw [if_neg k5] at hr
  have n5 : (kind == 5) = false := by simp [k5]
  by_cases k6 : kind = 6
  · subst k6
    rw [if_pos rfl] at hr
    have hC := hide (ncmp_any w2 dos op nn)
    rw [← hr] at hC
    clear hr
    go_enter Tryz.func24, Tryz.ntmps24
    go_upto_region 1 with (fail)
    rw [← hw2.out]
    go_wp2_with fail
    refine hC.out.mono ?_
    rintro e w3 ⟨rfl, hb3⟩
    have hbw := hb0'.out.trans (hb3.mono hb0'.out.size)
    go_wp2_with fail
    go_ret
    exact BoolRet.mk rfl hbw
  rw [if_neg k6] at hr
  have n6 : (kind == 6) = false := by simp [k6]
  by_cases k7 : kind = 7
  · subst k7
    rw [if_pos rfl] at hr
    have hC := hide (ncmp_any w2 crc op nn)
    rw [← hr] at hC
    clear hr
    go_enter Tryz.func24, Tryz.ntmps24
    go_upto_region 1 with (fail)
    rw [← hw2.out]
    go_wp2_with fail
    refine hC.out.mono ?_
    rintro e w3 ⟨rfl, hb3⟩
    have hbw := hb0'.out.trans (hb3.mono hb0'.out.size)
    go_wp2_with fail
    go_ret
    exact BoolRet.mk rfl hbw
  rw [if_neg k7] at hr
  have n7 : (kind == 7) = false := by simp [k7]
  by_cases k8 : kind = 8
  · subst k8
    rw [if_pos rfl] at hr
    have hC := hide (ncmp_any w2 method op nn)
    rw [← hr] at hC
    clear hr
    go_enter Tryz.func24, Tryz.ntmps24
    go_upto_region 1 with (fail)
    rw [← hw2.out]
    go_wp2_with fail
    refine hC.out.mono ?_
    rintro e w3 ⟨rfl, hb3⟩
    have hbw := hb0'.out.trans (hb3.mono hb0'.out.size)
    go_wp2_with fail
    go_ret
    exact BoolRet.mk rfl hbw
  rw [if_neg k8] at hr
  have n8 : (kind == 8) = false := by simp [k8]
  by_cases k9 : kind = 9
  · subst k9
    rw [if_pos rfl] at hr
    have hC : ∀ m, Calls Tryz.prog 43 #[.slice A n c, .string (str text)] (w2.drewN m) fun e w' => e = .returned (.bool (decide (text ∈ l))) ∧ w2.drewN m = w' :=
      fun m => scont_any (w2.drewN m) A n c l text (hL2.out.below (below_drewN (Below.refl _ _) m)) hn
    generalize decide (text ∈ l) = bb at *
    replace hC := hide hC
    by_cases e1 : op = 1
    · subst e1
      have hf : Hid ((bb == true) = r) := by rw [Hid, hr]; simp
      clear hr
      go_enter Tryz.func24, Tryz.ntmps24
      go_upto_region 1 with (fail)
      rw [← hw2.out]
      go_upto_region 13 with (fail)
      go_quiet (first | (go_at_call 43; exact quiet_left (hC.out _)))
      go_wp2_with fail
      go_ret
      exact BoolRet.mk (by rw [← hf.out]; cases bb <;> rfl) (below_drewN hb0'.out _)
    · have e1' : (op == 1) = false := by simp [e1]
      by_cases e2 : op = 2
      · subst e2
        have hf : Hid ((bb == false) = r) := by rw [Hid, hr]; simp
        clear hr
        go_enter Tryz.func24, Tryz.ntmps24
        go_upto_region 1 with (fail)
        rw [← hw2.out]
        go_upto_region 13 with (fail)
        go_quiet (first | (go_at_call 43; exact quiet_left (hC.out _)))
        go_wp2_with fail
        go_ret
        exact BoolRet.mk (by rw [← hf.out]; cases bb <;> rfl) (below_drewN hb0'.out _)
      · have e2' : (op == 2) = false := by simp [e2]
        have hf : Hid (false = r) := by rw [Hid, hr, e1', e2']; rfl
        clear hr
        go_enter Tryz.func24, Tryz.ntmps24
        go_upto_region 1 with (fail)
        rw [← hw2.out]
        go_upto_region 13 with (fail)
        go_region
        go_wp2_with fail
        go_ret
        exact BoolRet.mk hf.out hb0'.out.drew
  rw [if_neg k9] at hr
  have n9 : (kind == 9) = false := by simp [k9]
  have hf : Hid (false = r) := hr.symm
  clear hr k4 k5 k6 k7 k8 k9
  go_enter Tryz.func24, Tryz.ntmps24
  go_upto_region 1 with (fail)
  rw [← hw2.out]
  go_wp2_with fail
  go_ret
  exact BoolRet.mk hf.out hb0'.out
end Go.Proofs.YtnnjcedlomfhoaaGreatDoor
namespace Go.Proofs.YtnnjcedlomfhoaaGreatDoor
open Go.RowKit
set_option linter.unusedVariables false
/-- A string's bytes, as a slice of its own. -/
theorem bytes_conv (s : ByteArray) : ∃ (K : World → Nat) (C : World → Obj), (∀ w, (convert 9 32 (.string s)).run Tryz.prog w = .ok (.slice (some ⟨w.heap.size, 0, none⟩) s.size (K w)) (w.drew.alloc (C w))) ∧
    ∀ w, s.size ≤ K w ∧ RB (w.drew.alloc (C w)) (w.heap.size + 1) (some ⟨w.heap.size, 0, none⟩) s.size s.data.toList := by
  refine ⟨fun w => grownCap w s.size 0 5, fun w => .cells (bytesRow s (grownCap w s.size 0 5)) 5 ((bytesRow s (grownCap w s.size 0 5)).size, (bytesRow s (grownCap w s.size 0 5)).size + 1), fun w => run_bytes_of_string w 9 32 5 s Tryz.underlying9 Tryz.underlying32 Tryz.underlying5, fun w => ⟨grownCap_ge _ _ _ _, by simp [bv], fun _ => ⟨_, rfl, by simp, fun j u hj => ?_⟩⟩⟩
  have hh : (w.drew.alloc (.cells (bytesRow s (grownCap w s.size 0 5)) 5 ((bytesRow s (grownCap w s.size 0 5)).size, (bytesRow s (grownCap w s.size 0 5)).size + 1))).heap[w.heap.size]? = some (.cells (bytesRow s (grownCap w s.size 0 5)) 5 ((bytesRow s (grownCap w s.size 0 5)).size, (bytesRow s (grownCap w s.size 0 5)).size + 1)) := heap_alloc_new _ _
  rw [show (⟨w.heap.size, 0, none⟩ : Addr).add j = ⟨w.heap.size, j, none⟩ from by unfold Addr.add; split <;> simp_all, cell_of_row _ _ _ _ _ _ hh]
  have hj2 := (List.getElem?_eq_some_iff.1 hj).1
  simp [bv] at hj2
  unfold bytesRow
  rw [Array.getElem?_append_left (by simpa using hj2)]
  simpa [bv] using hj
end Go.Proofs.YtnnjcedlomfhoaaGreatDoor
namespace Go.Proofs.YtnnjcedlomfhoaaGreatDoor
open Go.RowKit
set_option linter.unusedVariables false
theorem file_box (w : World) (f : FileV) : Blk (w.alloc (.cells #[.string (str f.name), .int .i64 f.method, .int .i64 f.dos, .int .u32 f.crc, .int .i64 f.x4, .int .i64 f.size, .int .i64 f.x6] 40)) w.heap.size 40 #[.string (str f.name), .int .i64 f.method, .int .i64 f.dos, .int .u32 f.crc, .int .i64 f.x4, .int .i64 f.size, .int .i64 f.x6] := Blk.new w 40 _
end Go.Proofs.YtnnjcedlomfhoaaGreatDoor
namespace Go.Proofs.YtnnjcedlomfhoaaGreatDoor
open Go.RowKit
set_option linter.unusedVariables false
/-- The places of joints lie below. -/
def jpL : List Ask → Int → Prop
  | [], _ => True
  | x :: l, i => (jointB x = true → 0 ≤ x.a ∧ x.a < i ∧ 0 ≤ x.b ∧ x.b < i) ∧ jpL l (i + 1)
theorem jpL_append (l r : List Ask) : ∀ i, jpL l i → jpL r (i + l.length) → jpL (l ++ r) i := by
  induction l with
  | nil => intro i _ h; simpa using h
  | cons x l ih =>
    intro i h1 h2
    refine ⟨h1.1, ih _ h1.2 ?_⟩
    rw [List.length_cons] at h2
    rw [show i + 1 + (l.length : Int) = i + ((l.length + 1 : Nat) : Int) from by push_cast; omega]
    exact h2
theorem jpL_at : ∀ (l : List Ask) (i : Int), jpL l i → ∀ (k : Nat) (h : k < l.length), jointB l[k] = true → 0 ≤ l[k].a ∧ l[k].a < i + k ∧ 0 ≤ l[k].b ∧ l[k].b < i + k
  | [], _, _, k, h => absurd h (by simp)
  | x :: l, i, hs, 0, h => by simpa using hs.1
  | x :: l, i, hs, k + 1, h => by
    have := jpL_at l (i + 1) hs.2 k (by simpa using h)
    simp only [List.getElem_cons_succ]
    rw [show i + ((k + 1 : Nat) : Int) = i + 1 + (k : Int) from by push_cast; omega]
    exact this
theorem parts_jp : ∀ (q : Q) (p : Nat), flatQ q → jpL (q.parts p) p
  | .term a, p, h => by
    have h2 : jointB a = false := h
    show jpL [a] p
    exact ⟨fun hj => absurd hj (by rw [h2]; decide), trivial⟩
  | .neg q, p, h => h.elim
  | .two k x y, p, h => by
    have hx := x.size_pos
    have hy := y.size_pos
    have h1 := parts_jp x p h.2.1
    have h2 := parts_jp y (p + x.size) h.2.2
    rw [Q.parts]
    refine jpL_append _ _ _ h1 (jpL_append _ _ _ ?_ ⟨fun _ => ?_, trivial⟩)
    · rw [Q.parts_len]; simpa using h2
    · rw [Q.parts_len, Q.parts_len]
      dsimp only
      omega
theorem evs_next (f : FileV) (found : List (List UInt8)) (l : List Ask) (k : Nat) (h : k < l.length) : evs f found [] (l.take (k + 1)) = evs f found [] (l.take k) ++ [evNext f found (evs f found [] (l.take k)) l[k]] := by
  rw [List.take_succ_eq_append_getElem h, evs_append]; rfl
/-- What is reckoned so far, and room. -/
def roomy (bs : List Bool) (r : Nat) : List Bool := bs ++ List.replicate r false
theorem roomy_len (bs : List Bool) (r : Nat) : (roomy bs r).length = bs.length + r := by simp [roomy]
theorem roomy_at (bs : List Bool) (r k : Nat) (h : k < bs.length) : (roomy bs r).getD k false = bs.getD k false := by
  unfold roomy
  rw [List.getD_eq_getElem?_getD, List.getD_eq_getElem?_getD, List.getElem?_append_left h]
theorem roomy_set (bs : List Bool) (r : Nat) (b : Bool) (k : Nat) (hk : k = bs.length) : (roomy bs (r + 1)).set k b = roomy (bs ++ [b]) r := by
  subst hk
  unfold roomy
  rw [List.set_append_right _ _ (Nat.le_refl _), Nat.sub_self, List.replicate_succ, List.set_cons_zero, List.append_assoc]; rfl
theorem roomy_set2 (bs : List Bool) (r : Nat) (a b : Bool) (k : Nat) (hk : k = bs.length) : (roomy (bs ++ [a]) r).set k b = roomy (bs ++ [b]) r := by
  subst hk
  unfold roomy
  rw [List.append_assoc, List.append_assoc, List.set_append_right _ _ (Nat.le_refl _), Nat.sub_self]; rfl
set_option maxRecDepth 100000 in
set_option maxHeartbeats 8000000 in
theorem nholds_any (w : World) (A : Option Addr) (n c : Nat) (q : Q) (h : RA w w.heap.size A n (q.parts 0)) (hq : flatQ q) (hn : n ≤ 100000) (f : FileV) (B : Option Addr) (m d : Nat) (found : List (List UInt8)) (hL : RSL w w.heap.size B m found) (hm : m ≤ 100000)
    (hT : Utf8T w) (hnm : f.name.length ≤ 1000) (hc : 0 ≤ f.crc ∧ f.crc ≤ 4294967295) :
    Calls Tryz.prog 12 #[.slice A n c, fileV f, .slice B m d] w (BoolRet w (evN f found q)) := by
  have hq1 := q.size_pos
  have hns : n = q.size := by have := h.len; rw [q.parts_len] at this; omega
  have hlast := hide (evs_last f found q hq)
  rw [← hns] at hlast
  have hjp := hide (parts_jp q 0 hq)
  obtain ⟨r, hr⟩ : ∃ r, r = evN f found q := ⟨_, rfl⟩
  rw [← hr] at hlast ⊢
  clear hr
  obtain ⟨l, hl⟩ : ∃ l, l = q.parts 0 := ⟨_, rfl⟩
  rw [← hl] at h hlast hjp
  have hlen := hide h.len
  have hn1 : 1 ≤ n := by omega
  clear hl hns hq1 hq
  replace h := hide h
  replace hL := hide hL
  replace hT := hide hT
  replace hc := hide hc
  have hmk := make_bz n hn
  have hB0 := file_box w f
  have hb0 := (Below.refl w.heap.size w).alloc (Nat.le_refl _) (.cells #[.string (str f.name), .int .i64 f.method, .int .i64 f.dos, .int .u32 f.crc, .int .i64 f.x4, .int .i64 f.size, .int .i64 f.x6] 40)
  have hnt : Hid (∀ (wx : World) (x : Ask), Below w.heap.size w wx → Calls Tryz.prog 24 #[askV x, fileV f, .slice B m d] wx (BoolRet wx (termN f found x))) :=
    fun wx x hb => nterm_any wx x f B m d found ((hL.out.below hb).more hb.size) hm (hT.out.below hb) hnm hc.out
  unfold fileV at hnt ⊢
  go_enter Tryz.func12, Tryz.ntmps12
  go_upto_region 2 with (fail)
  obtain ⟨w1, hw1⟩ : ∃ y, y = w.alloc (.cells #[.string (str f.name), .int .i64 f.method, .int .i64 f.dos, .int .u32 f.crc, .int .i64 f.x4, .int .i64 f.size, .int .i64 f.x6] 40) := ⟨_, rfl⟩
  rw [← hw1] at hB0 hb0 ⊢
  have hz1 : w1.heap.size = w.heap.size + 1 := by rw [hw1]; simp
  have hB1 := Blk.new w1 4 (bz (List.replicate n false))
  rw [hz1] at hB1
  have hB01 := hB0.alloc (.cells (bz (List.replicate n false)) 4)
  have hb1 := hb0.alloc (by omega) (.cells (bz (List.replicate n false)) 4)
  obtain ⟨w2, hw2⟩ : ∃ y, y = w1.alloc (.cells (bz (List.replicate n false)) 4) := ⟨_, rfl⟩
  rw [← hw2] at hB1 hB01 hb1 ⊢
  replace hB1 := hide hB1
  replace hB01 := hide hB01
  replace hb1 := hide hb1
  clear hw1 hw2 hB0 hb0 hz1
  go_wp2_with fail
  go_loopw [15] (fun v15 wr => ∃ k : Nat, v15 = .int .i64 k ∧ k ≤ n ∧ Blk wr (w.heap.size + 1) 4 (bz (roomy (evs f found [] (l.take k)) (n - k))) ∧ Blk wr w.heap.size 40 #[.string (str f.name), .int .i64 f.method, .int .i64 f.dos, .int .u32 f.crc, .int .i64 f.x4, .int .i64 f.size, .int .i64 f.x6] ∧ Below w.heap.size w wr) (fun v15 _ => n - (intOf v15).toNat)
  case atStart => exact ⟨0, rfl, by omega, by simpa [roomy, evs] using hB1.out, hB01.out, hb1.out⟩
  case round =>
    clear hB1 hB01 hb1
    obtain ⟨k, rfl, hk, hB, hF, hbw⟩ := hrel
    have hel : (evs f found [] (l.take k)).length = k := by rw [evs_len]; simp; have := hlen.out; omega
    by_cases h1 : k < n
    · have h1' : (k : Int) < (n : Int) := by omega
      have hkl : k < l.length := by have := hlen.out; omega
      obtain ⟨ad, rfl, hab, c0, c1, c2, c3, c4, c5, c6⟩ := (h.out.below hbw).elem h1 hkl
      have hnx := hide (evs_next f found l k hkl)
      have hjk := jpL_at l 0 hjp.out k hkl
      rw [Int.zero_add] at hjk
      generalize l[k] = x at *
      generalize evs f found [] (l.take k) = bs at *
      obtain ⟨rr, hrr⟩ : ∃ r, n - k = r + 1 := ⟨n - k - 1, by omega⟩
      rw [hrr] at hB
      have hrr2 : Hid (n - (k + 1) = rr) := by rw [Hid]; omega
      have hszr := hbw.size
      have hFl := hF.lt
      have hBl := hB.lt
      -- the part, in a block of its own
      have hX := ask_box wr x
      have hBx := hB.alloc (.cells #[.int .i64 x.kind, .int .i64 x.op, .int .i64 x.a, .int .i64 x.b, .int .i64 x.n, .string (str x.text), .bool x.isText] 54)
      have hFx := hF.alloc (.cells #[.int .i64 x.kind, .int .i64 x.op, .int .i64 x.a, .int .i64 x.b, .int .i64 x.n, .string (str x.text), .bool x.isText] 54)
      have hbx := hbw.alloc hszr (.cells #[.int .i64 x.kind, .int .i64 x.op, .int .i64 x.a, .int .i64 x.b, .int .i64 x.n, .string (str x.text), .bool x.isText] 54)
      replace hB := hide hB
      replace hF := hide hF
      replace hbw := hide hbw
      go_upto_region 5 with (fail)
      obtain ⟨wa, hwa⟩ : ∃ y, y = wr.alloc (.cells #[.int .i64 x.kind, .int .i64 x.op, .int .i64 x.a, .int .i64 x.b, .int .i64 x.n, .string (str x.text), .bool x.isText] 54) := ⟨_, rfl⟩
      rw [← hwa] at hX hBx hFx hbx ⊢
      clear hwa c0 c1 c2 c3 c4 c5 c6 hB hF hbw
      have p0 : wa.cell? ⟨wr.heap.size, 0, none⟩ = some (.int .i64 x.kind) := hX.cell 0
      have p1 : wa.cell? ⟨wr.heap.size, 1, none⟩ = some (.int .i64 x.op) := hX.cell 1
      have p2 : wa.cell? ⟨wr.heap.size, 2, none⟩ = some (.int .i64 x.a) := hX.cell 2
      have p3 : wa.cell? ⟨wr.heap.size, 3, none⟩ = some (.int .i64 x.b) := hX.cell 3
      have p4 : wa.cell? ⟨wr.heap.size, 4, none⟩ = some (.int .i64 x.n) := hX.cell 4
      have p5 : wa.cell? ⟨wr.heap.size, 5, none⟩ = some (.string (str x.text)) := hX.cell 5
      have p6 : wa.cell? ⟨wr.heap.size, 6, none⟩ = some (.bool x.isText) := hX.cell 6
      have hj0 := hide (joint_any wa x)
      unfold askV at hj0 hnt
      replace hX := hide hX
      replace hBx := hide hBx
      replace hFx := hide hFx
      replace hbx := hide hbx
      go_wp2_with fail
      refine hj0.out.mono ?_
      rintro e w3 ⟨rfl, hb3⟩
      have hX3 := hX.out.below hb3 hX.out.lt
      have hB3 := hBx.out.below hb3 hBx.out.lt
      have hF3 := hFx.out.below hb3 hFx.out.lt
      have hbw3 := hbx.out.trans (hb3.mono hbx.out.size)
      have r0 : w3.cell? ⟨wr.heap.size, 0, none⟩ = some (.int .i64 x.kind) := hX3.cell 0
      have r1 : w3.cell? ⟨wr.heap.size, 1, none⟩ = some (.int .i64 x.op) := hX3.cell 1
      have r2 : w3.cell? ⟨wr.heap.size, 2, none⟩ = some (.int .i64 x.a) := hX3.cell 2
      have r3 : w3.cell? ⟨wr.heap.size, 3, none⟩ = some (.int .i64 x.b) := hX3.cell 3
      have r4 : w3.cell? ⟨wr.heap.size, 4, none⟩ = some (.int .i64 x.n) := hX3.cell 4
      have r5 : w3.cell? ⟨wr.heap.size, 5, none⟩ = some (.string (str x.text)) := hX3.cell 5
      have r6 : w3.cell? ⟨wr.heap.size, 6, none⟩ = some (.bool x.isText) := hX3.cell 6
      clear p0 p1 p2 p3 p4 p5 p6 hX hBx hFx hbx hb3 hj0
      cases hj : jointB x with
      | false =>
        have hev : Hid (evNext f found bs x = termN f found x) := by rw [Hid, evNext, if_neg (by rw [hj]; decide)]
        have s0 : w3.cell? ⟨w.heap.size, 0, none⟩ = some (.string (str f.name)) := hF3.cell 0
        have s1 : w3.cell? ⟨w.heap.size, 1, none⟩ = some (.int .i64 f.method) := hF3.cell 1
        have s2 : w3.cell? ⟨w.heap.size, 2, none⟩ = some (.int .i64 f.dos) := hF3.cell 2
        have s3 : w3.cell? ⟨w.heap.size, 3, none⟩ = some (.int .u32 f.crc) := hF3.cell 3
        have s4 : w3.cell? ⟨w.heap.size, 4, none⟩ = some (.int .i64 f.x4) := hF3.cell 4
        have s5 : w3.cell? ⟨w.heap.size, 5, none⟩ = some (.int .i64 f.size) := hF3.cell 5
        have s6 : w3.cell? ⟨w.heap.size, 6, none⟩ = some (.int .i64 f.x6) := hF3.cell 6
        have hN := hide (hnt.out w3 x hbw3)
        replace hX3 := hide hX3
        replace hB3 := hide hB3
        replace hF3 := hide hF3
        replace hbw3 := hide hbw3
        clear hj hjk
        go_wp2_with fail
        refine hN.out.mono ?_
        rintro e w4 ⟨rfl, hb4⟩
        have hB4 := hB3.out.below hb4 hB3.out.lt
        have hF4 := hide (hF3.out.below hb4 hF3.out.lt)
        have hbw4 := hide (hbw3.out.trans (hb4.mono hbw3.out.size))
        have t0 := add_bz (n := 0) hB4 (k := k) (by rw [roomy_len]; omega)
        have u0 := hB4.frozen k
        have hst : Hid (Blk (w4.setCell ⟨w.heap.size + 1, k, none⟩ (.bool (termN f found x))) (w.heap.size + 1) 4 (bz (roomy (evs f found [] (l.take (k + 1))) (n - (k + 1))))) := by
          have h9 := hB4.set_ k (.bool (termN f found x))
          rw [bz_set, roomy_set bs rr _ k hel.symm] at h9
          rw [Hid, hrr2.out, hnx.out, hev.out]
          exact h9
        generalize termN f found x = tb at *
        replace hB4 := hide hB4
        clear hN hb4 hev r0 r1 r2 r3 r4 r5 r6 s0 s1 s2 s3 s4 s5 s6
        go_wp2_with fail
        go_roundw
        case rel => exact ⟨k + 1, by go_num, by omega, hst.out, hF4.out.far (p := ⟨w.heap.size + 1, k, none⟩) (by simp) _, below_set hbw4.out (by omega) _⟩
        case measure => simp [intOf]; omega
      | true =>
        obtain ⟨ja, jb, jc, jd⟩ := hjk hj
        obtain ⟨pa, hpa⟩ := Int.eq_ofNat_of_zero_le ja
        obtain ⟨pb, hpb⟩ := Int.eq_ofNat_of_zero_le jc
        have hpak : pa < k := by omega
        have hpbk : pb < k := by omega
        have hev : Hid (evNext f found bs x = if x.kind = 1 then bs.getD pa false || bs.getD pb false else bs.getD pa false && bs.getD pb false) := by
          rw [Hid, evNext, if_pos hj, boolAt, boolAt, hpa, hpb, Int.toNat_natCast, Int.toNat_natCast]
        rw [hpa] at r2
        rw [hpb] at r3
        have hk12 : x.kind = 1 ∨ x.kind = 2 := by simpa [jointB] using hj
        have t0 := add_bz (n := 0) hB3 (k := k) (by rw [roomy_len]; omega)
        have ta := add_bz (n := 0) hB3 (k := pa) (by rw [roomy_len]; omega)
        have tb := add_bz (n := 0) hB3 (k := pb) (by rw [roomy_len]; omega)
        rw [roomy_at bs _ pa (by omega)] at ta
        rw [roomy_at bs _ pb (by omega)] at tb
        have u0 := hB3.frozen k
        have hpak' : (pa : Int) < (k : Int) := by omega
        have hpbk' : (pb : Int) < (k : Int) := by omega
        have hkn : k < n := h1
        have hset : Hid (∀ b : Bool, b = evNext f found bs x → Blk (w3.setCell ⟨w.heap.size + 1, k, none⟩ (.bool b)) (w.heap.size + 1) 4 (bz (roomy (evs f found [] (l.take (k + 1))) (n - (k + 1))))) := by
          intro b hb
          have h9 := hB3.set_ k (.bool b)
          rw [bz_set, roomy_set bs rr _ k hel.symm] at h9
          rw [hrr2.out, hnx.out, ← hb]
          exact h9
        have hset2 : Hid (∀ a b : Bool, b = evNext f found bs x → Blk ((w3.setCell ⟨w.heap.size + 1, k, none⟩ (.bool a)).setCell ⟨w.heap.size + 1, k, none⟩ (.bool b)) (w.heap.size + 1) 4 (bz (roomy (evs f found [] (l.take (k + 1))) (n - (k + 1))))) := by
          intro a b hb
          have h9 := (hB3.set_ k (.bool a)).set_ k (.bool b)
          rw [bz_set, roomy_set bs rr _ k hel.symm, bz_set, roomy_set2 bs rr _ _ k hel.symm] at h9
          rw [hrr2.out, hnx.out, ← hb]
          exact h9
        replace hX3 := hide hX3
        replace hB3 := hide hB3
        replace hF3 := hide hF3
        replace hbw3 := hide hbw3
        generalize bs.getD pa false = ba at *
        generalize bs.getD pb false = bb at *
        clear hj hjk ja jb jc jd hpa hpb
        rcases hk12 with e | e
        · rw [e] at r0
          rw [if_pos e] at hev
          cases ba <;> cases bb
          all_goals
            go_wp2_with fail
            go_roundw
            case rel => exact ⟨k + 1, by go_num, by omega, hset2.out _ _ (by rw [hev.out]; rfl), (hF3.out.far (p := ⟨w.heap.size + 1, k, none⟩) (by simp) _).far (p := ⟨w.heap.size + 1, k, none⟩) (by simp) _, below_set (below_set hbw3.out (by omega) _) (by omega) _⟩
            case measure => simp [intOf]; omega
        · rw [e] at r0
          rw [if_neg (by rw [e]; decide)] at hev
          cases ba <;> cases bb
          all_goals
            go_wp2_with fail
            go_roundw
            case rel => exact ⟨k + 1, by go_num, by omega, hset.out _ (by rw [hev.out]; rfl), hF3.out.far (p := ⟨w.heap.size + 1, k, none⟩) (by simp) _, below_set hbw3.out (by omega) _⟩
            case measure => simp [intOf]; omega
    · have h1' : ¬ (k : Int) < (n : Int) := by omega
      have e : k = n := by omega
      subst e
      have htk : l.take k = l := List.take_of_length_le (by have := hlen.out; omega)
      rw [htk] at hB hel
      have t0 := add_bz (n := 0) hB (k := k - 1) (by rw [roomy_len]; omega)
      rw [roomy_at _ _ (k - 1) (by omega), hlast.out] at t0
      have hk1 : (1 : Int) ≤ (k : Int) := by omega
      have hkk : ((k : Int) - 1).toNat = k - 1 := by omega
      clear hB hF hel
      go_wp2_with fail
      go_ret
      exact BoolRet.mk rfl hbw
end Go.Proofs.YtnnjcedlomfhoaaGreatDoor
