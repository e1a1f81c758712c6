/-
  Nodes of trees in plain Lean: the order of keys, what a node is, its bytes. No program in sight.
-/
import Derived.Test.YthohbbaglceppaaGreatDoorUA
namespace Go.Proofs.YthohbbaglceppaaGreatDoor
set_option linter.unusedVariables false
/-- Keys, in order. -/
def ltK : List UInt8 → List UInt8 → Bool
  | _, [] => false
  | [], _ :: _ => true
  | a :: r, b :: s => if a.toNat < b.toNat then true else if b.toNat < a.toNat then false else ltK r s
theorem ltK_nil (a : List UInt8) : ltK a [] = false := by cases a <;> rfl
theorem ltK_trans : ∀ a b c, ltK a b = true → ltK b c = true → ltK a c = true
  | _, _, [], _, h => by rw [ltK_nil] at h; cases h
  | _, [], _ :: _, h, _ => by rw [ltK_nil] at h; cases h
  | [], _ :: _, _ :: _, _, _ => rfl
  | a :: r, b :: s, c :: t, h, k => by
    rw [ltK] at h k ⊢
    by_cases h1 : a.toNat < b.toNat
    · by_cases h2 : b.toNat < c.toNat
      · rw [if_pos (by omega)]
      · rw [if_neg h2] at k
        by_cases h3 : c.toNat < b.toNat
        · rw [if_pos h3] at k; cases k
        · rw [if_pos (by omega)]
    · rw [if_neg h1] at h
      by_cases h2 : b.toNat < a.toNat
      · rw [if_pos h2] at h; cases h
      · rw [if_neg h2] at h
        by_cases h3 : b.toNat < c.toNat
        · rw [if_pos (by omega)]
        · rw [if_neg h3] at k
          by_cases h4 : c.toNat < b.toNat
          · rw [if_pos h4] at k; cases k
          · rw [if_neg h4] at k
            rw [if_neg (by omega), if_neg (by omega)]
            exact ltK_trans r s t h k
structure CellP where
  key : List UInt8
  val : List UInt8
  over : Nat
  long : Nat
structure NodeP where
  leaf : Bool
  cells : List CellP
  kids : List Nat
def childN (n : Nat) : Prop := 1 ≤ n ∧ n < 16777216
/-- What a leaf's cell has. -/
def CellOk (c : CellP) : Prop := (c.over = 0 ∧ c.long = 0 ∧ c.val.length ≤ 64) ∨ (childN c.over ∧ 64 < c.long ∧ c.long ≤ 20000 ∧ c.val = [])
/-- What an inner node's cell has. -/
def BareCell (c : CellP) : Prop := c.over = 0 ∧ c.long = 0 ∧ c.val = []
/-- Keys rise. -/
def RiseC : List CellP → Prop
  | [] => True
  | c :: r => (∀ d ∈ r, ltK c.key d.key = true) ∧ RiseC r
structure RightP (n : NodeP) : Prop where
  kidsLeaf : n.leaf = true → n.kids = []
  kidsIn : n.leaf = false → n.kids.length = n.cells.length + 1
  many : n.cells.length < 65536
  keys : ∀ c ∈ n.cells, 1 ≤ c.key.length ∧ c.key.length ≤ 120
  rise : RiseC n.cells
  vals : ∀ c ∈ n.cells, if n.leaf = true then CellOk c else BareCell c
  kidsOk : ∀ k ∈ n.kids, childN k
/-- A cell's bytes. -/
def cellB (leaf : Bool) (c : CellP) (kid : Nat) : List UInt8 :=
  UInt8.ofNat c.key.length :: (c.key ++ (if leaf = true then (if c.over = 0 then leB 2 c.val.length ++ c.val else leB 2 c.long ++ leB 3 c.over) else leB 3 kid))
def cellsB (leaf : Bool) : List CellP → List Nat → List UInt8
  | [], _ => []
  | c :: r, ks => cellB leaf c (ks.headD 0) ++ cellsB leaf r ks.tail
def headB (n : NodeP) : List UInt8 := (if n.leaf = true then 1 else 2) :: (leB 2 n.cells.length ++ (if n.leaf = true then [] else leB 3 (n.kids.headD 0)))
/-- A node's bytes. -/
def packP (n : NodeP) : List UInt8 := headB n ++ cellsB n.leaf n.cells n.kids.tail
/-- How many bytes a cell has. -/
def cellZ (leaf : Bool) (c : CellP) : Nat := 1 + c.key.length + (if leaf = true then (if c.over = 0 then 2 + c.val.length else 5) else 3)
def cellsZ (leaf : Bool) : List CellP → Nat
  | [] => 0
  | c :: r => cellZ leaf c + cellsZ leaf r
def sizeP (n : NodeP) : Nat := (if n.leaf = true then 3 else 6) + cellsZ n.leaf n.cells
theorem cellB_len (leaf : Bool) (c : CellP) (kid : Nat) : (cellB leaf c kid).length = cellZ leaf c := by
  unfold cellB cellZ
  cases leaf with
  | false => simp [leB_len]; omega
  | true =>
    by_cases h : c.over = 0
    · simp [leB_len, h]; omega
    · simp [leB_len, h]; omega
theorem cellsB_len (leaf : Bool) : ∀ cs ks, (cellsB leaf cs ks).length = cellsZ leaf cs
  | [], _ => rfl
  | c :: r, ks => by rw [cellsB, cellsZ, List.length_append, cellB_len, cellsB_len leaf r]
theorem packP_len (n : NodeP) : (packP n).length = sizeP n := by
  unfold packP sizeP headB
  rw [List.length_append, cellsB_len]
  cases n.leaf <;> simp [leB_len] <;> omega
theorem cellsB_append (leaf : Bool) : ∀ a b ks, cellsB leaf (a ++ b) ks = cellsB leaf a ks ++ cellsB leaf b (ks.drop a.length)
  | [], b, ks => by simp [cellsB]
  | c :: r, b, ks => by
    rw [List.cons_append, cellsB, cellsB, cellsB_append leaf r b, List.append_assoc, List.length_cons]
    congr 2
    cases ks <;> simp
/-- The bytes ahead of a cell. -/
def preB (n : NodeP) (i : Nat) : List UInt8 := headB n ++ cellsB n.leaf (n.cells.take i) n.kids.tail
theorem preB_zero (n : NodeP) : preB n 0 = headB n := by unfold preB; rw [List.take_zero, cellsB, List.append_nil]
theorem preB_succ (n : NodeP) (i : Nat) (hi : i < n.cells.length) : preB n (i + 1) = preB n i ++ cellB n.leaf n.cells[i] (n.kids.getD (i + 1) 0) := by
  unfold preB
  rw [List.take_succ_eq_append_getElem hi, cellsB_append, List.append_assoc, cellsB, cellsB, List.append_nil, List.length_take, Nat.min_eq_left (Nat.le_of_lt hi)]
  congr 3
  cases h : n.kids with
  | nil => simp
  | cons k r => simp [List.headD_eq_head?_getD, List.head?_drop]
theorem preB_all (n : NodeP) : preB n n.cells.length = packP n := by unfold preB packP; rw [List.take_length]
/-- What is behind a cell's beginning. -/
theorem packP_at (n : NodeP) (i : Nat) (hi : i < n.cells.length) : ∃ rest, packP n = preB n i ++ (cellB n.leaf n.cells[i] (n.kids.getD (i + 1) 0) ++ rest) := by
  refine ⟨cellsB n.leaf (n.cells.drop (i + 1)) (n.kids.tail.drop (i + 1)), ?_⟩
  have h := preB_succ n i hi
  have e : packP n = preB n (i + 1) ++ cellsB n.leaf (n.cells.drop (i + 1)) (n.kids.tail.drop (i + 1)) := by
    unfold packP preB
    rw [List.append_assoc]
    congr 1
    have := cellsB_append n.leaf (n.cells.take (i + 1)) (n.cells.drop (i + 1)) n.kids.tail
    rw [List.take_append_drop, List.length_take, Nat.min_eq_left (by omega)] at this
    exact this
  rw [e, h, List.append_assoc]
end Go.Proofs.YthohbbaglceppaaGreatDoor
namespace Go.Proofs.YthohbbaglceppaaGreatDoor
set_option linter.unusedVariables false
def zB (n : Nat) : List UInt8 := List.replicate n 0
theorem zB_len (n : Nat) : (zB n).length = n := by simp [zB]
/-- What a pager holds now: how many pages, the first free one, roots, pages. -/
structure PgS where
  many : Nat
  free : Nat
  roots : Nat → Nat
  page : Nat → List UInt8
def PgS.upd (st : PgS) (no : Nat) (b : List UInt8) : PgS := { st with page := fun k => if k = no then b else st.page k }
/-- A page that may be changed. -/
def PgS.has (st : PgS) (no : Nat) : Prop := 1 ≤ no ∧ no < st.many
/-- As it must be. -/
structure PgS.ok (st : PgS) : Prop where
  one : 1 ≤ st.many
  most : st.many ≤ 65536
  free : st.free < st.many
  roots : ∀ k, st.roots k < st.many
  len : ∀ no, st.has no → (st.page no).length = 508
def CanAlloc (st : PgS) : Prop := (st.free = 0 ∧ st.many < 65536) ∨ (st.free ≠ 0 ∧ numL ((st.page st.free).take 4) < st.many)
def allocN (st : PgS) : Nat := if st.free = 0 then st.many else st.free
def allocS (st : PgS) : PgS :=
  if st.free = 0 then { st.upd st.many (zB 508) with many := st.many + 1 } else { st.upd st.free (zB 508) with free := numL ((st.page st.free).take 4) }
def writeS (st : PgS) (no : Nat) (b : List UInt8) : PgS := st.upd no (b ++ zB (508 - b.length))
def setRootS (st : PgS) (k no : Nat) : PgS := { st with roots := fun j => if j = k then no else st.roots j }
theorem PgS.ok.upd {st : PgS} (h : st.ok) (no : Nat) (b : List UInt8) (hb : b.length = 508) : (st.upd no b).ok := by
  refine ⟨h.one, h.most, h.free, h.roots, fun k hk => ?_⟩
  show (if k = no then b else st.page k).length = 508
  split
  · exact hb
  · exact h.len k hk
theorem PgS.ok.set {st : PgS} (h : st.ok) (k no : Nat) (hn : no < st.many) : (setRootS st k no).ok := by
  refine ⟨h.one, h.most, h.free, fun j => ?_, h.len⟩
  show (if j = k then no else st.roots j) < st.many
  split
  · exact hn
  · exact h.roots j
theorem PgS.ok.alloc {st : PgS} (h : st.ok) (hc : CanAlloc st) : (allocS st).ok ∧ (allocS st).has (allocN st) := by
  unfold allocS allocN
  by_cases h0 : st.free = 0
  · rw [if_pos h0, if_pos h0]
    rcases hc with hc | hc
    · refine ⟨⟨by show 1 ≤ st.many + 1; omega, by show st.many + 1 ≤ 65536; omega, by show st.free < st.many + 1; have := h.free; omega, fun k => by show st.roots k < st.many + 1; have := h.roots k; omega, fun k hk => ?_⟩, by have := h.one; exact this, Nat.lt_succ_self _⟩
      show (if k = st.many then zB 508 else st.page k).length = 508
      by_cases e : k = st.many
      · rw [if_pos e, zB_len]
      · rw [if_neg e]
        exact h.len k ⟨hk.1, by have h2 : k < st.many + 1 := hk.2; omega⟩
    · exact absurd h0 hc.1
  · rw [if_neg h0, if_neg h0]
    rcases hc with hc | hc
    · exact absurd hc.1 h0
    · have h1 := h.upd st.free (zB 508) (zB_len _)
      exact ⟨⟨h1.one, h1.most, hc.2, h1.roots, h1.len⟩, by have := h.free; exact ⟨by omega, this⟩⟩
def IsNode (b : List UInt8) (n : NodeP) : Prop := RightP n ∧ ∃ z, b = packP n ++ zB z
def LoadR (st : PgS) (no : Nat) (n : NodeP) : Prop := st.has no ∧ IsNode (st.page no) n
/-- A node that may be laid on a page. -/
def CanSave (st : PgS) (no : Nat) (n : NodeP) : Prop := st.has no ∧ RightP n ∧ sizeP n ≤ 508
def saveS (st : PgS) (no : Nat) (n : NodeP) : PgS := writeS st no (packP n)
theorem load_saved {st : PgS} {no : Nat} {n : NodeP} (hc : CanSave st no n) : LoadR (saveS st no n) no n := by
  refine ⟨hc.1, hc.2.1, 508 - (packP n).length, ?_⟩
  show (if no = no then _ else _) = _
  rw [if_pos rfl]
/-- Where a key belongs. -/
def findI (cs : List CellP) (key : List UInt8) : Nat := (cs.takeWhile fun c => ltK c.key key).length
def keyAt (cs : List CellP) (i : Nat) (key : List UInt8) : Bool := match cs[i]? with | some c => c.key == key | none => false
def findP (n : NodeP) (key : List UInt8) : Nat × Bool :=
  if keyAt n.cells (findI n.cells key) key = true then (if n.leaf = true then findI n.cells key else findI n.cells key + 1, true) else (findI n.cells key, false)
def partP (n : NodeP) (a b : Nat) : NodeP := ⟨n.leaf, (n.cells.drop a).take (b - a), if n.leaf = true then [] else (n.kids.drop a).take (b + 1 - a)⟩
def skipN (n : NodeP) : Nat := if n.leaf = true then 0 else 1
def bigAt (n : NodeP) (m : Nat) : Nat := max (sizeP (partP n 0 m)) (sizeP (partP n (m + skipN n) n.cells.length))
/-- The best place to part a node, of those below j: how great, and where. -/
def bestTo (n : NodeP) : Nat → Nat × Nat
  | 0 => (0, 0)
  | j + 1 => if (1 ≤ j ∧ j + skipN n < n.cells.length) ∧ ((bestTo n j).1 = 0 ∨ bigAt n j < (bestTo n j).1) then (bigAt n j, j) else bestTo n j
def cutAt (n : NodeP) : Nat := (bestTo n n.cells.length).2
def keyOfC (cs : List CellP) (i : Nat) : List UInt8 := match cs[i]? with | some c => c.key | none => []
def insAt {α : Type} (l : List α) (i : Nat) (x : α) : List α := l.take i ++ x :: l.drop i
end Go.Proofs.YthohbbaglceppaaGreatDoor
