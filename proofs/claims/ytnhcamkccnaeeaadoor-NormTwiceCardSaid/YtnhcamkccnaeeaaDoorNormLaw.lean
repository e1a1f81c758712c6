/-
  The question of 'not not (text)'; what Norm answers of a question; behind two nots the same. No program in sight.
-/
import Derived.Test.YtnhcamkccnaeeaaDoorNormSpec
namespace Go.Proofs.YtnhcamkccnaeeaaDoor
set_option linter.unusedVariables false

theorem parseQ_not2 {T : List Tok} {q : Q} (h : parseQ T = some q) : parseQ (notT :: notT :: lpT :: (T ++ [rpT])) = some (.neg (.neg q)) := by
  apply parseQ_of_nots
  rw [notsP, show atW (notT :: notT :: lpT :: (T ++ [rpT])) 1 notW = true from rfl]
  simp only [List.tail_cons, if_true, List.length_cons]
  rw [notsP, show atW (notT :: lpT :: (T ++ [rpT])) 1 notW = true from rfl]
  simp only [List.tail_cons, if_true]
  rw [nots_par h [] _ (by simp)]
theorem textQ_not2 {l : List UInt8} {q : Q} (h : textQ l = some q) (hl : l.length + 10 ≤ 400) : textQ ([110, 111, 116, 32, 110, 111, 116, 32, 40] ++ l ++ [41]) = some (.neg (.neg q)) := by
  obtain ⟨h1, h2, h3⟩ := textQ_len h
  have e : sL ([110, 111, 116, 32, 110, 111, 116, 32, 40] ++ l ++ [41]) = (notT :: notT :: lpT :: ((sL l).1 ++ [rpT]), true) := by
    show sL ([110, 111, 116] ++ 32 :: ([110, 111, 116] ++ 32 :: (40 :: (l ++ 41 :: [])))) = _
    rw [sL_join _ _ (by decide +kernel), sL_join _ _ (by decide +kernel), sL_lp, sL_rp l [] h2]; rfl
  exact textQ_mk (by simp; omega) (by rw [e]) (by rw [e]; exact parseQ_not2 h3)

section
variable (G : List UInt8 → Bool) (D : List UInt8 → Option Int)
/-- What Norm answers of a question: its error; its parts. -/
def normErr (q : Q) : Int := if 16 < q.depth then 11 else errsL G D (q.parts 0)
def normRes (q : Q) : List Ask := if normErr G D q = 0 then normL G D q else []
theorem norm_not2 (q : Q) (ho : okQ q) (hd : q.depth + 2 ≤ 16) : normErr G D (.neg (.neg q)) = normErr G D q ∧ normRes G D (.neg (.neg q)) = normRes G D q := by
  have h1 : normErr G D (.neg (.neg q)) = normErr G D q := by
    unfold normErr
    rw [if_neg (by simp [Q.depth]; omega), if_neg (by omega), errs_terms G D (.neg (.neg q)) 0 ho, errs_terms G D q 0 ho]
    rfl
  refine ⟨h1, ?_⟩
  unfold normRes normL
  rw [h1, layQ_not_not]
end
end Go.Proofs.YtnhcamkccnaeeaaDoor
