/-
  Contract of lex.Tokens.
-/
import Derived.Test.YtnhcamkccnaeeaaGreatDoorLexE
namespace Go.Proofs.YtnhcamkccnaeeaaGreatDoor
open Go.RowKit
set_option linter.unusedVariables false

section
variable {w : World} {g : Nat} {t : TypeId} {a b c d : Value}
theorem Blk.set0 (h : Blk w g t #[a, b, c, d]) (u : Value) : Blk (w.setCell ⟨g, 0, none⟩ u) g t #[u, b, c, d] := h.set_ 0 u
theorem Blk.set1 (h : Blk w g t #[a, b, c, d]) (u : Value) : Blk (w.setCell ⟨g, 1, none⟩ u) g t #[a, u, c, d] := h.set_ 1 u
theorem Blk.set2 (h : Blk w g t #[a, b, c, d]) (u : Value) : Blk (w.setCell ⟨g, 2, none⟩ u) g t #[a, b, u, d] := h.set_ 2 u
theorem Blk.set3 (h : Blk w g t #[a, b, c, d]) (u : Value) : Blk (w.setCell ⟨g, 3, none⟩ u) g t #[a, b, c, u] := h.set_ 3 u
theorem OT.drew {base n : Nat} {v : Value} {l : List Tok} (h : OT w base v n l) : OT w.drew base v n l := h
end
theorem OT.setAt {w : World} {base n g i : Nat} {v : Value} {l : List Tok} (h : OT w base v n l) (hg : g < base) (u : Value) : OT (w.setCell ⟨g, i, none⟩ u) base v n l := h.setOther (p := ⟨g, i, none⟩) hg u
/-- What the switch leaves: a token in the block, its end in slot 7. -/
def SwOut (L : List UInt8) (w0 : World) (p1 : Nat) (ov : Value) (done : List Tok) (v7 : Value) (wx : World) : Prop :=
  ∃ (t : Tok) (k : Nat), tokL (L.drop p1) p1 = some (t, k) ∧ v7 = .int .i64 ((p1 + k : Nat) : Int) ∧
    Blk wx w0.heap.size 104 #[.int .i64 t.kind, .string (str t.text), .int .i64 t.n, .int .i64 (t.pos : Int)] ∧ OT wx (w0.heap.size + 1) ov done.length done ∧ Below w0.heap.size w0 wx
theorem SwOut.mk {L : List UInt8} {w0 wx : World} {p1 : Nat} {ov v7 x0 x1 x2 x3 : Value} {done : List Tok} {t : Tok} {k : Nat} (h : tokL (L.drop p1) p1 = some (t, k)) (h7 : v7 = .int .i64 ((p1 + k : Nat) : Int))
    (hb : Blk wx w0.heap.size 104 #[x0, x1, x2, x3]) (e0 : x0 = .int .i64 t.kind) (e1 : x1 = .string (str t.text)) (e2 : x2 = .int .i64 t.n) (e3 : x3 = .int .i64 (t.pos : Int))
    (ho : OT wx (w0.heap.size + 1) ov done.length done) (hw : Below w0.heap.size w0 wx) : SwOut L w0 p1 ov done v7 wx := by
  subst e0 e1 e2 e3
  exact ⟨t, k, h, h7, hb, ho, hw⟩
/-- The state at the label 'next'. -/
def TokJ (s : ByteArray) (w0 : World) (a : Act) (w : World) : Prop :=
  ∃ (p : Nat) (v : Value) (done : List Tok) (c0 : Int) (c1 : ByteArray) (c2 c3 : Int) (U : Nat → Value),
    a = { tmps := #[.string s, undef, .slice none 0 0, .int .i64 0, .int .i64 0, v, .int .i64 (p : Int), U 7, .pointer (some ⟨w0.heap.size, 0, none⟩), U 9, U 10, U 11, U 12, U 13, U 14, U 15, U 16, U 17, U 18, U 19, U 20, U 21, U 22, U 23, U 24, U 25, U 26, U 27, U 28, U 29, U 30, U 31, U 32, U 33, U 34, U 35, U 36, U 37, U 38, U 39, U 40, U 41, U 42, U 43, U 44, U 45, U 46, U 47, U 48, U 49, U 50, U 51, U 52, U 53, U 54, U 55, U 56, U 57, U 58, U 59, U 60, U 61, U 62, U 63, U 64, U 65, U 66, U 67, U 68, U 69, U 70, U 71, U 72, U 73, U 74, U 75, U 76, U 77, U 78, U 79, U 80, U 81, U 82, U 83, U 84, U 85, U 86, U 87], defers := [] } ∧
    TRel s.data.toList p done ∧ OT w (w0.heap.size + 1) v done.length done ∧ done.length ≤ p ∧ Blk w w0.heap.size 104 #[.int .i64 c0, .string c1, .int .i64 c2, .int .i64 c3] ∧ Below w0.heap.size w0 w
/-- The state at the label 'bad'. -/
def TokD (s : ByteArray) (w0 : World) (a : Act) (w : World) : Prop :=
  ∃ (p : Nat) (done : List Tok) (U : Nat → Value),
    a = { tmps := #[.string s, undef, U 2, U 3, U 4, U 5, .int .i64 (p : Int), U 7, U 8, U 9, U 10, U 11, U 12, U 13, U 14, U 15, U 16, U 17, U 18, U 19, U 20, U 21, U 22, U 23, U 24, U 25, U 26, U 27, U 28, U 29, U 30, U 31, U 32, U 33, U 34, U 35, U 36, U 37, U 38, U 39, U 40, U 41, U 42, U 43, U 44, U 45, U 46, U 47, U 48, U 49, U 50, U 51, U 52, U 53, U 54, U 55, U 56, U 57, U 58, U 59, U 60, U 61, U 62, U 63, U 64, U 65, U 66, U 67, U 68, U 69, U 70, U 71, U 72, U 73, U 74, U 75, U 76, U 77, U 78, U 79, U 80, U 81, U 82, U 83, U 84, U 85, U 86, U 87], defers := [] } ∧
    toks s.data.toList = (done, p, false) ∧ Below w0.heap.size w0 w

theorem OT.more {w : World} {b b' n : Nat} {v : Value} {l : List Tok} (h : OT w b v n l) (hb : b' ≤ b) : OT w b' v n l := by
  obtain ⟨h1, h2⟩ := h
  refine ⟨h1, ?_⟩
  rcases h2 with h2 | ⟨g, cap, cur, hv, hg, hh, r⟩
  · exact Or.inl h2
  · exact Or.inr ⟨g, cap, cur, hv, by omega, hh, r⟩
theorem TokJ.mk {s : ByteArray} {w0 w : World} {p : Nat} {v : Value} {done : List Tok} {c0 : Int} {c1 : ByteArray} {c2 c3 : Int} {u7 u9 u10 u11 u12 u13 u14 u15 u16 u17 u18 u19 u20 u21 u22 u23 u24 u25 u26 u27 u28 u29 u30 u31 u32 u33 u34 u35 u36 u37 u38 u39 u40 u41 u42 u43 u44 u45 u46 u47 u48 u49 u50 u51 u52 u53 u54 u55 u56 u57 u58 u59 u60 u61 u62 u63 u64 u65 u66 u67 u68 u69 u70 u71 u72 u73 u74 u75 u76 u77 u78 u79 u80 u81 u82 u83 u84 u85 u86 u87 : Value}
    (h1 : TRel s.data.toList p done) (h2 : OT w (w0.heap.size + 1) v done.length done) (h3 : done.length ≤ p) (h4 : Blk w w0.heap.size 104 #[.int .i64 c0, .string c1, .int .i64 c2, .int .i64 c3]) (h5 : Below w0.heap.size w0 w) :
    TokJ s w0 { tmps := #[.string s, undef, .slice none 0 0, .int .i64 0, .int .i64 0, v, .int .i64 (p : Int), u7, .pointer (some ⟨w0.heap.size, 0, none⟩), u9, u10, u11, u12, u13, u14, u15, u16, u17, u18, u19, u20, u21, u22, u23, u24, u25, u26, u27, u28, u29, u30, u31, u32, u33, u34, u35, u36, u37, u38, u39, u40, u41, u42, u43, u44, u45, u46, u47, u48, u49, u50, u51, u52, u53, u54, u55, u56, u57, u58, u59, u60, u61, u62, u63, u64, u65, u66, u67, u68, u69, u70, u71, u72, u73, u74, u75, u76, u77, u78, u79, u80, u81, u82, u83, u84, u85, u86, u87], defers := [] } w :=
  ⟨p, v, done, c0, c1, c2, c3, fun n => (#[undef, undef, undef, undef, undef, undef, undef, u7, undef, u9, u10, u11, u12, u13, u14, u15, u16, u17, u18, u19, u20, u21, u22, u23, u24, u25, u26, u27, u28, u29, u30, u31, u32, u33, u34, u35, u36, u37, u38, u39, u40, u41, u42, u43, u44, u45, u46, u47, u48, u49, u50, u51, u52, u53, u54, u55, u56, u57, u58, u59, u60, u61, u62, u63, u64, u65, u66, u67, u68, u69, u70, u71, u72, u73, u74, u75, u76, u77, u78, u79, u80, u81, u82, u83, u84, u85, u86, u87] : Array Value).getD n undef, rfl, h1, h2, h3, h4, h5⟩
theorem TokD.mk {s : ByteArray} {w0 w : World} {p : Nat} {done : List Tok} {u2 u3 u4 u5 u7 u8 u9 u10 u11 u12 u13 u14 u15 u16 u17 u18 u19 u20 u21 u22 u23 u24 u25 u26 u27 u28 u29 u30 u31 u32 u33 u34 u35 u36 u37 u38 u39 u40 u41 u42 u43 u44 u45 u46 u47 u48 u49 u50 u51 u52 u53 u54 u55 u56 u57 u58 u59 u60 u61 u62 u63 u64 u65 u66 u67 u68 u69 u70 u71 u72 u73 u74 u75 u76 u77 u78 u79 u80 u81 u82 u83 u84 u85 u86 u87 : Value}
    (h1 : toks s.data.toList = (done, p, false)) (h5 : Below w0.heap.size w0 w) :
    TokD s w0 { tmps := #[.string s, undef, u2, u3, u4, u5, .int .i64 (p : Int), u7, u8, u9, u10, u11, u12, u13, u14, u15, u16, u17, u18, u19, u20, u21, u22, u23, u24, u25, u26, u27, u28, u29, u30, u31, u32, u33, u34, u35, u36, u37, u38, u39, u40, u41, u42, u43, u44, u45, u46, u47, u48, u49, u50, u51, u52, u53, u54, u55, u56, u57, u58, u59, u60, u61, u62, u63, u64, u65, u66, u67, u68, u69, u70, u71, u72, u73, u74, u75, u76, u77, u78, u79, u80, u81, u82, u83, u84, u85, u86, u87], defers := [] } w :=
  ⟨p, done, fun n => (#[undef, undef, u2, u3, u4, u5, undef, u7, u8, u9, u10, u11, u12, u13, u14, u15, u16, u17, u18, u19, u20, u21, u22, u23, u24, u25, u26, u27, u28, u29, u30, u31, u32, u33, u34, u35, u36, u37, u38, u39, u40, u41, u42, u43, u44, u45, u46, u47, u48, u49, u50, u51, u52, u53, u54, u55, u56, u57, u58, u59, u60, u61, u62, u63, u64, u65, u66, u67, u68, u69, u70, u71, u72, u73, u74, u75, u76, u77, u78, u79, u80, u81, u82, u83, u84, u85, u86, u87] : Array Value).getD n undef, rfl, h1, h5⟩

set_option maxHeartbeats 4000000 in
set_option maxRecDepth 100000 in
theorem tokens_any (s : ByteArray) (w : World) (hs : s.size ≤ 1000000) :
    Calls Tryz.prog 53 #[.string s] w (TRet w (lexL s.data.toList) (lexAt s.data.toList) (lexE s.data.toList)) := by
  have hlen := hide (data_len s)
  by_cases h4 : s.size ≤ 400
  · go_enter Tryz.func53, Tryz.ntmps53
    go_wp2_with fail
    refine wp_scope_two 0 1 rfl rfl (TokJ s w) (TokD s w) (fun a' _ => s.size - (intOf (a'.tmps.getD 6 undef)).toNat) ?_ ?_ ?_
    · rintro a' w1 ⟨p, v, done, c0, c1, c2, c3, U, rfl, ht, ho, hdl, hB, hb⟩
      have hsz := hb.size
      have hpl : p ≤ s.size := by have := ht.1; have := hlen.out; omega
      have HT := hide ht
      have HO := hide ho
      have HB := hide hB
      clear ht ho hB
      go_wp2_with fail
      refine (run_blank s p w1 hs hpl).mono ?_
      rintro e w2 ⟨rfl, rfl⟩
      have HT1 := hide HT.out.blank
      have hp1 := HT1.out.1
      generalize hgp : p + runL blankB (s.data.toList.drop p) = p1 at *
      have hpp : p ≤ p1 := by omega
      have h0 : Hid (runL blankB (s.data.toList.drop p1) = 0) := by rw [Hid, ← hgp, ← List.drop_drop]; exact runL_rest _ _
      clear HT hgp
      rw [hlen.out] at hp1
      by_cases hend : p1 = s.size
      · have hst := hide (HT1.out.stop (by have := hlen.out; omega))
        have heq : ((p1 : Int) == (s.size : Int)) = true := by rw [beq_iff_eq]; omega
        clear hend
        go_wp2_with fail
        simp only [jump2]
        go_ret3
        have e4 : ¬ 400 < s.data.toList.length := by have := hlen.out; omega
        exact TRet.mk (OT.more HO.out (by omega)) (by rw [lexL, if_neg e4, hst.out]; rfl) (by rw [lexAt, if_neg e4, hst.out]) (by rw [lexE, if_neg e4, hst.out]; rfl) hb
      · have hlt : p1 < s.size := by omega
        have hne : ((p1 : Int) == (s.size : Int)) = false := by rw [beq_eq_false_iff_ne]; omega
        have hq0 := HB.out.cell 0
        have hq1 := HB.out.cell 1
        have hq2 := HB.out.cell 2
        have hq3 := HB.out.cell 3
        have hf0 := HB.out.frozen 0
        have hf1 := HB.out.frozen 1
        have hf2 := HB.out.frozen 2
        have hf3 := HB.out.frozen 3
        clear hend
        go_upto_region 10 with fail
        obtain ⟨w2, hw2⟩ : ∃ x, x = (((w1.setCell ⟨w.heap.size, 0, none⟩ (.int .i64 0)).setCell ⟨w.heap.size, 1, none⟩ (.string ⟨#[]⟩)).setCell ⟨w.heap.size, 2, none⟩ (.int .i64 0)).setCell ⟨w.heap.size, 3, none⟩ (.int .i64 (p1 : Int)) := ⟨_, rfl⟩
        rw [← hw2]
        have HB2 : Hid (Blk w2 w.heap.size 104 #[.int .i64 0, .string ⟨#[]⟩, .int .i64 0, .int .i64 (p1 : Int)]) := by
          rw [hw2]; exact (((HB.out.set_ 0 _).set_ 1 _).set_ 2 _).set_ 3 _
        have HO2 : Hid (OT w2 (w.heap.size + 1) v done.length done) := by
          rw [hw2]; exact ((((HO.out.setOther (Nat.lt_succ_self _) _).setOther (Nat.lt_succ_self _) _).setOther (Nat.lt_succ_self _) _).setOther (Nat.lt_succ_self _) _)
        have hb2 : Below w.heap.size w w2 := by
          rw [hw2]; exact (((hb.setCell (Nat.le_refl _) _).setCell (Nat.le_refl _) _).setCell (Nat.le_refl _) _).setCell (Nat.le_refl _) _
        clear hw2 hq0 hq1 hq2 hq3 hf0 hf1 hf2 hf3 HB HO hb hsz
        clear w1
        have hq0 := HB2.out.cell 0
        have hq1 := HB2.out.cell 1
        have hq2 := HB2.out.cell 2
        have hq3 := HB2.out.cell 3
        have hf0 := HB2.out.frozen 0
        have hf1 := HB2.out.frozen 1
        have hf2 := HB2.out.frozen 2
        have hf3 := HB2.out.frozen 3
        have hsz2 := hb2.size
        go_upto_block 0 with fail
        have hp1L : p1 < s.data.toList.length := by have := hlen.out; omega
        have hget := hide (str_get s p1 hlt hp1L)
        have hdn : done.length ≤ p1 := by omega
        go_cut [7] (fun v7 wx => SwOut s.data.toList w p1 v done v7 wx)
        case first =>
          by_cases hsm : smallB s[p1] = true
          · have hr : runL smallB (s.data.toList.drop p1) ≠ 0 := by
              rw [Ne, runL_head _ _ _ hp1L, ← hget.out, hsm]; simp
            have hT := hide (show tokL (s.data.toList.drop p1) p1 = some (⟨1, (s.data.toList.drop p1).takeWhile smallB, 0, p1⟩, runL smallB (s.data.toList.drop p1)) from by rw [tokL, if_pos hr])
            have hX := hide (extract_run s smallB p1)
            have hle := takeWhile_len smallB (s.data.toList.drop p1)
            rw [List.length_drop, hlen.out] at hle
            go_wp2_with fail
            refine (small_any _ _).mono ?_
            rintro e w3 ⟨rfl, rfl⟩
            rw [hsm]
            clear hsm hr hget
            go_wp2_with fail
            refine (run_small s p1 w2 hs (by omega)).mono ?_
            rintro e w3 ⟨rfl, rfl⟩
            generalize hgk : p1 + runL smallB (s.data.toList.drop p1) = e1 at *
            have hgk' := hide hgk
            clear hgk
            have hle1 : p1 ≤ e1 := by have := hgk'.out; omega
            have hle2 : e1 ≤ s.size := by have := hgk'.out; omega
            clear hle
            go_wp2_with fail
            go_region
            all_goals
              go_wp2_with fail
              go_meet
              refine SwOut.mk (x0 := .int .i64 1) (x1 := .string (s.extract p1 e1)) (x2 := .int .i64 0) (x3 := .int .i64 (p1 : Int)) hT.out (by rw [hgk'.out]) ?_ rfl (by rw [hX.out]) rfl rfl ?_ ?_
              · repeat (first | exact HB2.out | apply Blk.set0 | apply Blk.set1 | apply Blk.set2 | apply Blk.drew)
              · repeat (first | exact HO2.out | refine OT.setAt ?_ (Nat.lt_succ_self _) _ | apply OT.drew)
              · repeat (first | exact hb2 | refine below_set ?_ (Nat.le_refl _) _ | apply Below.drew)
          · have hsm' : smallB s[p1] = false := by simpa using hsm
            have hr : ¬ runL smallB (s.data.toList.drop p1) ≠ 0 := by
              rw [Ne, runL_head _ _ _ hp1L, ← hget.out, hsm']; simp
            clear hsm
            go_wp2_with fail
            refine (small_any _ _).mono ?_
            rintro e w3 ⟨rfl, rfl⟩
            rw [hsm']
            clear hsm'
            go_wp2_with fail
            by_cases hdg : digitB s[p1] = true
            · have hr2 : runL digitB (s.data.toList.drop p1) ≠ 0 := by
                rw [Ne, runL_head _ _ _ hp1L, ← hget.out, hdg]; simp
              have hT := hide (show tokL (s.data.toList.drop p1) p1 = if numBad ((s.data.toList.drop p1).takeWhile digitB) then none else some (⟨2, [], numOf ((s.data.toList.drop p1).takeWhile digitB), p1⟩, runL digitB (s.data.toList.drop p1)) from by rw [tokL, if_neg hr, if_pos hr2])
              have hX := hide (extract_run s digitB p1)
              have hle := takeWhile_len digitB (s.data.toList.drop p1)
              rw [List.length_drop, hlen.out] at hle
              refine (digit_any _ _).mono ?_
              rintro e w3 ⟨rfl, rfl⟩
              rw [hdg]
              clear hdg hget
              go_wp2_with fail
              refine (run_digit s p1 w2 hs (by omega)).mono ?_
              rintro e w3 ⟨rfl, rfl⟩
              generalize hgk : p1 + runL digitB (s.data.toList.drop p1) = e1 at *
              have hgk' := hide hgk
              clear hgk
              have hle1 : p1 < e1 := by have := hgk'.out; omega
              have hle2 : e1 ≤ s.size := by have := hgk'.out; omega
              have hdd : ∀ x ∈ (s.data.toList.drop p1).takeWhile digitB, digitB x = true := fun x hx => takeWhile_all _ _ x hx
              have hdl1 : Hid (((s.data.toList.drop p1).takeWhile digitB).length = e1 - p1) := by rw [Hid, show ((s.data.toList.drop p1).takeWhile digitB).length = runL digitB (s.data.toList.drop p1) from rfl]; have := hgk'.out; omega
              clear hle hr hr2
              replace hdd := hide hdd
              generalize hgd : (s.data.toList.drop p1).takeWhile digitB = d at *
              have hgd' := hide hgd
              clear hgd
              go_wp2_with fail
              rw [hX.out]
              refine (number_any (str d) w2 (by rw [str_toList]; exact hdd.out) (by rw [str_size, hdl1.out]; omega) (by rw [str_size, hdl1.out]; omega)).mono ?_
              rintro e w3 ⟨rfl, rfl⟩
              rw [str_toList]
              by_cases hbad : numBad d = true
              · have hR : numR d = -1 := by rw [numR, if_pos hbad]
                have hst := hide (HT1.out.bad hp1L h0.out (by rw [hT.out, if_pos hbad]))
                rw [hR]
                clear hR hbad
                go_wp2_with fail
                go_step3
                refine Or.inr ⟨rfl, ?_⟩
                refine TokD.mk hst.out ?_
                repeat (first | exact hb2 | refine below_set ?_ (Nat.le_refl _) _ | apply Below.drew)
              · have hR : numR d = numOf d := by rw [numR, if_neg hbad]
                have hn := (numOf_bounds d hdd.out d.length (Nat.le_refl _)).1
                rw [List.take_length] at hn
                have hT2 := hT.out
                rw [if_neg hbad] at hT2
                replace hT2 := hide hT2
                rw [hR]
                clear hR hbad hT
                generalize numOf d = nn at *
                go_wp2_with fail
                go_meet
                refine SwOut.mk (x0 := .int .i64 2) (x1 := .string ⟨#[]⟩) (x2 := .int .i64 nn) (x3 := .int .i64 (p1 : Int)) hT2.out (by rw [hgk'.out]) ?_ rfl rfl rfl rfl ?_ ?_
                · repeat (first | exact HB2.out | apply Blk.set0 | apply Blk.set1 | apply Blk.set2 | apply Blk.drew)
                · repeat (first | exact HO2.out | refine OT.setAt ?_ (Nat.lt_succ_self _) _ | apply OT.drew)
                · repeat (first | exact hb2 | refine below_set ?_ (Nat.le_refl _) _ | apply Below.drew)
            · have hdg' : digitB s[p1] = false := by simpa using hdg
              have hr2 : ¬ runL digitB (s.data.toList.drop p1) ≠ 0 := by
                rw [Ne, runL_head _ _ _ hp1L, ← hget.out, hdg']; simp
              clear hdg
              refine (digit_any _ _).mono ?_
              rintro e w3 ⟨rfl, rfl⟩
              rw [hdg']
              clear hdg'
              have hdrop := hide (drop_head s.data.toList p1 hp1L)
              by_cases hq : s.data.toList[p1] = 34
              · have e34 : ((s[p1].toNat : Int) == 34) = true := by rw [hget.out, hq]; rfl
                have hT := hide (show tokL (s.data.toList.drop p1) p1 = (quotedL (s.data.toList.drop (p1 + 1))).map fun x => (⟨3, x.1, 0, p1⟩, x.2 + 1) from by
                  rw [tokL, if_neg hr, if_neg hr2, hdrop.out, hq]; simp)
                clear hq hget hdrop hr hr2
                go_wp2_with fail
                obtain ⟨w3, hw3⟩ : ∃ x, x = w2.setCell ⟨w.heap.size, 0, none⟩ (.int .i64 3) := ⟨_, rfl⟩
                rw [← hw3]
                have HB3 : Hid (Blk w3 w.heap.size 104 #[.int .i64 3, .string ⟨#[]⟩, .int .i64 0, .int .i64 (p1 : Int)]) := by rw [hw3]; exact HB2.out.set0 _
                have HO3 : Hid (OT w3 (w.heap.size + 1) v done.length done) := by rw [hw3]; exact HO2.out.setAt (Nat.lt_succ_self _) _
                have hb3 : Below w.heap.size w w3 := by rw [hw3]; exact below_set hb2 (Nat.le_refl _) _
                clear hw3 hq0 hq1 hq2 hq3 hf0 hf1 hf2 hf3 HB2 HO2 hb2 hsz2
                clear w2
                refine (quoted_any s (p1 + 1) w3 hs (by omega)).mono ?_
                rintro e w4 ⟨rfl, hb4⟩
                have hgl := HB3.out.lt
                have HB4 := hide (HB3.out.below hb4 hgl)
                have HO4 := hide (HO3.out.below hb4 (Nat.le_refl _))
                have hb5 := hb3.trans (hb4.mono (by omega))
                have hq0 := HB4.out.cell 0
                have hq1 := HB4.out.cell 1
                have hq2 := HB4.out.cell 2
                have hq3 := HB4.out.cell 3
                have hf1 := HB4.out.frozen 1
                clear HB3 HO3 hb3 hb4 hgl
                cases hQ : quotedL (s.data.toList.drop (p1 + 1)) with
                | none =>
                  have eT : quotedT (s.data.toList.drop (p1 + 1)) = [] := by rw [quotedT, hQ]
                  have eE : quotedE (p1 + 1) (s.data.toList.drop (p1 + 1)) = -1 := by rw [quotedE, hQ]
                  have hst := hide (HT1.out.bad hp1L h0.out (by rw [hT.out, hQ]; rfl))
                  rw [eT, eE]
                  clear eT eE hT hQ
                  go_wp2_with fail
                  go_step3
                  refine Or.inr ⟨rfl, ?_⟩
                  refine TokD.mk hst.out ?_
                  repeat (first | exact hb5 | refine below_set ?_ (Nat.le_refl _) _ | apply Below.drew)
                | some x =>
                  obtain ⟨tx, n⟩ := x
                  have eT : quotedT (s.data.toList.drop (p1 + 1)) = tx := by rw [quotedT, hQ]
                  have eE : quotedE (p1 + 1) (s.data.toList.drop (p1 + 1)) = ((p1 + 1 + n : Nat) : Int) := by rw [quotedE, hQ]; simp
                  have hT2 := hT.out
                  rw [hQ] at hT2
                  simp only [Option.map_some] at hT2
                  replace hT2 := hide hT2
                  have hn := (quotedL_len _ _ (Nat.le_refl _) _ hQ)
                  rw [List.length_drop, hlen.out] at hn
                  obtain ⟨hn1, hn2⟩ := hn
                  simp only at hn1 hn2
                  rw [eT, eE]
                  clear eT eE hT hQ
                  generalize hge : p1 + 1 + n = e1 at *
                  have hge' := hide hge
                  clear hge
                  go_wp2_with fail
                  go_meet
                  refine SwOut.mk (x0 := .int .i64 3) (x1 := .string (str tx)) (x2 := .int .i64 0) (x3 := .int .i64 (p1 : Int)) hT2.out (by rw [← hge'.out]; simp; omega) ?_ rfl rfl rfl rfl ?_ ?_
                  · repeat (first | exact HB4.out | apply Blk.set0 | apply Blk.set1 | apply Blk.set2 | apply Blk.drew)
                  · repeat (first | exact HO4.out | refine OT.setAt ?_ (Nat.lt_succ_self _) _ | apply OT.drew)
                  · repeat (first | exact hb5 | refine below_set ?_ (Nat.le_refl _) _ | apply Below.drew)
              · have e34 : ((s[p1].toNat : Int) == 34) = false := by rw [hget.out, beq_eq_false_iff_ne]; exact fun e => hq (u8_34.2 e)
                have hT := hide (show tokL (s.data.toList.drop p1) p1 = if markL (s.data.toList.drop p1) = [] then none else some (⟨4, markL (s.data.toList.drop p1), 0, p1⟩, (markL (s.data.toList.drop p1)).length) from by
                  rw [tokL, if_neg hr, if_neg hr2, if_neg (by rw [hdrop.out]; simpa using hq)])
                have hml := markL_len (s.data.toList.drop p1)
                rw [List.length_drop, hlen.out] at hml
                clear hq hget hdrop hr hr2
                go_wp2_with fail
                refine (mark_any s p1 w2 hs (by omega)).mono ?_
                rintro e w3 ⟨rfl, rfl⟩
                generalize markL (s.data.toList.drop p1) = mk at *
                by_cases hm : mk = []
                · have hst := hide (HT1.out.bad hp1L h0.out (by rw [hT.out, if_pos hm]))
                  subst hm
                  have hemp : (str []).toList.isEmpty = true := by rw [str_bytes]; rfl
                  clear hT hml
                  go_wp2_with fail
                  go_step3
                  refine Or.inr ⟨rfl, ?_⟩
                  refine TokD.mk hst.out ?_
                  repeat (first | exact hb2 | refine below_set ?_ (Nat.le_refl _) _ | apply Below.drew)
                · have hT2 := hT.out
                  rw [if_neg hm] at hT2
                  replace hT2 := hide hT2
                  have hm1 := hml.2 hm
                  have hm2 := hml.1
                  have hmt := str_size mk
                  have hemp : (str mk).toList.isEmpty = false := by rw [str_bytes]; simpa using hm
                  clear hT hml hm
                  go_wp2_with fail
                  go_meet
                  refine SwOut.mk (x0 := .int .i64 4) (x1 := .string (str mk)) (x2 := .int .i64 0) (x3 := .int .i64 (p1 : Int)) hT2.out (by simp) ?_ rfl rfl rfl rfl ?_ ?_
                  · repeat (first | exact HB2.out | apply Blk.set0 | apply Blk.set1 | apply Blk.set2 | apply Blk.drew)
                  · repeat (first | exact HO2.out | refine OT.setAt ?_ (Nat.lt_succ_self _) _ | apply OT.drew)
                  · repeat (first | exact hb2 | refine below_set ?_ (Nat.le_refl _) _ | apply Below.drew)
        case rest =>
          obtain ⟨t, k, ht, rfl, hB, hO, hbx⟩ := hcut
          have hk := tokL_len _ _ _ ht
          rw [List.length_drop, hlen.out] at hk
          obtain ⟨hk1, hk2, _⟩ := hk
          simp only at hk1 hk2
          have HT2 := hide (HT1.out.token hp1L h0.out ht)
          have HB := hide hB
          have HO := hide hO
          clear hB hO ht hq0 hq1 hq2 hq3 hf0 hf1 hf2 hf3 HB2 HO2 hb2 hsz2 hget hne
          clear w2
          have hq0 := HB.out.cell 0
          have hq1 := HB.out.cell 1
          have hq2 := HB.out.cell 2
          have hq3 := HB.out.cell 3
          have hgl := HB.out.lt
          generalize hge : p1 + k = e1 at *
          have hge' := hide hge
          clear hge
          have hse : e1 ≤ s.size := by have := hge'.out; omega
          have hpe : p < e1 := by have := hge'.out; omega
          go_wp2_with (at_builtin; refine wpList_app_t t rfl rfl rfl rfl rfl (.tmp 82) (.tmp 84) rfl (w.heap.size + 1) v done.length done HO.out rfl _ rfl (by omega) (by omega) ?_; intro v4 w4 ho4 hb4 hg4)
          go_step3
          refine Or.inl ⟨rfl, ?_, ?_⟩
          · exact TokJ.mk HT2.out (by rw [List.length_append]; exact ho4) (by rw [List.length_append]; simp; omega) (HB.out.below hb4 (Nat.lt_succ_self _)) (hbx.trans (hb4.mono (Nat.le_succ _)))
          · simp [intOf]; omega
    · rintro a' w1 ⟨p, done, U, rfl, hst, hb⟩
      have e4 : ¬ 400 < s.data.toList.length := by have := hlen.out; omega
      have h1 : Hid (lexL s.data.toList = []) := by rw [Hid, lexL, if_neg e4, hst]; rfl
      have h2 : Hid (lexAt s.data.toList = p) := by rw [Hid, lexAt, if_neg e4, hst]
      have h3 : Hid (lexE s.data.toList = 19) := by rw [Hid, lexE, if_neg e4, hst]; rfl
      clear hst e4
      go_wp2_with fail
      try rw [Exit.noGoto_ret]
      go_ret3
      exact TRet.mk (OT.nil _ _) h1.out h2.out h3.out hb
    · intro hpass
      replace hpass := hide hpass
      go_wp2_with fail
      refine wp_label ?_
      rename_i hK
      refine hK _ _ (hpass.out _ _ ?_)
      exact TokJ.mk (TRel.start _) (OT.nil _ _) (Nat.le_refl _) (Blk.new _ _ _) ((Below.refl _ _).alloc (Nat.le_refl _) _)
  · have e1 : Hid (lexL s.data.toList = []) := by rw [Hid, lexL, if_pos (by have := hlen.out; omega)]
    have e2 : Hid (lexAt s.data.toList = 0) := by rw [Hid, lexAt, if_pos (by have := hlen.out; omega)]
    have e3 : Hid (lexE s.data.toList = 10) := by rw [Hid, lexE, if_pos (by have := hlen.out; omega)]
    go_enter Tryz.func53, Tryz.ntmps53
    go_wp2_with fail
    go_step3
    go_wp2_with fail
    rw [Exit.noGoto_ret]
    go_ret3
    exact TRet.mk (OT.nil _ _) e1.out (p' := 0) e2.out e3.out (Below.refl _ _)
end Go.Proofs.YtnhcamkccnaeeaaGreatDoor
