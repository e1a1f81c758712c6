/-
  Contracts of the parser's methods next and put.
-/
import Derived.Test.YtnbfblikpoblgaaDoorParA
namespace Go.Proofs.YtnbfblikpoblgaaDoor
open Go.RowKit
set_option linter.unusedVariables false

theorem PSt.lt {w : World} {b : Nat} {v : Value} {T : List Tok} {out : List Ask} {well : Bool} (h : PSt w b v T out well) : b < w.heap.size := by
  obtain ⟨A, c, km, hB, _⟩ := h
  exact hB.lt
theorem PSt.own_lt {w : World} {b : Nat} {v : Value} {T : List Tok} {out : List Ask} {well : Bool} (h : PSt w b v T out well) (k : Nat) (hk : v.ownBlock = some k) : k < w.heap.size := by
  obtain ⟨A, c, km, hB, hT, hc1, hc2, hO, _⟩ := h
  exact hO.own_lt k hk
/-- A store into a block that is neither the parser's nor its parts'. -/
theorem PSt.far {w : World} {b g i : Nat} {v : Value} {T : List Tok} {out : List Ask} {well : Bool} (h : PSt w b v T out well) (hg : b < g) (hv : v.ownBlock ≠ some g) (u : Value) : PSt (w.setCell ⟨g, i, none⟩ u) b v T out well := by
  obtain ⟨A, c, km, hB, hT, hc1, hc2, hO, hkm, hK, hx⟩ := h
  exact ⟨A, c, km, hB.far (by simp; omega) _, Reads.setCell hT (by simp; omega) _, hc1, hc2, hO.far hv _, hkm, hK.keep (Below.heap_setCell w ⟨g, i, none⟩ _ km (by simp; omega)), hx⟩
/-- The parser's own mark is written. -/
theorem PSt.mark {w : World} {b : Nat} {v : Value} {T : List Tok} {out : List Ask} {well : Bool} (h : PSt w b v T out well) (m : Bool) : PSt (w.setCell ⟨b, 3, none⟩ (.bool m)) b v T out m := by
  obtain ⟨A, c, km, hB, hT, hc1, hc2, hO, hkm, hK, hx⟩ := h
  exact ⟨A, c, km, hB.set_ 3 _, Reads.setCell hT (Nat.le_refl _) _, hc1, hc2, hO.setOther (Nat.lt_succ_self _) _, hkm, hK.keep (Below.heap_setCell w ⟨b, 3, none⟩ _ km (by simp; omega)), hx⟩
theorem PSt.newer {w w' : World} {b : Nat} {v : Value} {T : List Tok} {out : List Ask} {well : Bool} (h : PSt w b v T out well) (hb : Below w.heap.size w w') : PSt w' b v T out well := by
  have hlt := h.lt
  obtain ⟨A, c, km, hB, hT, hc1, hc2, hO, hkm, hK, hx⟩ := h
  exact ⟨A, c, km, hB.below hb hlt, hT.below (hb.mono (by omega)), hc1, hc2, hO.below hb (Nat.le_refl _), hkm, hK.keep (hb.block km (by omega)), hx⟩

/-- The values of a token. -/
def tokV (t : Tok) : Value := .agg #[.int .i64 t.kind, .string (str t.text), .int .i64 t.n, .int .i64 (t.pos : Int)]

set_option maxRecDepth 100000 in
set_option maxHeartbeats 1000000 in
theorem next_nil (w : World) (b : Nat) (v : Value) (out : List Ask) (well : Bool) (h : PSt w b v [] out well) :
    Calls Tryd.prog 92 #[.pointer (some ⟨b, 0, none⟩)] w fun e w' => e = .returned (.agg #[.int .i64 0, .string ⟨#[]⟩, .int .i64 0, .int .i64 0]) ∧ PSt w' b v [] out false ∧ Below b w w' ∧ w.grownBy w' (some b) := by
  have hlt := h.lt
  obtain ⟨A, c, km, hB, hT, hc1, hc2, hO, hkm, hK, hx⟩ := h
  have c0 := hB.cell 0
  have c3 := hB.cell 3
  have f3 := hB.frozen 3
  replace hB := hide hB
  replace hO := hide hO
  replace hK := hide hK
  replace hx := hide hx
  replace hT := hide hT
  go_enter Tryd.func92, Tryd.ntmps92
  go_wp2_with fail
  refine bodyPost_ret (v := .agg #[.int .i64 0, .string ⟨#[]⟩, .int .i64 0, .int .i64 0]) (by simp [results, Tryd.results92, go_sem]) rfl ⟨rfl, ?_, ?_, ?_⟩
  · refine PSt.newer (w := w.setCell ⟨b, 3, none⟩ (.bool false)) ⟨A, c, km, hB.out.set_ 3 _, Reads.setCell hT.out (Nat.le_refl _) _, hc1, hc2, hO.out.setOther (Nat.lt_succ_self _) _, hkm, hK.out.keep (Below.heap_setCell w ⟨b, 3, none⟩ _ km (by simp; omega)), hx.out⟩ ?_
    exact (Below.refl _ _).alloc (Nat.le_refl _) _
  · exact (below_set (Below.refl _ _) (Nat.le_refl _) _).alloc (by simp; omega) _
  · exact gb_alloc (gb_set _ _ _ _) _
set_option maxRecDepth 100000 in
set_option maxHeartbeats 1000000 in
theorem next_cons (w : World) (b : Nat) (v : Value) (t : Tok) (r : List Tok) (out : List Ask) (well : Bool) (h : PSt w b v (t :: r) out well) :
    Calls Tryd.prog 92 #[.pointer (some ⟨b, 0, none⟩)] w fun e w' => e = .returned (tokV t) ∧ PSt w' b v r out well ∧ Below b w w' ∧ w.grownBy w' (some b) := by
  have hlt := h.lt
  obtain ⟨A, c, km, hB, hT, hc1, hc2, hO, hkm, hK, hx⟩ := h
  obtain ⟨ad, rfl, hab, t0, t1, t2, t3⟩ := hT.head
  have hadl : ad.block < w.heap.size := by omega
  have hne : (((r.length : Int) + 1) == 0) = false := by rw [beq_eq_false_iff_ne]; omega
  have c0 := hB.cell 0
  have f0 := hB.frozen 0
  replace hB := hide hB
  replace hO := hide hO
  replace hK := hide hK
  replace hx := hide hx
  replace hT := hide hT
  by_cases hc : c = 1
  · have hr0 : r = [] := by cases r with
      | nil => rfl
      | cons _ _ => simp at hc1; omega
    subst hc hr0
    clear hc1 hc2
    go_enter Tryd.func92, Tryd.ntmps92
    go_wp2_with fail
    refine bodyPost_ret (v := tokV t) (by simp [results, Tryd.results92, go_sem, tokV]) rfl ⟨rfl, ?_, ?_, ?_⟩
    · refine PSt.newer (PSt.pop (c' := 0) hB.out hO.out hkm hK.out (RT.none_ _ _ (some ad)) (by simp) (by unfold maxLen; omega) (fun _ h => by cases h)) ?_
      exact ((Below.refl _ _).alloc (Nat.le_refl _) _).alloc (by simp) _
    · exact ((below_set (Below.refl _ _) (Nat.le_refl _) _).alloc (by simp; omega) _).alloc (by simp; omega) _
    · exact gb_alloc (gb_alloc (gb_set _ _ _ _) _) _
  · go_enter Tryd.func92, Tryd.ntmps92
    go_wp2_with fail
    refine bodyPost_ret (v := tokV t) (by simp [results, Tryd.results92, go_sem, tokV]) rfl ⟨rfl, ?_, ?_, ?_⟩
    · refine PSt.newer (PSt.pop (c' := c - 1) hB.out hO.out hkm hK.out hT.out.tail (by simp at hc1; omega) (by omega) (fun x h => hx.out x (List.mem_cons_of_mem _ h))) ?_
      exact ((Below.refl _ _).alloc (Nat.le_refl _) _).alloc (by simp) _
    · exact ((below_set (Below.refl _ _) (Nat.le_refl _) _).alloc (by simp; omega) _).alloc (by simp; omega) _
    · exact gb_alloc (gb_alloc (gb_set _ _ _ _) _) _

section
variable {ops : Array Oper} {o : Oper} {a : Act} {Q : Exit → Act → World → Prop}
/-- append(v, x), one part that lies in a new block, as a step of a region. -/
theorem step_app_a {K : Act → World → Prop} {E : Prop} {w : World} (x : Ask) (hgd : o.guard = none) (s y : Operand)
    (ho : o.op = .call { callee := .builtin .append, args := #[s, y], argTypes := #[47, 47] })
    (base : Nat) (v : Value) (n : Nat) (l : List Ask) (hown : OA w base v n l) (hs : a.eval s = v) (g c : Nat) (hg : g < w.heap.size)
    (hx : a.eval y = .slice (some ⟨g, 0, none⟩) 1 c) (hc : Blk w g 52 (av x).toArray)
    (hlen : n + 1 ≤ 1000000000) (hbase : base ≤ w.heap.size)
    (h : ∀ v' w', OA w' base v' (n + 1) (l ++ [x]) → Below base w w' → w.grownBy w' v.ownBlock → K (a.put o.dst v') w') :
    if Region.wanted o (yielded ops a.tmps) = true then Oper.wp Tryd.prog o a w K Q else E := by
  obtain ⟨i0, hi0, hz0, hz1, hz2⟩ := info_parts ask_info
  refine step_append_any w hgd s y 47 ho base 52 i0 _ 7 64 Tryd.underlying47 hi0 hz0 hz1 hz2 rfl (by omega) v n (avs l) hs hown (g + 1) (some ⟨g, 0, none⟩) 1 c (av x) hx
    ⟨rfl, fun _ => ⟨_, rfl, Nat.lt_succ_self _, fun j u hj => ?_⟩⟩ (av_one x) (by simp only [maxLen]; omega) (by omega) hbase fun v' w' h1 h2 h3 => ?_
  · rw [show (⟨g, 0, none⟩ : Addr).add j = ⟨g, j, none⟩ from by unfold Addr.add; split <;> simp_all, hc.cell]
    simpa using hj
  · have e : avs l ++ av x = avs (l ++ [x]) := by rw [avs_append]; simp [avs]
    rw [e] at h1
    exact h v' w' h1 ((Below.refl _ _).grown h2 hbase fun k hk => hown.block_lt k hk) h2
end

set_option maxRecDepth 100000 in
set_option maxHeartbeats 2000000 in
theorem put_any (w : World) (b : Nat) (v : Value) (T : List Tok) (out : List Ask) (well : Bool) (x : Ask) (h : PSt w b v T out well) (hl : out.length ≤ 100000) :
    Calls Tryd.prog 70 #[.pointer (some ⟨b, 0, none⟩), .agg #[.int .i64 x.kind, .int .i64 x.op, .int .i64 x.a, .int .i64 x.b, .int .i64 x.n, .string (str x.text), .bool x.isText]] w
      fun e w' => e = .returned (.int .i64 (out.length : Int)) ∧ (∃ v', PSt w' b v' T (out ++ [x]) well) ∧ Below b w w' := by
  have hlt := h.lt
  obtain ⟨A, c, km, hB, hT, hc1, hc2, hO, hkm, hK, hx⟩ := h
  have c1 := hB.cell 1
  have f1 := hB.frozen 1
  replace hB := hide hB
  replace hO := hide hO
  replace hK := hide hK
  replace hx := hide hx
  replace hT := hide hT
  go_enter Tryd.func70, Tryd.ntmps70
  have hAsk := Blk.new w 52 #[.int .i64 x.kind, .int .i64 x.op, .int .i64 x.a, .int .i64 x.b, .int .i64 x.n, .string (str x.text), .bool x.isText]
  have hOx := hide (hO.out.alloc (.cells #[.int .i64 x.kind, .int .i64 x.op, .int .i64 x.a, .int .i64 x.b, .int .i64 x.n, .string (str x.text), .bool x.isText] 52))
  replace hAsk := hide hAsk
  go_wp2_with fail
  have hbs : b + 1 ≤ ((w.alloc (.cells #[.int .i64 x.kind, .int .i64 x.op, .int .i64 x.a, .int .i64 x.b, .int .i64 x.n, .string (str x.text), .bool x.isText] 52)).alloc (.cells #[.int .i64 x.kind, .int .i64 x.op, .int .i64 x.a, .int .i64 x.b, .int .i64 x.n, .string (str x.text), .bool x.isText] 52)).heap.size := by simp; omega
  have hln : out.length + 1 ≤ 1000000000 := by omega
  have hcb : Hid (Blk ((w.alloc (.cells #[.int .i64 x.kind, .int .i64 x.op, .int .i64 x.a, .int .i64 x.b, .int .i64 x.n, .string (str x.text), .bool x.isText] 52)).alloc (.cells #[.int .i64 x.kind, .int .i64 x.op, .int .i64 x.a, .int .i64 x.b, .int .i64 x.n, .string (str x.text), .bool x.isText] 52)) (w.heap.size + 1) 52 (av x).toArray) := by
    have := Blk.new (w.alloc (.cells #[.int .i64 x.kind, .int .i64 x.op, .int .i64 x.a, .int .i64 x.b, .int .i64 x.n, .string (str x.text), .bool x.isText] 52)) 52 #[.int .i64 x.kind, .int .i64 x.op, .int .i64 x.a, .int .i64 x.b, .int .i64 x.n, .string (str x.text), .bool x.isText]
    rw [show (w.alloc (.cells #[.int .i64 x.kind, .int .i64 x.op, .int .i64 x.a, .int .i64 x.b, .int .i64 x.n, .string (str x.text), .bool x.isText] 52)).heap.size = w.heap.size + 1 from by simp] at this
    exact this
  have hBx := hide ((hB.out.alloc (.cells #[.int .i64 x.kind, .int .i64 x.op, .int .i64 x.a, .int .i64 x.b, .int .i64 x.n, .string (str x.text), .bool x.isText] 52)).alloc (.cells #[.int .i64 x.kind, .int .i64 x.op, .int .i64 x.a, .int .i64 x.b, .int .i64 x.n, .string (str x.text), .bool x.isText] 52))
  have hWb := hide ((((Below.refl b w).alloc (by omega) (.cells #[.int .i64 x.kind, .int .i64 x.op, .int .i64 x.a, .int .i64 x.b, .int .i64 x.n, .string (str x.text), .bool x.isText] 52)).alloc (by simp; omega) (.cells #[.int .i64 x.kind, .int .i64 x.op, .int .i64 x.a, .int .i64 x.b, .int .i64 x.n, .string (str x.text), .bool x.isText] 52)).drew)
  go_region_law (refine step_app_a x rfl (.tmp 9) (.tmp 11) rfl (b + 1) v out.length out (hOx.out.alloc _) rfl (w.heap.size + 1) 1 (by simp) rfl hcb.out hln hbs ?_; intro v2 w2 ho2 hb2 hg2; clear hg2; obtain ⟨vA, vc, rfl, -, -, -, -⟩ := ho2.form; replace ho2 := hide ho2; have hB2 := hide (hBx.out.drew.below hb2 (Nat.lt_succ_self _)); have hf2 := hB2.out.frozen 1; have hd2 := hB2.out.cell 1)
  all_goals
    have hbw := hWb.out.trans (hb2.mono (Nat.le_succ b))
    clear hBx hcb hbs hOx hAsk hWb hb2
    go_wp2_with fail
    go_ret
    refine ⟨ret_int (by simp), ?_, ?_⟩
    · refine ⟨.slice vA (out.length + 1) vc, A, c, km, hB2.out.set_ 1 _, ?_, hc1, hc2, ?_, hkm, ?_, hx.out⟩
      · exact Reads.setCell (hT.out.below hbw) (Nat.le_refl _) _
      · rw [List.length_append]
        exact ho2.out.setOther (Nat.lt_succ_self _) _
      · exact hK.out.keep ((Below.heap_setCell w2 ⟨b, 1, none⟩ _ km (by simp; omega)).trans (hbw.block km hkm))
    · exact below_set hbw (Nat.le_refl _) _
end Go.Proofs.YtnbfblikpoblgaaDoor
