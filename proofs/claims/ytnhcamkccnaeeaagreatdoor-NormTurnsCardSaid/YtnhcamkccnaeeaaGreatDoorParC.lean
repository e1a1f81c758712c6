/-
  Contracts of the parser's methods next and put.
  Contract of parse.op: what a mark compares by.
-/
import Derived.Test.YtnhcamkccnaeeaaGreatDoorParA
import Derived.Test.YtnhcamkccnaeeaaGreatDoorShelf
import Derived.Lib.SmallJoins
import Derived.Lib.ItoaMem
namespace Go.Proofs.YtnhcamkccnaeeaaGreatDoor
open Go.RowKit
set_option linter.unusedVariables false

theorem PSt.lt {w : World} {b : Nat} {v : Value} {T : List Tok} {out : List Ask} {well : Bool} (h : PSt w b v T out well) : b < w.heap.size := by
  obtain ⟨A, c, km, hB, _⟩ := h
  exact hB.lt
theorem PSt.own_lt {w : World} {b : Nat} {v : Value} {T : List Tok} {out : List Ask} {well : Bool} (h : PSt w b v T out well) (k : Nat) (hk : v.ownBlock = some k) : k < w.heap.size := by
  obtain ⟨A, c, km, hB, hT, hc1, hc2, hO, _⟩ := h
  exact hO.own_lt k hk
/-- A store into a block that is neither the parser's nor its parts'. -/
theorem PSt.far {w : World} {b g i : Nat} {v : Value} {T : List Tok} {out : List Ask} {well : Bool} (h : PSt w b v T out well) (hg : b < g) (hv : v.ownBlock ≠ some g) (u : Value) : PSt (w.setCell ⟨g, i, none⟩ u) b v T out well := by
  obtain ⟨A, c, km, hB, hT, hc1, hc2, hO, hkm, hK, hx⟩ := h
  exact ⟨A, c, km, hB.far (by simp; omega) _, Reads.setCell hT (by simp; omega) _, hc1, hc2, hO.far hv _, hkm, hK.keep (Below.heap_setCell w ⟨g, i, none⟩ _ km (by simp; omega)), hx⟩
/-- The parser's own mark is written. -/
theorem PSt.mark {w : World} {b : Nat} {v : Value} {T : List Tok} {out : List Ask} {well : Bool} (h : PSt w b v T out well) (m : Bool) : PSt (w.setCell ⟨b, 3, none⟩ (.bool m)) b v T out m := by
  obtain ⟨A, c, km, hB, hT, hc1, hc2, hO, hkm, hK, hx⟩ := h
  exact ⟨A, c, km, hB.set_ 3 _, Reads.setCell hT (Nat.le_refl _) _, hc1, hc2, hO.setOther (Nat.lt_succ_self _) _, hkm, hK.keep (Below.heap_setCell w ⟨b, 3, none⟩ _ km (by simp; omega)), hx⟩
theorem PSt.newer {w w' : World} {b : Nat} {v : Value} {T : List Tok} {out : List Ask} {well : Bool} (h : PSt w b v T out well) (hb : Below w.heap.size w w') : PSt w' b v T out well := by
  have hlt := h.lt
  obtain ⟨A, c, km, hB, hT, hc1, hc2, hO, hkm, hK, hx⟩ := h
  exact ⟨A, c, km, hB.below hb hlt, hT.below (hb.mono (by omega)), hc1, hc2, hO.below hb (Nat.le_refl _), hkm, hK.keep (hb.block km (by omega)), hx⟩

/-- The values of a token. -/
def tokV (t : Tok) : Value := .agg #[.int .i64 t.kind, .string (str t.text), .int .i64 t.n, .int .i64 (t.pos : Int)]

set_option maxRecDepth 100000 in
set_option maxHeartbeats 1000000 in
theorem next_nil (w : World) (b : Nat) (v : Value) (out : List Ask) (well : Bool) (h : PSt w b v [] out well) :
    Calls Tryz.prog 143 #[.pointer (some ⟨b, 0, none⟩)] w fun e w' => e = .returned (.agg #[.int .i64 0, .string ⟨#[]⟩, .int .i64 0, .int .i64 0]) ∧ PSt w' b v [] out false ∧ Below b w w' ∧ w.grownBy w' (some b) := by
  have hlt := h.lt
  obtain ⟨A, c, km, hB, hT, hc1, hc2, hO, hkm, hK, hx⟩ := h
  have c0 := hB.cell 0
  have c3 := hB.cell 3
  have f3 := hB.frozen 3
  replace hB := hide hB
  replace hO := hide hO
  replace hK := hide hK
  replace hx := hide hx
  replace hT := hide hT
  go_enter Tryz.func143, Tryz.ntmps143
  go_wp2_with fail
  refine bodyPost_ret (v := .agg #[.int .i64 0, .string ⟨#[]⟩, .int .i64 0, .int .i64 0]) (by simp [results, Tryz.results143, go_sem]) rfl ⟨rfl, ?_, ?_, ?_⟩
  · refine PSt.newer (w := w.setCell ⟨b, 3, none⟩ (.bool false)) ⟨A, c, km, hB.out.set_ 3 _, Reads.setCell hT.out (Nat.le_refl _) _, hc1, hc2, hO.out.setOther (Nat.lt_succ_self _) _, hkm, hK.out.keep (Below.heap_setCell w ⟨b, 3, none⟩ _ km (by simp; omega)), hx.out⟩ ?_
    exact (Below.refl _ _).alloc (Nat.le_refl _) _
  · exact (below_set (Below.refl _ _) (Nat.le_refl _) _).alloc (by simp; omega) _
  · exact gb_alloc (gb_set _ _ _ _) _
set_option maxRecDepth 100000 in
set_option maxHeartbeats 1000000 in
theorem next_cons (w : World) (b : Nat) (v : Value) (t : Tok) (r : List Tok) (out : List Ask) (well : Bool) (h : PSt w b v (t :: r) out well) :
    Calls Tryz.prog 143 #[.pointer (some ⟨b, 0, none⟩)] w fun e w' => e = .returned (tokV t) ∧ PSt w' b v r out well ∧ Below b w w' ∧ w.grownBy w' (some b) := by
  have hlt := h.lt
  obtain ⟨A, c, km, hB, hT, hc1, hc2, hO, hkm, hK, hx⟩ := h
  obtain ⟨ad, rfl, hab, t0, t1, t2, t3⟩ := hT.head
  have hadl : ad.block < w.heap.size := by omega
  have hne : (((r.length : Int) + 1) == 0) = false := by rw [beq_eq_false_iff_ne]; omega
  have c0 := hB.cell 0
  have f0 := hB.frozen 0
  replace hB := hide hB
  replace hO := hide hO
  replace hK := hide hK
  replace hx := hide hx
  replace hT := hide hT
  by_cases hc : c = 1
  · have hr0 : r = [] := by cases r with
      | nil => rfl
      | cons _ _ => simp at hc1; omega
    subst hc hr0
    clear hc1 hc2
    go_enter Tryz.func143, Tryz.ntmps143
    go_wp2_with fail
    refine bodyPost_ret (v := tokV t) (by simp [results, Tryz.results143, go_sem, tokV]) rfl ⟨rfl, ?_, ?_, ?_⟩
    · refine PSt.newer (PSt.pop (c' := 0) hB.out hO.out hkm hK.out (RT.none_ _ _ (some ad)) (by simp) (by unfold maxLen; omega) (fun _ h => by cases h)) ?_
      exact ((Below.refl _ _).alloc (Nat.le_refl _) _).alloc (by simp) _
    · exact ((below_set (Below.refl _ _) (Nat.le_refl _) _).alloc (by simp; omega) _).alloc (by simp; omega) _
    · exact gb_alloc (gb_alloc (gb_set _ _ _ _) _) _
  · go_enter Tryz.func143, Tryz.ntmps143
    go_wp2_with fail
    refine bodyPost_ret (v := tokV t) (by simp [results, Tryz.results143, go_sem, tokV]) rfl ⟨rfl, ?_, ?_, ?_⟩
    · refine PSt.newer (PSt.pop (c' := c - 1) hB.out hO.out hkm hK.out hT.out.tail (by simp at hc1; omega) (by omega) (fun x h => hx.out x (List.mem_cons_of_mem _ h))) ?_
      exact ((Below.refl _ _).alloc (Nat.le_refl _) _).alloc (by simp) _
    · exact ((below_set (Below.refl _ _) (Nat.le_refl _) _).alloc (by simp; omega) _).alloc (by simp; omega) _
    · exact gb_alloc (gb_alloc (gb_set _ _ _ _) _) _

section
variable {ops : Array Oper} {o : Oper} {a : Act} {Q : Exit → Act → World → Prop}
/-- append(v, x), one part that lies in a new block, as a step of a region. -/
theorem step_app_a {K : Act → World → Prop} {E : Prop} {w : World} (x : Ask) (hgd : o.guard = none) (s y : Operand)
    (ho : o.op = .call { callee := .builtin .append, args := #[s, y], argTypes := #[23, 23] })
    (base : Nat) (v : Value) (n : Nat) (l : List Ask) (hown : OA w base v n l) (hs : a.eval s = v) (g c : Nat) (hg : g < w.heap.size)
    (hx : a.eval y = .slice (some ⟨g, 0, none⟩) 1 c) (hc : Blk w g 54 (av x).toArray)
    (hlen : n + 1 ≤ 1000000000) (hbase : base ≤ w.heap.size)
    (h : ∀ v' w', OA w' base v' (n + 1) (l ++ [x]) → Below base w w' → w.grownBy w' v.ownBlock → K (a.put o.dst v') w') :
    if Region.wanted o (yielded ops a.tmps) = true then Oper.wp Tryz.prog o a w K Q else E := by
  obtain ⟨i0, hi0, hz0, hz1, hz2⟩ := info_parts ask_info
  refine step_append_any w hgd s y 23 ho base 54 i0 _ 7 64 Tryz.underlying23 hi0 hz0 hz1 hz2 rfl (by omega) v n (avs l) hs hown (g + 1) (some ⟨g, 0, none⟩) 1 c (av x) hx
    ⟨rfl, fun _ => ⟨_, rfl, Nat.lt_succ_self _, fun j u hj => ?_⟩⟩ (av_one x) (by simp only [maxLen]; omega) (by omega) hbase fun v' w' h1 h2 h3 => ?_
  · rw [show (⟨g, 0, none⟩ : Addr).add j = ⟨g, j, none⟩ from by unfold Addr.add; split <;> simp_all, hc.cell]
    simpa using hj
  · have e : avs l ++ av x = avs (l ++ [x]) := by rw [avs_append]; simp [avs]
    rw [e] at h1
    exact h v' w' h1 ((Below.refl _ _).grown h2 hbase fun k hk => hown.block_lt k hk) h2
end

set_option maxRecDepth 100000 in
set_option maxHeartbeats 2000000 in
theorem put_any (w : World) (b : Nat) (v : Value) (T : List Tok) (out : List Ask) (well : Bool) (x : Ask) (h : PSt w b v T out well) (hl : out.length ≤ 100000) :
    Calls Tryz.prog 115 #[.pointer (some ⟨b, 0, none⟩), .agg #[.int .i64 x.kind, .int .i64 x.op, .int .i64 x.a, .int .i64 x.b, .int .i64 x.n, .string (str x.text), .bool x.isText]] w
      fun e w' => e = .returned (.int .i64 (out.length : Int)) ∧ (∃ v', PSt w' b v' T (out ++ [x]) well) ∧ Below b w w' := by
  have hlt := h.lt
  obtain ⟨A, c, km, hB, hT, hc1, hc2, hO, hkm, hK, hx⟩ := h
  have c1 := hB.cell 1
  have f1 := hB.frozen 1
  replace hB := hide hB
  replace hO := hide hO
  replace hK := hide hK
  replace hx := hide hx
  replace hT := hide hT
  go_enter Tryz.func115, Tryz.ntmps115
  have hAsk := Blk.new w 54 #[.int .i64 x.kind, .int .i64 x.op, .int .i64 x.a, .int .i64 x.b, .int .i64 x.n, .string (str x.text), .bool x.isText]
  have hOx := hide (hO.out.alloc (.cells #[.int .i64 x.kind, .int .i64 x.op, .int .i64 x.a, .int .i64 x.b, .int .i64 x.n, .string (str x.text), .bool x.isText] 54))
  replace hAsk := hide hAsk
  go_wp2_with fail
  have hbs : b + 1 ≤ ((w.alloc (.cells #[.int .i64 x.kind, .int .i64 x.op, .int .i64 x.a, .int .i64 x.b, .int .i64 x.n, .string (str x.text), .bool x.isText] 54)).alloc (.cells #[.int .i64 x.kind, .int .i64 x.op, .int .i64 x.a, .int .i64 x.b, .int .i64 x.n, .string (str x.text), .bool x.isText] 54)).heap.size := by simp; omega
  have hln : out.length + 1 ≤ 1000000000 := by omega
  have hcb : Hid (Blk ((w.alloc (.cells #[.int .i64 x.kind, .int .i64 x.op, .int .i64 x.a, .int .i64 x.b, .int .i64 x.n, .string (str x.text), .bool x.isText] 54)).alloc (.cells #[.int .i64 x.kind, .int .i64 x.op, .int .i64 x.a, .int .i64 x.b, .int .i64 x.n, .string (str x.text), .bool x.isText] 54)) (w.heap.size + 1) 54 (av x).toArray) := by
    have := Blk.new (w.alloc (.cells #[.int .i64 x.kind, .int .i64 x.op, .int .i64 x.a, .int .i64 x.b, .int .i64 x.n, .string (str x.text), .bool x.isText] 54)) 54 #[.int .i64 x.kind, .int .i64 x.op, .int .i64 x.a, .int .i64 x.b, .int .i64 x.n, .string (str x.text), .bool x.isText]
    rw [show (w.alloc (.cells #[.int .i64 x.kind, .int .i64 x.op, .int .i64 x.a, .int .i64 x.b, .int .i64 x.n, .string (str x.text), .bool x.isText] 54)).heap.size = w.heap.size + 1 from by simp] at this
    exact this
  have hBx := hide ((hB.out.alloc (.cells #[.int .i64 x.kind, .int .i64 x.op, .int .i64 x.a, .int .i64 x.b, .int .i64 x.n, .string (str x.text), .bool x.isText] 54)).alloc (.cells #[.int .i64 x.kind, .int .i64 x.op, .int .i64 x.a, .int .i64 x.b, .int .i64 x.n, .string (str x.text), .bool x.isText] 54))
  have hWb := hide ((((Below.refl b w).alloc (by omega) (.cells #[.int .i64 x.kind, .int .i64 x.op, .int .i64 x.a, .int .i64 x.b, .int .i64 x.n, .string (str x.text), .bool x.isText] 54)).alloc (by simp; omega) (.cells #[.int .i64 x.kind, .int .i64 x.op, .int .i64 x.a, .int .i64 x.b, .int .i64 x.n, .string (str x.text), .bool x.isText] 54)).drew)
  go_region_law (refine step_app_a x rfl (.tmp 9) (.tmp 11) rfl (b + 1) v out.length out (hOx.out.alloc _) rfl (w.heap.size + 1) 1 (by simp) rfl hcb.out hln hbs ?_; intro v2 w2 ho2 hb2 hg2; clear hg2; obtain ⟨vA, vc, rfl, -, -, -, -⟩ := ho2.form; replace ho2 := hide ho2; have hB2 := hide (hBx.out.drew.below hb2 (Nat.lt_succ_self _)); have hf2 := hB2.out.frozen 1; have hd2 := hB2.out.cell 1)
  all_goals
    have hbw := hWb.out.trans (hb2.mono (Nat.le_succ b))
    clear hBx hcb hbs hOx hAsk hWb hb2
    go_wp2_with fail
    go_ret
    refine ⟨ret_int (by simp), ?_, ?_⟩
    · refine ⟨.slice vA (out.length + 1) vc, A, c, km, hB2.out.set_ 1 _, ?_, hc1, hc2, ?_, hkm, ?_, hx.out⟩
      · exact Reads.setCell (hT.out.below hbw) (Nat.le_refl _) _
      · rw [List.length_append]
        exact ho2.out.setOther (Nat.lt_succ_self _) _
      · exact hK.out.keep ((Below.heap_setCell w2 ⟨b, 1, none⟩ _ km (by simp; omega)).trans (hbw.block km hkm))
    · exact below_set hbw (Nat.le_refl _) _
end Go.Proofs.YtnhcamkccnaeeaaGreatDoor
namespace Go.Proofs.YtnhcamkccnaeeaaGreatDoor
open Go.RowKit
set_option linter.unusedVariables false

/-- The library's table of blanks is as its text lays it. -/
def Asp (w : World) : Prop := Lib.TabIs Tryz.prog w "strings.asciiSpace" .u8 Lib.asciiSpaceTab
theorem asp_below {w w' : World} {b : Nat} (h : Asp w) (hb : Below b w w') (hg : 4 < b) : Asp w' := by
  have e : Tryz.prog.globalNamed "strings.asciiSpace" = some 4 := by kernel_rfl
  unfold Asp Lib.TabIs World.var? at h ⊢
  rw [e, Option.bind_some] at h ⊢
  rw [hb.block _ hg]
  exact h
def marksT : List UInt8 := [61, 32, 33, 61, 32, 60, 32, 60, 61, 32, 62, 32, 62, 61, 32, 126]
theorem fields_marks : Lib.fields marksT = cmpL := by decide +kernel
theorem marks_ascii : ∀ (j : Nat) (b : UInt8), marksT[j]? = some b → b.toNat < 128 := by
  intro j b h
  have hm : b ∈ marksT := List.mem_of_getElem? h
  have hall : ∀ c ∈ marksT, c.toNat < 128 := by decide
  exact hall b hm
theorem findK_at (t : List UInt8) : ∀ (l : List (List UInt8)) (k : Nat) (hk : k < l.length) (j : Int), l[k] = t → (∀ i (hi : i < k), l[i] ≠ t) → findK l t j = j + k
  | m :: r, 0, _, j, h, _ => by
    simp at h
    rw [findK, if_pos h.symm]; simp
  | m :: r, k + 1, hk, j, h, hn => by
    have h0 := hn 0 (by omega)
    simp at h0
    rw [findK, if_neg (Ne.symm h0), findK_at t r k (by simpa using hk) (j + 1) (by simpa using h) (fun i hi => by have := hn (i + 1) (by omega); simpa using this)]
    omega
theorem findK_none (t : List UInt8) : ∀ (l : List (List UInt8)) (j : Int), (∀ i (hi : i < l.length), l[i] ≠ t) → findK l t j = 0
  | [], _, _ => rfl
  | m :: r, j, hn => by
    have h0 := hn 0 (by simp)
    simp at h0
    rw [findK, if_neg (Ne.symm h0), findK_none t r (j + 1) (fun i hi => by have := hn (i + 1) (by simpa using hi); simpa using this)]

set_option maxRecDepth 100000 in
set_option maxHeartbeats 1000000 in
theorem op_any (w : World) (t : Tok) (hA : Asp w) : Calls Tryz.prog 144 #[tokV t] w fun e w' => e = .returned (.int .i64 (opOf t)) ∧ Below w.heap.size w w' := by
  have hA2 : Asp (w.alloc (.cells #[.int .i64 t.kind, .string (str t.text), .int .i64 t.n, .int .i64 (t.pos : Int)] 104)) := Lib.tabIs_alloc hA _
  unfold Asp at hA2
  replace hA2 := hide hA2
  clear hA
  unfold tokV
  go_enter Tryz.func144, Tryz.ntmps144
  go_wp2_with fail
  refine (Tryz.strings_Fields_laid ⟨#[61, 32, 33, 61, 32, 60, 32, 60, 61, 32, 62, 32, 62, 61, 32, 126]⟩ _ (by decide) marks_ascii hA2.out).mono ?_
  rintro e w1 ⟨rfl, hw1⟩
  rw [show Lib.fields (ByteArray.mk #[61, 32, 33, 61, 32, 60, 32, 60, 61, 32, 62, 32, 62, 61, 32, 126]).data.toList = cmpL from fields_marks] at hw1 ⊢
  have hbl : Below w.heap.size w w1 := by
    rw [hw1]
    exact ((Below.refl _ _).alloc (Nat.le_refl _) _).alloc (by simp) _
  have hc : ∀ k (hk : k < cmpL.length), w1.cell? ⟨w.heap.size + 1, k, none⟩ = some (.string (str cmpL[k])) := by
    intro k hk
    rw [hw1]
    have := cell_of_row _ _ k _ 9 (0, 0) (heap_alloc_new (w.alloc (.cells #[.int .i64 t.kind, .string (str t.text), .int .i64 t.n, .int .i64 (t.pos : Int)] 104)) (.cells (cmpL.map fun l => Value.string ⟨l.toArray⟩).toArray 9))
    rw [show (w.alloc (.cells #[.int .i64 t.kind, .string (str t.text), .int .i64 t.n, .int .i64 (t.pos : Int)] 104)).heap.size = w.heap.size + 1 from by simp] at this
    rw [this]
    simp [hk, str]
  have ht0 : w1.cell? ⟨w.heap.size, 0, none⟩ = some (.int .i64 t.kind) := by rw [hw1]; simp
  have ht1 : w1.cell? ⟨w.heap.size, 1, none⟩ = some (.string (str t.text)) := by rw [hw1]; simp
  rw [show (w.alloc (.cells #[.int .i64 t.kind, .string (str t.text), .int .i64 t.n, .int .i64 (t.pos : Int)] 104)).heap.size = w.heap.size + 1 from by simp]
  clear hw1 hA2
  replace hc := hide hc
  rw [show cmpL.length = 7 from rfl]
  go_wp2_with fail
  go_loopw [7] (fun i wr => ∃ k : Nat, k ≤ 7 ∧ i = .int .i64 k ∧ wr = w1 ∧ Hid (t.kind = 4 → ∀ i (hi : i < k) (h7 : i < cmpL.length), cmpL[i] ≠ t.text)) (fun i _ => 7 - (intOf i).toNat)
  case atStart => exact ⟨0, by omega, rfl, rfl, fun _ i hi => absurd hi (by omega)⟩
  case round =>
    obtain ⟨k, hk, rfl, rfl, HN⟩ := hrel
    by_cases h1 : k < 7
    · have hck := hc.out k h1
      by_cases e1 : t.kind = 4
      · have n1 : (t.kind == 4) = true := by simp [e1]
        by_cases e2 : t.text = cmpL[k]
        · have n2 : ((str t.text).toList == (str cmpL[k]).toList) = true := by rw [str_bytes, str_bytes, e2]; simp
          have hr : Hid (opOf t = 1 + (k : Int)) := by
            show _ = _
            rw [opOf, if_pos e1, findK_at t.text cmpL k h1 1 e2.symm (fun i hi => HN.out e1 i hi (by have : cmpL.length = 7 := rfl; omega))]
          clear e1 e2 HN
          generalize str cmpL[k] = s at *
          go_wp2_with fail
          go_ret
          exact ⟨ret_int hr.out.symm, hbl⟩
        · have n2 : ((str t.text).toList == (str cmpL[k]).toList) = false := by rw [str_bytes, str_bytes, beq_eq_false_iff_ne]; exact e2
          have HN2 : Hid (t.kind = 4 → ∀ i (hi : i < k + 1) (h7 : i < cmpL.length), cmpL[i] ≠ t.text) := by
            intro e i hi h7
            by_cases hik : i = k
            · subst hik; exact Ne.symm e2
            · exact HN.out e i (by omega) h7
          clear e1 e2 HN
          generalize str cmpL[k] = s at *
          go_wp2_with fail
          go_roundw
          case rel => exact ⟨k + 1, by omega, by go_num, trivial, HN2⟩
          case measure => simp [intOf]; omega
      · have n1 : (t.kind == 4) = false := by simp [e1]
        have HN2 : Hid (t.kind = 4 → ∀ i (hi : i < k + 1) (h7 : i < cmpL.length), cmpL[i] ≠ t.text) := fun e => absurd e e1
        clear e1 HN
        generalize str cmpL[k] = s at *
        go_wp2_with fail
        go_roundw
        case rel => exact ⟨k + 1, by omega, by go_num, trivial, HN2⟩
        case measure => simp [intOf]; omega
    · have hr : Hid (opOf t = 0) := by
        show _ = _
        by_cases e1 : t.kind = 4
        · rw [opOf, if_pos e1, findK_none t.text cmpL 1 (fun i hi => HN.out e1 i (by have : cmpL.length = 7 := rfl; omega) hi)]
        · rw [opOf, if_neg e1]
      clear HN
      go_wp2_with fail
      go_ret
      exact ⟨ret_int hr.out.symm, hbl⟩
end Go.Proofs.YtnhcamkccnaeeaaGreatDoor
