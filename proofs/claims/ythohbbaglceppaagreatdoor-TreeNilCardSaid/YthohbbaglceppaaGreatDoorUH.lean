/-
  A store of two files while a pager's batch is laid: what each call leaves.
-/
import Derived.Test.YthohbbaglceppaaGreatDoorUVS
import Derived.Test.YthohbbaglceppaaGreatDoorUOpA
import Derived.Lib.SlBytesConst
namespace Go.Proofs.YthohbbaglceppaaGreatDoor
open Go.RowKit Go.Maps
set_option linter.unusedVariables false
/-- A block of a store. -/
def FsB (w : World) (j : Nat) : Prop := ∃ cs, Blk w j 91 cs ∨ Blk w j 175 cs ∨ Blk w j 181 cs
/-- Only blocks of stores were written. -/
def FsO (w w' : World) : Prop := Only (FsB w) w w'
theorem FsO.refl (w : World) : FsO w w := Only.refl _ w
theorem FsO.trans {a b c : World} (h : FsO a b) (k : FsO b c) : FsO a c := Only.trans h k fun i hi hs => Classical.byContradiction fun hn => by
  have h1 := Only.block h i hi hn
  obtain ⟨cs, hcs⟩ := hs
  rcases hcs with h2 | h2 | h2
  · exact hn ⟨cs, .inl (h1.symm.trans h2)⟩
  · exact hn ⟨cs, .inr (.inl (h1.symm.trans h2))⟩
  · exact hn ⟨cs, .inr (.inr (h1.symm.trans h2))⟩
theorem FsO.of_below {w w' : World} (h : Below w.heap.size w w') : FsO w w' := Only.of_below h
theorem FsO.blk {w w' : World} (h : FsO w w') {g : Nat} {t : TypeId} {cs : Array Value} (hb : Blk w g t cs) (h1 : t ≠ 91) (h2 : t ≠ 175) (h3 : t ≠ 181) : Blk w' g t cs :=
  Only.blk h hb fun ⟨c, hc⟩ => by
    rcases hc with hc | hc | hc
    · exact Blk.ne_ hb hc h1 rfl
    · exact Blk.ne_ hb hc h2 rfl
    · exact Blk.ne_ hb hc h3 rfl
/-- The store: two files, apart from one another, behind H0. -/
structure FSt (w : World) (H0 gf bm most stamp : Nat) (da la : List UInt8) (gd kd nd gl kl nl : Nat) (vd vl : Value) : Prop where
  fs : FSAt w 0 gf bm most stamp da la (some gd) (some gl)
  fd : FileX w 0 gd kd nd vd
  fl : FileX w 0 gl kl nl vl
  hd : H0 ≤ gd ∧ ∀ j, vd.ownBlock = some j → H0 ≤ j
  hl : H0 ≤ gl ∧ ∀ j, vl.ownBlock = some j → H0 ≤ j
  ne : gd ≠ gl
  ap : ∀ j, vd.ownBlock = some j → vl.ownBlock ≠ some j
  sz : H0 ≤ w.heap.size
/-- The caller's frame. -/
def Fr (H0 gf bm : Nat) (w w' : World) : Prop := Only (fun j => j = gf ∨ j = bm ∨ H0 ≤ j) w w'
theorem Fr.trans {H0 gf bm : Nat} {a b c : World} (h : Fr H0 gf bm a b) (k : Fr H0 gf bm b c) : Fr H0 gf bm a c := Only.trans h k fun _ _ h => h
theorem own_blk_of {w : World} {B n : Nat} {e : TypeId} {sz j : Nat} {v : Value} {xs : List Value} (h : w.ownsRow B e sz v n xs) (hj : v.ownBlock = some j) : ∃ cs, Blk w j e cs := by
  rcases h.2 with ⟨rfl, _⟩ | ⟨g, cap, cur, rfl, _, hh, _⟩
  · cases hj
  · have : g = j := by simpa [Value.ownBlock] using hj
    subst this
    exact ⟨cur, hh⟩
section
variable {w w' : World} {H0 gf bm most stamp gd kd nd gl kl nl : Nat} {da la : List UInt8} {vd vl : Value}
theorem FSt.fsb_f (h : FSt w H0 gf bm most stamp da la gd kd nd gl kl nl vd vl) : FsB w gf := ⟨_, .inl h.fs.st⟩
theorem FSt.fsb_d (h : FSt w H0 gf bm most stamp da la gd kd nd gl kl nl vd vl) : FsB w gd := by obtain ⟨st, hb⟩ := h.fd.st; exact ⟨_, .inr (.inl hb)⟩
theorem FSt.fsb_l (h : FSt w H0 gf bm most stamp da la gd kd nd gl kl nl vd vl) : FsB w gl := by obtain ⟨st, hb⟩ := h.fl.st; exact ⟨_, .inr (.inl hb)⟩
theorem FSt.fsb_vd (h : FSt w H0 gf bm most stamp da la gd kd nd gl kl nl vd vl) {j : Nat} (hj : vd.ownBlock = some j) : FsB w j := by
  obtain ⟨xs, hr, _⟩ := h.fd.row
  obtain ⟨cs, hb⟩ := own_blk_of hr hj
  exact ⟨cs, .inr (.inr hb)⟩
theorem FSt.fsb_vl (h : FSt w H0 gf bm most stamp da la gd kd nd gl kl nl vd vl) {j : Nat} (hj : vl.ownBlock = some j) : FsB w j := by
  obtain ⟨xs, hr, _⟩ := h.fl.row
  obtain ⟨cs, hb⟩ := own_blk_of hr hj
  exact ⟨cs, .inr (.inr hb)⟩
/-- Behind a call that writes no block of the store. -/
theorem FSt.keep (h : FSt w H0 gf bm most stamp da la gd kd nd gl kl nl vd vl) {S : Nat → Prop} (hO : Only S w w') (hn : ∀ j, S j → ¬ FsB w j) (hb : ¬ S bm) : FSt w' H0 gf bm most stamp da la gd kd nd gl kl nl vd vl :=
  ⟨h.fs.only hO (fun e => hn _ e h.fsb_f) hb, h.fd.only hO (fun e => hn _ e h.fsb_d) (fun j hj e => hn _ e (h.fsb_vd hj)), h.fl.only hO (fun e => hn _ e h.fsb_l) (fun j hj e => hn _ e (h.fsb_vl hj)), h.hd, h.hl, h.ne, h.ap, Nat.le_trans h.sz hO.size⟩
theorem FSt.below (h : FSt w H0 gf bm most stamp da la gd kd nd gl kl nl vd vl) (hb : Below w.heap.size w w') : FSt w' H0 gf bm most stamp da la gd kd nd gl kl nl vd vl := h.keep (S := fun _ => False) (Only.of_below hb) (fun _ h => h.elim) (fun h => h)
theorem FSt.drewN (h : FSt w H0 gf bm most stamp da la gd kd nd gl kl nl vd vl) (q : Nat) : FSt (w.drewN q) H0 gf bm most stamp da la gd kd nd gl kl nl vd vl := h.below (below_drewN (Below.refl _ _) q)
end
/-- Bytes that are there to be written. -/
def SrcB (w : World) (gb n : Nat) : Prop := (∀ i, i < n → ∃ x : UInt8, w.cell? ⟨gb, i, none⟩ = some (.int .u8 (x.toNat : Int))) ∧ (∃ t cs fr, w.heap[gb]? = some (.cells cs t fr) ∧ t ≠ 91 ∧ t ≠ 175 ∧ t ≠ 181)
theorem SrcB.not {w : World} {gb n j : Nat} (h : SrcB w gb n) (hj : FsB w j) : gb ≠ j := by
  rintro rfl
  obtain ⟨_, t, cs, fr, hb, h1, h2, h3⟩ := h
  obtain ⟨c, hc⟩ := hj
  rcases hc with hc | hc | hc
  · unfold Blk at hc; rw [hb] at hc; injection hc with hc; injection hc with _ e; exact h1 e
  · unfold Blk at hc; rw [hb] at hc; injection hc with hc; injection hc with _ e; exact h2 e
  · unfold Blk at hc; rw [hb] at hc; injection hc with hc; injection hc with _ e; exact h3 e
/-- What a write to the log leaves. -/
theorem write_l (w : World) (H0 gf bm most stamp gd kd nd gl kl nl gb n0 c0 at0 : Nat) (da la : List UInt8) (vd vl : Value) (h : FSt w H0 gf bm most stamp da la gd kd nd gl kl nl vd vl) (hla : la.length ≤ 24) (hmost : most ≤ 65536) (hk : kd + kl ≤ most) (hnl : nl ≤ 2000000) (hst : stamp ≤ 1000000)
    (hat : at0 ≤ nl) (h0 : 0 < n0) (hn0 : n0 ≤ c0) (hc0 : c0 ≤ 9223372036854775807) (hn00 : n0 ≤ 1000000) (hroom : (max nl (at0 + n0) + 63) / 64 - kl ≤ most - kd - kl) (hs : SrcB w gb n0) :
    Calls Tryz.prog 111 #[.pointer (some ⟨gf, 0, none⟩), .string (str la), .int .i64 (at0 : Int), .slice (some ⟨gb, 0, none⟩) n0 c0] w fun e w' => e = .returned (.int .i64 0) ∧
      Hid (∃ vl', FSt w' H0 gf bm most (stamp + 1) da la gd kd nd gl (max kl ((max nl (at0 + n0) + 63) / 64)) (max nl (at0 + n0)) vd vl' ∧ FsO w w' ∧ Fr H0 gf bm w w') := by
  have hgbl : gb < w.heap.size := (Array.getElem?_eq_some_iff.1 hs.2.choose_spec.choose_spec.choose_spec.1).1
  refine (fwrite_any w 0 gf bm most stamp gd kd nd gl kl nl gl kl nl gb 0 n0 c0 at0 da la la vd vl vl h.fs h.fd h.fl (.inr ⟨rfl, rfl⟩) hla h.fl hmost hk (by omega) hnl hst (Nat.zero_le _) hat h0 hn0 hc0 hn00 hroom hgbl (fun e => hs.not (h.fsb_vl e) rfl) (fun e => hs.not h.fsb_l e) (fun i hi => by rw [Nat.zero_add]; exact hs.1 i hi)).mono ?_
  rintro e w' ⟨rfl, h1, v', h2, h3, h4⟩
  refine ⟨rfl, hide ⟨v', ⟨h1, h.fd.only h3 ?_ ?_, h2, h.hd, ⟨h.hl.1, fun j hj => ?_⟩, h.ne, fun j hj e => ?_, Nat.le_trans h.sz h3.size⟩, h3.mono fun j hj hs => ?_, h3.mono fun j hj hs => ?_⟩⟩
  · rintro (e | e | e)
    · exact (h.fd.ngf h.fs).1 e.symm
    · exact h.ne e
    · exact absurd e (fun e => by
        obtain ⟨xs, hr, _⟩ := h.fl.row
        obtain ⟨st, hb⟩ := h.fd.st
        exact own_blk_ne hr hb (by decide) e)
  · rintro j hj (e | e | e)
    · exact (h.fd.ngf h.fs).2 (by rw [hj, e])
    · obtain ⟨xs, hr, _⟩ := h.fd.row
      obtain ⟨st, hb⟩ := h.fl.st
      exact own_blk_ne hr hb (by decide) (by rw [hj, e])
    · exact h.ap j hj e
  · rcases h4 with e | ⟨q, e, hq⟩
    · exact h.hl.2 j (by rw [← e]; exact hj)
    · rw [hj] at e; injection e with e; have := h.sz; omega
  · rcases h4 with e2 | ⟨q, e2, hq⟩
    · exact h.ap j hj (by rw [← e2]; exact e)
    · rw [e] at e2; injection e2 with e2
      obtain ⟨xs, hr, _⟩ := h.fd.row
      obtain ⟨cs, hb⟩ := own_blk_of hr hj
      have := hb.lt; omega
  · rcases hs with rfl | rfl | e
    · exact h.fsb_f
    · exact h.fsb_l
    · exact h.fsb_vl e
  · rcases hs with rfl | rfl | e
    · exact .inl rfl
    · exact .inr (.inr h.hl.1)
    · exact .inr (.inr (h.hl.2 j e))
/-- What a write to the pages' file leaves. -/
theorem write_d (w : World) (H0 gf bm most stamp gd kd nd gl kl nl gb n0 c0 at0 : Nat) (da la : List UInt8) (vd vl : Value) (h : FSt w H0 gf bm most stamp da la gd kd nd gl kl nl vd vl) (hla : da.length ≤ 24) (hmost : most ≤ 65536) (hk : kd + kl ≤ most) (hnl : nd ≤ 2000000) (hst : stamp ≤ 1000000)
    (hat : at0 ≤ nd) (h0 : 0 < n0) (hn0 : n0 ≤ c0) (hc0 : c0 ≤ 9223372036854775807) (hn00 : n0 ≤ 1000000) (hroom : (max nd (at0 + n0) + 63) / 64 - kd ≤ most - kd - kl) (hs : SrcB w gb n0) :
    Calls Tryz.prog 111 #[.pointer (some ⟨gf, 0, none⟩), .string (str da), .int .i64 (at0 : Int), .slice (some ⟨gb, 0, none⟩) n0 c0] w fun e w' => e = .returned (.int .i64 0) ∧
      Hid (∃ vd', FSt w' H0 gf bm most (stamp + 1) da la gd (max kd ((max nd (at0 + n0) + 63) / 64)) (max nd (at0 + n0)) gl kl nl vd' vl ∧ FsO w w' ∧ Fr H0 gf bm w w') := by
  have hgbl : gb < w.heap.size := (Array.getElem?_eq_some_iff.1 hs.2.choose_spec.choose_spec.choose_spec.1).1
  refine (fwrite_any w 0 gf bm most stamp gd kd nd gl kl nl gd kd nd gb 0 n0 c0 at0 da la da vd vl vd h.fs h.fd h.fl (.inl ⟨rfl, rfl⟩) hla h.fd hmost hk (by omega) hnl hst (Nat.zero_le _) hat h0 hn0 hc0 hn00 hroom hgbl (fun e => hs.not (h.fsb_vd e) rfl) (fun e => hs.not h.fsb_d e) (fun i hi => by rw [Nat.zero_add]; exact hs.1 i hi)).mono ?_
  rintro e w' ⟨rfl, h1, v', h2, h3, h4⟩
  refine ⟨rfl, hide ⟨v', ⟨h1, h2, h.fl.only h3 ?_ ?_, ⟨h.hd.1, fun j hj => ?_⟩, h.hl, h.ne, fun j hj e => ?_, Nat.le_trans h.sz h3.size⟩, h3.mono fun j hj hs => ?_, h3.mono fun j hj hs => ?_⟩⟩
  · rintro (e | e | e)
    · exact (h.fl.ngf h.fs).1 e.symm
    · exact h.ne e.symm
    · obtain ⟨xs, hr, _⟩ := h.fd.row
      obtain ⟨st, hb⟩ := h.fl.st
      exact own_blk_ne hr hb (by decide) e
  · rintro j hj (e | e | e)
    · exact (h.fl.ngf h.fs).2 (by rw [hj, e])
    · obtain ⟨xs, hr, _⟩ := h.fl.row
      obtain ⟨st, hb⟩ := h.fd.st
      exact own_blk_ne hr hb (by decide) (by rw [hj, e])
    · exact h.ap j e hj
  · rcases h4 with e | ⟨q, e, hq⟩
    · exact h.hd.2 j (by rw [← e]; exact hj)
    · rw [hj] at e; injection e with e; have := h.sz; omega
  · rcases h4 with e2 | ⟨q, e2, hq⟩
    · exact h.ap j (by rw [← e2]; exact hj) e
    · rw [hj] at e2; injection e2 with e2
      obtain ⟨xs, hr, _⟩ := h.fl.row
      obtain ⟨cs, hb⟩ := own_blk_of hr e
      have := hb.lt; omega
  · rcases hs with rfl | rfl | e
    · exact h.fsb_f
    · exact h.fsb_d
    · exact h.fsb_vd e
  · rcases hs with rfl | rfl | e
    · exact .inl rfl
    · exact .inr (.inr h.hd.1)
    · exact .inr (.inr (h.hd.2 j e))
theorem sync_l (w : World) (H0 gf bm most stamp gd kd nd gl kl nl : Nat) (da la : List UInt8) (vd vl : Value) (h : FSt w H0 gf bm most stamp da la gd kd nd gl kl nl vd vl) (hla : la.length ≤ 24) (hk : kl ≤ 100000) :
    Calls Tryz.prog 113 #[.pointer (some ⟨gf, 0, none⟩), .string (str la)] w fun e w' => e = .returned (.int .i64 0) ∧ Hid (FSt w' H0 gf bm most stamp da la gd kd nd gl kl nl vd vl ∧ FsO w w' ∧ Fr H0 gf bm w w') := by
  refine (sync_any w 0 gf bm most stamp gl kl nl da la la (some gd) (some gl) vl h.fs (.inr ⟨rfl, rfl⟩) hla h.fl hk).mono ?_
  rintro e w' ⟨rfl, h1, h2, h3⟩
  refine ⟨rfl, hide ⟨⟨h1, h.fd.only h3 (fun e => ?_) (fun j hj e => h.ap j hj e), h2, h.hd, h.hl, h.ne, h.ap, Nat.le_trans h.sz h3.size⟩, h3.mono fun j hj hs => h.fsb_vl hs, h3.mono fun j hj hs => .inr (.inr (h.hl.2 j hs))⟩⟩
  obtain ⟨xs, hr, _⟩ := h.fl.row
  obtain ⟨st, hb⟩ := h.fd.st
  exact own_blk_ne hr hb (by decide) e
theorem sync_d (w : World) (H0 gf bm most stamp gd kd nd gl kl nl : Nat) (da la : List UInt8) (vd vl : Value) (h : FSt w H0 gf bm most stamp da la gd kd nd gl kl nl vd vl) (hla : da.length ≤ 24) (hk : kd ≤ 100000) :
    Calls Tryz.prog 113 #[.pointer (some ⟨gf, 0, none⟩), .string (str da)] w fun e w' => e = .returned (.int .i64 0) ∧ Hid (FSt w' H0 gf bm most stamp da la gd kd nd gl kl nl vd vl ∧ FsO w w' ∧ Fr H0 gf bm w w') := by
  refine (sync_any w 0 gf bm most stamp gd kd nd da la da (some gd) (some gl) vd h.fs (.inl ⟨rfl, rfl⟩) hla h.fd hk).mono ?_
  rintro e w' ⟨rfl, h1, h2, h3⟩
  refine ⟨rfl, hide ⟨⟨h1, h2, h.fl.only h3 (fun e => ?_) (fun j hj e => h.ap j e hj), h.hd, h.hl, h.ne, h.ap, Nat.le_trans h.sz h3.size⟩, h3.mono fun j hj hs => h.fsb_vd hs, h3.mono fun j hj hs => .inr (.inr (h.hd.2 j hs))⟩⟩
  obtain ⟨xs, hr, _⟩ := h.fd.row
  obtain ⟨st, hb⟩ := h.fl.st
  exact own_blk_ne hr hb (by decide) e
theorem cut_l (w : World) (H0 gf bm most stamp gd kd nd gl kl nl : Nat) (da la : List UInt8) (vd vl : Value) (h : FSt w H0 gf bm most stamp da la gd kd nd gl kl nl vd vl) (hla : la.length ≤ 24) (hst : stamp ≤ 1000000) :
    Calls Tryz.prog 83 #[.pointer (some ⟨gf, 0, none⟩), .string (str la), .int .i64 0] w fun e w' => e = .returned (.int .i64 0) ∧ Hid (FsO w w' ∧ Fr H0 gf bm w w') := by
  refine (cut0_any w 0 gf bm most stamp gl kl nl da la la (some gd) (some gl) vl h.fs (.inr ⟨rfl, rfl⟩) hla h.fl hst).mono ?_
  rintro e w' ⟨rfl, h3⟩
  refine ⟨rfl, hide ⟨h3.mono fun j hj hs => ?_, h3.mono fun j hj hs => ?_⟩⟩
  · rcases hs with rfl | rfl
    · exact h.fsb_f
    · exact h.fsb_l
  · rcases hs with rfl | rfl
    · exact .inl rfl
    · exact .inr (.inr h.hl.1)
end Go.Proofs.YthohbbaglceppaaGreatDoor
namespace Go.Proofs.YthohbbaglceppaaGreatDoor
open Go.RowKit Go.Maps
set_option linter.unusedVariables false
set_option maxRecDepth 100000 in
set_option maxHeartbeats 1000000 in
theorem com1_any (w : World) (cp gp gf : Nat) (nm : List UInt8) (cb n c : Nat) (A : Option Addr) (hc : w.cell? ⟨cp, 0, none⟩ = some (.pointer (some ⟨gp, 0, none⟩))) (h0 : w.cell? ⟨gp, 0, none⟩ = some (.pointer (some ⟨gf, 0, none⟩))) (h1 : w.cell? ⟨gp, 1, none⟩ = some (.string (str nm))) (hl : nm.length ≤ 20) (hb : w.cell? ⟨cb, 0, none⟩ = some (.slice A n c)) (R : Ending → World → Prop)
    (hth : ∀ q, Calls Tryz.prog 111 #[.pointer (some ⟨gf, 0, none⟩), .string (str (logN nm)), .int .i64 0, .slice A n c] (w.drewN q) R) (hR : ∀ e w', R e w' → e = .returned (.int .i64 0) ∧ w'.cell? ⟨cp, 0, none⟩ = some (.pointer (some ⟨gp, 0, none⟩)) ∧ w'.cell? ⟨gp, 0, none⟩ = some (.pointer (some ⟨gf, 0, none⟩)) ∧ w'.cell? ⟨cb, 0, none⟩ = some (.slice A n c)) :
    Calls Tryz.prog 110 #[.pointer (some ⟨cp, 0, none⟩), .pointer (some ⟨cb, 0, none⟩)] w R := by
  have hlg := hide (fun q => log_any (w.drewN q) gp nm h1 hl)
  replace hth := hide hth
  replace hR := hide hR
  go_enter Tryz.func110, Tryz.ntmps110
  go_wp2_with fail
  go_region_held3 (fun w' => w'.cell? ⟨cp, 0, none⟩ = some (.pointer (some ⟨gp, 0, none⟩)) ∧ w'.cell? ⟨gp, 0, none⟩ = some (.pointer (some ⟨gf, 0, none⟩)) ∧ w'.cell? ⟨cb, 0, none⟩ = some (.slice A n c)) (first | exact ⟨hc, h0, hb⟩ | exact hS3) (first
    | (go_at_call 45; refine (hlg.out 1).mono ?_; rintro e w3 ⟨rfl, rfl⟩)
    | (go_at_call 111; refine (hth.out 1).mono ?_; intro e w3 h3; have he := (hR.out e w3 h3).1; have hS3 := (hR.out e w3 h3).2; subst he; replace h3 := hide h3))
  all_goals
    go_wp2_with fail
    first | exact h3.out | (go_ret; exact h3.out)
set_option maxRecDepth 100000 in
set_option maxHeartbeats 1000000 in
theorem com2_any (w : World) (cp gp gf : Nat) (nm : List UInt8) (hc : w.cell? ⟨cp, 0, none⟩ = some (.pointer (some ⟨gp, 0, none⟩))) (h0 : w.cell? ⟨gp, 0, none⟩ = some (.pointer (some ⟨gf, 0, none⟩))) (h1 : w.cell? ⟨gp, 1, none⟩ = some (.string (str nm))) (hl : nm.length ≤ 20) (R : Ending → World → Prop)
    (hth : ∀ q, Calls Tryz.prog 113 #[.pointer (some ⟨gf, 0, none⟩), .string (str (logN nm))] (w.drewN q) R) (hR : ∀ e w', R e w' → e = .returned (.int .i64 0) ∧ w'.cell? ⟨cp, 0, none⟩ = some (.pointer (some ⟨gp, 0, none⟩)) ∧ w'.cell? ⟨gp, 0, none⟩ = some (.pointer (some ⟨gf, 0, none⟩))) :
    Calls Tryz.prog 112 #[.pointer (some ⟨cp, 0, none⟩)] w R := by
  have hlg := hide (fun q => log_any (w.drewN q) gp nm h1 hl)
  replace hth := hide hth
  replace hR := hide hR
  go_enter Tryz.func112, Tryz.ntmps112
  go_wp2_with fail
  go_region_held3 (fun w' => w'.cell? ⟨cp, 0, none⟩ = some (.pointer (some ⟨gp, 0, none⟩)) ∧ w'.cell? ⟨gp, 0, none⟩ = some (.pointer (some ⟨gf, 0, none⟩))) (first | exact ⟨hc, h0⟩ | exact hS3) (first
    | (go_at_call 45; refine (hlg.out 1).mono ?_; rintro e w3 ⟨rfl, rfl⟩)
    | (go_at_call 113; refine (hth.out 1).mono ?_; intro e w3 h3; have he := (hR.out e w3 h3).1; have hS3 := (hR.out e w3 h3).2; subst he; replace h3 := hide h3))
  all_goals
    go_wp2_with fail
    first | exact h3.out | (go_ret; exact h3.out)
set_option maxRecDepth 100000 in
set_option maxHeartbeats 1000000 in
theorem com4_any (w : World) (cp gp gf : Nat) (nm : List UInt8) (hc : w.cell? ⟨cp, 0, none⟩ = some (.pointer (some ⟨gp, 0, none⟩))) (h0 : w.cell? ⟨gp, 0, none⟩ = some (.pointer (some ⟨gf, 0, none⟩))) (h1 : w.cell? ⟨gp, 1, none⟩ = some (.string (str nm))) (hl : nm.length ≤ 20) (R : Ending → World → Prop)
    (hth : ∀ q, Calls Tryz.prog 113 #[.pointer (some ⟨gf, 0, none⟩), .string (str (logN nm))] (w.drewN q) R) (hR : ∀ e w', R e w' → e = .returned (.int .i64 0) ∧ w'.cell? ⟨cp, 0, none⟩ = some (.pointer (some ⟨gp, 0, none⟩)) ∧ w'.cell? ⟨gp, 0, none⟩ = some (.pointer (some ⟨gf, 0, none⟩))) :
    Calls Tryz.prog 115 #[.pointer (some ⟨cp, 0, none⟩)] w R := by
  have hlg := hide (fun q => log_any (w.drewN q) gp nm h1 hl)
  replace hth := hide hth
  replace hR := hide hR
  go_enter Tryz.func115, Tryz.ntmps115
  go_wp2_with fail
  go_region_held3 (fun w' => w'.cell? ⟨cp, 0, none⟩ = some (.pointer (some ⟨gp, 0, none⟩)) ∧ w'.cell? ⟨gp, 0, none⟩ = some (.pointer (some ⟨gf, 0, none⟩))) (first | exact ⟨hc, h0⟩ | exact hS3) (first
    | (go_at_call 45; refine (hlg.out 1).mono ?_; rintro e w3 ⟨rfl, rfl⟩)
    | (go_at_call 113; refine (hth.out 1).mono ?_; intro e w3 h3; have he := (hR.out e w3 h3).1; have hS3 := (hR.out e w3 h3).2; subst he; replace h3 := hide h3))
  all_goals
    go_wp2_with fail
    first | exact h3.out | (go_ret; exact h3.out)
set_option maxRecDepth 100000 in
set_option maxHeartbeats 1000000 in
theorem com6_any (w : World) (cp gp gf : Nat) (nm : List UInt8) (hc : w.cell? ⟨cp, 0, none⟩ = some (.pointer (some ⟨gp, 0, none⟩))) (h0 : w.cell? ⟨gp, 0, none⟩ = some (.pointer (some ⟨gf, 0, none⟩))) (h1 : w.cell? ⟨gp, 1, none⟩ = some (.string (str nm))) (hl : nm.length ≤ 20) (R : Ending → World → Prop)
    (hth : ∀ q, Calls Tryz.prog 83 #[.pointer (some ⟨gf, 0, none⟩), .string (str (logN nm)), .int .i64 0] (w.drewN q) R) (hR : ∀ e w', R e w' → e = .returned (.int .i64 0) ∧ w'.cell? ⟨cp, 0, none⟩ = some (.pointer (some ⟨gp, 0, none⟩)) ∧ w'.cell? ⟨gp, 0, none⟩ = some (.pointer (some ⟨gf, 0, none⟩))) :
    Calls Tryz.prog 117 #[.pointer (some ⟨cp, 0, none⟩)] w R := by
  have hlg := hide (fun q => log_any (w.drewN q) gp nm h1 hl)
  replace hth := hide hth
  replace hR := hide hR
  go_enter Tryz.func117, Tryz.ntmps117
  go_wp2_with fail
  go_region_held3 (fun w' => w'.cell? ⟨cp, 0, none⟩ = some (.pointer (some ⟨gp, 0, none⟩)) ∧ w'.cell? ⟨gp, 0, none⟩ = some (.pointer (some ⟨gf, 0, none⟩))) (first | exact ⟨hc, h0⟩ | exact hS3) (first
    | (go_at_call 45; refine (hlg.out 1).mono ?_; rintro e w3 ⟨rfl, rfl⟩)
    | (go_at_call 83; refine (hth.out 1).mono ?_; intro e w3 h3; have he := (hR.out e w3 h3).1; have hS3 := (hR.out e w3 h3).2; subst he; replace h3 := hide h3))
  all_goals
    go_wp2_with fail
    first | exact h3.out | (go_ret; exact h3.out)
set_option maxRecDepth 100000 in
theorem com5_any (w : World) (cp gp cl : Nat) (v : Value) (hc : w.cell? ⟨cp, 0, none⟩ = some (.pointer (some ⟨gp, 0, none⟩))) (hb : w.cell? ⟨cl, 0, none⟩ = some v) (R : Ending → World → Prop)
    (hth : Calls Tryz.prog 82 #[.pointer (some ⟨gp, 0, none⟩), v] w R) (hR : ∀ e w', R e w' → e = .returned (.int .i64 0)) :
    Calls Tryz.prog 116 #[.pointer (some ⟨cp, 0, none⟩), .pointer (some ⟨cl, 0, none⟩)] w R := by
  replace hth := hide hth
  replace hR := hide hR
  go_enter Tryz.func116, Tryz.ntmps116
  go_wp2_with fail
  refine hth.out.mono ?_
  intro e w3 h3
  have he := hR.out e w3 h3
  subst he
  replace h3 := hide h3
  go_wp2_with fail
  first | exact h3.out | (go_ret; exact h3.out)
end Go.Proofs.YthohbbaglceppaaGreatDoor
namespace Go.Proofs.YthohbbaglceppaaGreatDoor
open Go.RowKit Go.Maps
set_option linter.unusedVariables false
/-- The bytes 'done', as they are made; as they are behind the mark. -/
def doneC : Array Value := #[.int .u8 100, .int .u8 111, .int .u8 110, .int .u8 101]
def doneO : Obj := .cells doneC 5 (4, 5)
/-- The conversion, under a name of its own. -/
def convDone : Op := Op.convert 37 37 (Operand.tmp 11)
set_option maxRecDepth 100000 in
set_option maxHeartbeats 1000000 in
theorem com3_any (w : World) (cp gp gf : Nat) (nm : List UInt8) (cb n c : Nat) (A : Option Addr) (hc : w.cell? ⟨cp, 0, none⟩ = some (.pointer (some ⟨gp, 0, none⟩))) (h0 : w.cell? ⟨gp, 0, none⟩ = some (.pointer (some ⟨gf, 0, none⟩))) (h1 : w.cell? ⟨gp, 1, none⟩ = some (.string (str nm))) (hl : nm.length ≤ 20) (hb : w.cell? ⟨cb, 0, none⟩ = some (.slice A n c)) (R : Ending → World → Prop)
    (hth : ∀ q, Calls Tryz.prog 111 #[.pointer (some ⟨gf, 0, none⟩), .string (str (logN nm)), .int .i64 (n : Int), .slice (some ⟨w.heap.size, 0, none⟩) 4 4] ((w.alloc doneO).drewN q) R)
    (hR : ∀ e w', R e w' → e = .returned (.int .i64 0) ∧ w'.cell? ⟨cp, 0, none⟩ = some (.pointer (some ⟨gp, 0, none⟩)) ∧ w'.cell? ⟨gp, 0, none⟩ = some (.pointer (some ⟨gf, 0, none⟩)) ∧ w'.cell? ⟨cb, 0, none⟩ = some (.slice A n c)) :
    Calls Tryz.prog 114 #[.pointer (some ⟨cp, 0, none⟩), .pointer (some ⟨cb, 0, none⟩)] w R := by
  have l1 := World.block_lt_of_cell? w _ hc
  have l2 := World.block_lt_of_cell? w _ h0
  have l3 := World.block_lt_of_cell? w _ hb
  have hall : ∀ o, (w.alloc o).cell? ⟨cp, 0, none⟩ = some (.pointer (some ⟨gp, 0, none⟩)) ∧ (w.alloc o).cell? ⟨gp, 0, none⟩ = some (.pointer (some ⟨gf, 0, none⟩)) ∧ (w.alloc o).cell? ⟨cb, 0, none⟩ = some (.slice A n c) := fun o =>
    ⟨by rw [World.cell?_alloc_lt _ _ _ l1]; exact hc, by rw [World.cell?_alloc_lt _ _ _ l2]; exact h0, by rw [World.cell?_alloc_lt _ _ _ l3]; exact hb⟩
  have hlg : Hid (Calls Tryz.prog 45 #[.pointer (some ⟨gp, 0, none⟩)] w.drew fun e w' => e = .returned (.string (str (logN nm))) ∧ w.drew = w') := hide (log_any w.drew gp nm h1 hl)
  have hlo : Hid (∀ o, Calls Tryz.prog 45 #[.pointer (some ⟨gp, 0, none⟩)] ((w.alloc o).drew) fun e w' => e = .returned (.string (str (logN nm))) ∧ (w.alloc o).drew = w') := hide fun o => log_any _ gp nm (by show (w.alloc o).cell? _ = _; rw [World.cell?_alloc_lt w o ⟨gp, 1, none⟩ l2]; exact h1) hl
  have kc : (convert 37 37 (.slice (some ⟨w.heap.size, 0, none⟩) 4 4)).run Tryz.prog ((w.alloc (.cells doneC 5)).drew) = .ok (.slice (some ⟨w.heap.size, 0, none⟩) 4 4) ((w.alloc doneO).drew) := Lib.run_convert_bytes_const (P := Tryz.prog) w.drew 37 5 doneC 4 4 Tryz.underlying37 Tryz.underlying5
  unfold doneC at kc
  replace hth := hide hth
  replace hR := hide hR
  replace hall := hide hall
  go_enter Tryz.func114, Tryz.ntmps114
  go_wp2_with fail
  have hco : convDone = Op.convert 37 37 (Operand.tmp 11) := rfl
  rw [← hco]
  go_region_held3 (fun w' => w'.cell? ⟨cp, 0, none⟩ = some (.pointer (some ⟨gp, 0, none⟩)) ∧ w'.cell? ⟨gp, 0, none⟩ = some (.pointer (some ⟨gf, 0, none⟩)) ∧ w'.cell? ⟨cb, 0, none⟩ = some (.slice A n c)) (first | exact ⟨hc, h0, hb⟩ | exact hall.out _ | exact hS3) (first
    | (go_at_call 45; refine hlg.out.mono ?_; rintro e w3 ⟨rfl, rfl⟩)
    | (go_at_call 45; refine (hlo.out _).mono ?_; rintro e w3 ⟨rfl, rfl⟩)
    | (go_at_call 111; refine (hth.out 1).mono ?_; intro e w3 h3; have he := (hR.out e w3 h3).1; have hS3 := (hR.out e w3 h3).2; subst he; replace h3 := hide h3))
  all_goals
    go_wp2_with fail
    first | exact h3.out | (go_ret; exact h3.out)
end Go.Proofs.YthohbbaglceppaaGreatDoor
namespace Go.Proofs.YthohbbaglceppaaGreatDoor
open Go.RowKit Go.Maps
set_option linter.unusedVariables false
/-- What lay leaves. -/
def LyRet (w : World) (H0 gf bm most stamp : Nat) (da la : List UInt8) (gd gl kl nl : Nat) (vl : Value) (e : Ending) (w' : World) : Prop :=
  e = .returned (.int .i64 0) ∧ Hid (∃ vd', FSt w' H0 gf bm most stamp da la gd 8 512 gl kl nl vd' vl ∧ FsO w w' ∧ Fr H0 gf bm w w')
theorem src_page {w : World} {gs : Nat} {p : List UInt8} (hp : Blk w gs 240 (bv p).toArray) (hpl : p.length = 512) : SrcB w gs 512 :=
  ⟨fun i hi => ⟨p[i]'(by omega), by rw [hp.cell]; have := bv_get (l := p) (k := i) (by omega); simpa using this⟩, 240, _, (0, 0), hp, by decide, by decide, by decide⟩
set_option maxRecDepth 100000 in
set_option maxHeartbeats 2000000 in
theorem lay_one (w : World) (H0 gf bm most stamp gd gl kl nl gp gw c gs : Nat) (nm p : List UInt8) (vd vl : Value) (cs : Array Value) (h : FSt w H0 gf bm most stamp (dbN nm) (logN nm) gd 0 0 gl kl nl vd vl) (hnm : nm.length ≤ 20) (hmost : most ≤ 65536) (hk : kl + 8 ≤ most) (hst : stamp ≤ 900000)
    (hpg : Blk w gp 85 cs) (hc0 : cs[0]? = some (ptrV gf)) (hc1 : cs[1]? = some (.string (str nm)))
    (h0 : w.cell? ⟨gw, 0, none⟩ = some (.int .i64 0)) (h1 : w.cell? ⟨gw, 1, none⟩ = some (.slice (some ⟨gs, 0, none⟩) 512 512)) (hp : Blk w gs 240 (bv p).toArray) (hpl : p.length = 512) :
    Calls Tryz.prog 82 #[.pointer (some ⟨gp, 0, none⟩), .slice (some ⟨gw, 0, none⟩) 1 c] w (LyRet w H0 gf bm most (stamp + 1) (dbN nm) (logN nm) gd gl kl nl vl) := by
  have hdl : (dbN nm).length ≤ 24 := by simp [dbN]; omega
  obtain ⟨W1, hW1⟩ : ∃ W1, W1 = w.alloc (.cells #[.int .i64 0, .slice (some ⟨gs, 0, none⟩) 512 512] 185) := ⟨_, rfl⟩
  obtain ⟨g6, hg6⟩ : ∃ g6, g6 = w.heap.size := ⟨_, rfl⟩
  have hB1 : Below w.heap.size w W1 := by rw [hW1]; exact (Below.refl w.heap.size w).alloc (Nat.le_refl _) _
  have hF1 := h.below hB1
  have hpg1 := hpg.below hB1 hpg.lt
  have hp1 := hp.below hB1 hp.lt
  have hcp : Blk W1 g6 185 #[.int .i64 0, .slice (some ⟨gs, 0, none⟩) 512 512] := by rw [hW1, hg6]; exact Blk.new w 185 _
  have a0 : W1.cell? ⟨gp, 0, none⟩ = some (.pointer (some ⟨gf, 0, none⟩)) := (hpg1.cell 0).trans hc0
  have a1 : W1.cell? ⟨gp, 1, none⟩ = some (.string (str nm)) := (hpg1.cell 1).trans hc1
  have a2 : W1.cell? ⟨g6, 0, none⟩ = some (.int .i64 0) := hcp.cell 0
  have a3 : W1.cell? ⟨g6, 1, none⟩ = some (.slice (some ⟨gs, 0, none⟩) 512 512) := hcp.cell 1
  have hdb := hide (db_any W1.drew gp nm a1 hnm)
  have hwr : Hid (Calls Tryz.prog 111 #[.pointer (some ⟨gf, 0, none⟩), .string (str (dbN nm)), .int .i64 0, .slice (some ⟨gs, 0, none⟩) 512 512] W1.drew fun e w' => e = .returned (.int .i64 0) ∧ Hid (LyRet w H0 gf bm most (stamp + 1) (dbN nm) (logN nm) gd gl kl nl vl (.returned (.int .i64 0)) w' ∧ w'.cell? ⟨gp, 0, none⟩ = some (.pointer (some ⟨gf, 0, none⟩)) ∧ w'.cell? ⟨gp, 1, none⟩ = some (.string (str nm)) ∧ w'.cell? ⟨g6, 0, none⟩ = some (.int .i64 0) ∧ w'.cell? ⟨g6, 1, none⟩ = some (.slice (some ⟨gs, 0, none⟩) 512 512))) := by
    have h9 := write_d W1.drew H0 gf bm most stamp gd 0 0 gl kl nl gs 512 512 0 (dbN nm) (logN nm) vd vl (hF1.drewN 1) hdl hmost (by omega) (by omega) (by omega) (by omega) (by omega) (by omega) (by omega) (by omega) (by omega) (src_page (w := W1.drew) hp1 hpl)
    refine hide (h9.mono ?_)
    rintro e w' ⟨rfl, h2⟩
    obtain ⟨vd', f1, f2, f3⟩ := h2.out
    have hpg2 := FsO.blk f2 (Blk.drew hpg1) (by decide) (by decide) (by decide)
    have hcp2 := FsO.blk f2 (Blk.drew hcp) (by decide) (by decide) (by decide)
    have hWf : Below w.heap.size w W1.drew := hB1.drew
    refine ⟨rfl, hide ⟨⟨rfl, hide ⟨vd', f1, (FsO.of_below hWf).trans f2, (Only.of_below hWf).trans f3 fun _ _ h => h⟩⟩, (hpg2.cell 0).trans hc0, (hpg2.cell 1).trans hc1, hcp2.cell 0, hcp2.cell 1⟩⟩
  replace hg6 := hg6
  replace h := hide h
  replace hF1 := hide hF1
  replace hpg := hide hpg
  replace hpg1 := hide hpg1
  replace hp := hide hp
  replace hp1 := hide hp1
  replace hcp := hide hcp
  replace hB1 := hide hB1
  go_enter Tryz.func82, Tryz.ntmps82
  go_wp2_with fail
  go_loopw [6, 7, 10] (fun _ _ v10 wx => (v10 = .int .i64 0 ∧ wx = w) ∨ (v10 = .int .i64 1 ∧ Hid (LyRet w H0 gf bm most (stamp + 1) (dbN nm) (logN nm) gd gl kl nl vl (.returned (.int .i64 0)) wx ∧ wx.cell? ⟨gp, 0, none⟩ = some (.pointer (some ⟨gf, 0, none⟩)) ∧ wx.cell? ⟨gp, 1, none⟩ = some (.string (str nm))))) (fun _ _ v10 _ => 1 - (intOf v10).toNat)
  case atStart => exact .inl ⟨rfl, rfl⟩
  case round =>
    rcases hrel with ⟨rfl, rfl⟩ | ⟨rfl, hH⟩
    · go_upto_region 4 with (fail)
      rw [← hW1, ← hg6]
      replace hW1 := hide hW1
      replace hg6 := hide hg6
      go_region_held3 (fun w' => w'.cell? ⟨gp, 0, none⟩ = some (.pointer (some ⟨gf, 0, none⟩)) ∧ w'.cell? ⟨g6, 0, none⟩ = some (.int .i64 0) ∧ w'.cell? ⟨g6, 1, none⟩ = some (.slice (some ⟨gs, 0, none⟩) 512 512)) (first | exact ⟨a0, a2, a3⟩ | exact ⟨h5.out.2.1, h5.out.2.2.2.1, h5.out.2.2.2.2⟩) (first
        | (go_at_call 43; refine hdb.out.mono ?_; rintro e w3 ⟨rfl, rfl⟩)
        | (go_at_call 111; refine hwr.out.mono ?_; rintro e w5 ⟨rfl, h5⟩))
      all_goals
        go_wp2_with fail
        go_roundw
        case rel => exact .inr ⟨rfl, hide ⟨h5.out.1, h5.out.2.1, h5.out.2.2.1⟩⟩
        case measure => simp [intOf]
    · obtain ⟨hL, b0, b1⟩ := hH.out
      obtain ⟨_, hL2⟩ := hL
      obtain ⟨vd', f1, f2, f3⟩ := hL2.out
      have hdb2 := hide (db_any wr.drew gp nm b1 hnm)
      have hpg2 := FsO.blk f2 hpg.out (by decide) (by decide) (by decide)
      have hsy : Hid (Calls Tryz.prog 113 #[.pointer (some ⟨gf, 0, none⟩), .string (str (dbN nm))] wr.drew fun e w' => e = .returned (.int .i64 0) ∧ Hid (LyRet w H0 gf bm most (stamp + 1) (dbN nm) (logN nm) gd gl kl nl vl (.returned (.int .i64 0)) w' ∧ w'.cell? ⟨gp, 0, none⟩ = some (.pointer (some ⟨gf, 0, none⟩)))) := by
        refine hide ((sync_d wr.drew H0 gf bm most (stamp + 1) gd 8 512 gl kl nl (dbN nm) (logN nm) vd' vl (f1.drewN 1) hdl (by omega)).mono ?_)
        rintro e w' ⟨rfl, h2⟩
        obtain ⟨k1, k2, k3⟩ := h2.out
        have hpg3 := FsO.blk k2 (Blk.drew hpg2) (by decide) (by decide) (by decide)
        have hWf : Below wr.heap.size wr wr.drew := (Below.refl _ _).drew
        exact ⟨rfl, hide ⟨⟨rfl, hide ⟨vd', k1, f2.trans ((FsO.of_below hWf).trans k2), f3.trans ((Only.of_below hWf).trans k3 fun _ _ h => h)⟩⟩, (hpg3.cell 0).trans hc0⟩⟩
      replace hpg2 := hide hpg2
      replace f1 := hide f1
      replace f2 : Hid _ := hide f2
      replace f3 : Hid _ := hide f3
      go_wp2_with fail
      go_region_held3 (fun w' => w'.cell? ⟨gp, 0, none⟩ = some (.pointer (some ⟨gf, 0, none⟩))) (first | exact b0 | exact h5.out.2) (first
        | (go_at_call 43; refine hdb2.out.mono ?_; rintro e w3 ⟨rfl, rfl⟩)
        | (go_at_call 113; refine hsy.out.mono ?_; rintro e w5 ⟨rfl, h5⟩))
      all_goals
        go_wp2_with fail
        go_ret
        exact h5.out.1
end Go.Proofs.YthohbbaglceppaaGreatDoor
