/- HeapSorts answers true. -/
import Derived.Test.YtldgeclcbikmbaaHFinite
set_option linter.unusedVariables false
set_option linter.unusedSimpArgs false
namespace Go.Proofs.Ytldgeclcbikmbaa
open Go.RowKit Go.Sort Go.Proofs.Ytldgeclcbikmbaa.Flt

theorem pop_n {N : Nat → Prop} {H : Nat} {w : World} {s : HS} (h : HeapN N w H s) (h0 : 0 < s.l.length) : Calls Try.prog 18 #[.pointer (some ⟨H, 0, none⟩)] w fun e w' => e = .returned (.tuple #[.int .i64 (s.l.getD 0 0 : Nat), .int .i64 0]) ∧ HeapN N w' H (popS s) ∧ Fr (fun b => ¬ N b) w w' := by
  obtain ⟨V, bs, bp, lv, h1, h2, b1, b2, b3, b4, b5⟩ := h
  refine (pop_heap h1 h0).mono ?_
  rintro e w' ⟨he, lv', q1, q2, q3⟩
  refine ⟨he, ⟨V, bs, bp, lv', q1, (inv_pop h2 h0).1, b1, b2, b3, b4, fun b hb => b5 b (by rw [← q3]; exact hb)⟩, q2.mono (fun x _ hx => ?_)⟩
  rcases hx with e | e | e
  · exact b5 x e
  · rw [e]; first | exact b4 | exact b1
  · rw [e]; first | exact b1 | exact b4

/-- What is left behind k pops. -/
structure Left (fs os : List Nat) (k : Nat) (s : HS) : Prop where
  inv : Inv s
  fs : s.fs = fs
  pm : s.l.Perm (os.drop k)
theorem drop_cons (os : List Nat) (k : Nat) (h : k < os.length) : os.drop k = os.getD k 0 :: os.drop (k + 1) := by
  rw [getD_lt _ _ h, List.drop_eq_getElem_cons h]
theorem Left.top {fs os : List Nat} {k : Nat} {s : HS} (h : Left fs os k s) (hs : os.Pairwise fun x y => ahs fs y x = false) (hk : k < os.length) : 0 < s.l.length ∧ s.l.getD 0 0 = os.getD k 0 := by
  have hO : STO (ahs fs) := by rw [← h.fs]; exact ahs_sto h.inv.fl.fin
  have hlen := h.pm.length_eq
  rw [List.length_drop] at hlen
  have h0 : 0 < s.l.length := by omega
  refine ⟨h0, ?_⟩
  have hd := drop_cons os k hk
  have hx : os.getD k 0 ∈ s.l := h.pm.mem_iff.2 (by rw [hd]; exact List.mem_cons_self)
  have ht : s.l.getD 0 0 ∈ os.drop k := h.pm.mem_iff.1 (by rw [getD_lt _ _ h0]; exact List.getElem_mem h0)
  obtain ⟨j, hj, ej⟩ := List.getElem_of_mem hx
  have h1 : ahs fs (os.getD k 0) (s.l.getD 0 0) = false := by
    have := heap_top hO (by have := h.inv.co.hp; rwa [h.fs] at this) j hj
    rwa [getD_lt _ _ hj, ej] at this
  rw [hd] at ht
  rcases List.mem_cons.1 ht with e | e
  · exact e
  · have hp : (os.drop k).Pairwise fun x y => ahs fs y x = false := hs.sublist (List.drop_sublist k os)
    rw [hd] at hp
    exact hO.tot _ _ ((List.pairwise_cons.1 hp).1 _ e) h1
theorem Left.pop {fs os : List Nat} {k : Nat} {s : HS} (h : Left fs os k s) (hs : os.Pairwise fun x y => ahs fs y x = false) (hk : k < os.length) : Left fs os (k + 1) (popS s) ∧ s.l.getD 0 0 ∉ (popS s).l := by
  obtain ⟨h0, ht⟩ := h.top hs hk
  obtain ⟨i1, i2, i3⟩ := inv_pop h.inv h0
  refine ⟨⟨i1, by rw [i3, h.fs], ?_⟩, ?_⟩
  · have := i2.symm.trans h.pm
    rw [drop_cons os k hk, ht] at this
    exact this.cons_inv
  · have hn := i2.nodup_iff.1 h.inv.co.nd
    exact (List.nodup_cons.1 hn).1
theorem next_lt {fs os : List Nat} (hf : FinS fs) (hs : os.Pairwise fun x y => ahs fs y x = false) (hn : os.Nodup) {k : Nat} (hk : k + 1 < os.length) :
    fs.getD (os.getD (k + 1) 0) 0 < fs.getD (os.getD k 0) 0 ∨ (fs.getD (os.getD (k + 1) 0) 0 = fs.getD (os.getD k 0) 0 ∧ os.getD k 0 < os.getD (k + 1) 0) := by
  have hO := ahs_sto hf
  have h1 : ahs fs (os.getD (k + 1) 0) (os.getD k 0) = false := by
    rw [getD_lt _ _ hk, getD_lt _ _ (by omega)]
    exact List.pairwise_iff_getElem.1 hs k (k + 1) (by omega) hk (by omega)
  have h2 : os.getD k 0 ≠ os.getD (k + 1) 0 := by
    rw [getD_lt _ _ hk, getD_lt _ _ (by omega)]
    exact List.pairwise_iff_getElem.1 hn k (k + 1) (by omega) hk (by omega)
  have h3 : ahs fs (os.getD k 0) (os.getD (k + 1) 0) = true := by
    cases h : ahs fs (os.getD k 0) (os.getD (k + 1) 0)
    · exact absurd (hO.tot _ _ h h1) h2
    · rfl
  have := (ahs_iff hf _ _).1 h3
  omega
theorem cmp_two {x y : Nat} (hx : x ≤ GREAT) (hy : y ≤ GREAT) : FloatKind.f64.format.order x y = some (compare x y) := order_fin (Nat.lt_of_le_of_lt hx (by decide)) (Nat.lt_of_le_of_lt hy (by decide))
set_option maxHeartbeats 3200000 in
set_option maxRecDepth 20000 in
theorem walk_sorts (a0 : Int) (w : World) (sv : Value) (m : Nat) (hs : ActsAt w sv m) : Calls Try.prog 6 #[.int .i64 a0, sv] w fun e w' => e = .returned (.bool true) ∧ Below w.heap.size w w' := by
  have hp := play_ok a0 w sv m hs
  obtain ⟨ao, cap, rfl, hm, hc⟩ := hs
  clear hc hm
  go_enter Try.func6, Try.ntmps6
  go_wp2_with fail
  refine hp.mono ?_
  rintro e w1 ⟨kB, ⟨h0, rfl⟩ | ⟨h0, H, s, rfl, h1, hl⟩⟩
  · have K1 := Lib.hid kB
    have g1 : decide (a0 < 0) = true ∨ (decide (a0 < 0) = false ∧ decide (1048576 < a0) = true) := by
      by_cases a0 < 0
      · exact .inl (by simpa)
      · exact .inr ⟨by simp; omega, by simp; omega⟩
    clear kB h0 hp
    rcases g1 with g1 | ⟨g1, g2⟩
    · go_wp2_with fail
      refine (lives_ok w1).mono ?_
      rintro e w2 ⟨rfl, k2⟩
      have K2 := Lib.hid (K1.out.trans (k2.mono K1.out.size))
      go_wp2_with fail
      go_ret
      exact ⟨rfl, K2.out⟩
    · go_wp2_with fail
      refine (lives_ok w1).mono ?_
      rintro e w2 ⟨rfl, k2⟩
      have K2 := Lib.hid (K1.out.trans (k2.mono K1.out.size))
      go_wp2_with fail
      go_ret
      exact ⟨rfl, K2.out⟩
  · have g1 : decide (a0 < 0) = false := by simp; omega
    have g2 : decide (1048576 < a0) = false := by simp; omega
    have K1 := Lib.hid kB
    have H1 := Lib.hid h1
    have HL := Lib.hid hl
    clear kB h0 hp h1 hl
    go_wp2_with fail
    refine (lives_ok w1).mono ?_
    rintro e w2 ⟨rfl, k2⟩
    have K2 := Lib.hid (K1.out.trans (k2.mono K1.out.size))
    have H2 := Lib.hid (H1.out.stay (below_fr k2) (fun b hb => by omega))
    clear k2
    go_wp2_with fail
    refine (order_ok H2.out).mono ?_
    rintro e w3 ⟨va, rfl, oa, fa⟩
    obtain ⟨os, eo⟩ : ∃ os, os = inOrder s.fs s.l := ⟨_, rfl⟩
    have hin := H2.out.inv
    have hsorted : os.Pairwise fun x y => ahs s.fs y x = false := by rw [eo]; exact inOrder_sorted (ahs_sto hin.fl.fin) s.l
    have hperm : os.Perm s.l := by rw [eo]; exact inOrder_perm s.fs s.l
    have hnod : os.Nodup := hperm.nodup_iff.2 hin.co.nd
    have hln : s.l.length = os.length := hperm.length_eq.symm
    have hnm : os.length ≤ 1048576 := by
      obtain ⟨V, bs, bp, lv, q1, _⟩ := H2.out
      have := q1.hL; omega
    rw [← eo] at oa
    have hla : Left s.fs os 0 s := ⟨hin, rfl, hperm.symm⟩
    have ra := rdI_own oa
    have hab := fun (b : Nat) (e : va.ownBlock = some b) => (show w2.heap.size ≤ b ∧ b < w3.heap.size from by
      rcases owns_blk oa with ⟨rfl, _, _⟩ | ⟨g, cap, more, rfl, hg, hgb, _⟩
      · simp [Value.ownBlock] at e
      · simp only [Value.ownBlock, Option.some.injEq] at e
        subst e; exact ⟨hg, hgb.lt⟩)
    obtain ⟨aoo, capo, rfl, hcell⟩ := ra
    obtain ⟨lo, elo⟩ : ∃ lo, lo = w2.heap.size := ⟨_, rfl⟩
    obtain ⟨hi, ehi⟩ : ∃ hi, hi = w3.heap.size := ⟨_, rfl⟩
    obtain ⟨B, eB⟩ : ∃ B, B = w.heap.size := ⟨_, rfl⟩
    have hlo : B ≤ lo := by rw [eB, elo]; exact K2.out.size
    have hlh : lo ≤ hi := by rw [elo, ehi]; exact fa.size
    rw [← elo, ← ehi] at hab
    have hn3 : HeapN (fun x => x < B ∨ (lo ≤ x ∧ x < hi)) w3 H s := by
      have q := H2.out.to_n
      rw [← eB, ← elo] at q
      exact (q.stay fa (fun _ _ _ e => e)).mono (fun b hb => by omega)
    have hK3 : RowKit.Below B w w3 := by
      rw [eB]
      exact K2.out.trans (fa.below (by rw [← eB, ← elo]; exact hlo) (fun _ e => e.elim))
    have hl3 : s.l.length = os.length := hln
    have HL0 := Lib.hid hla
    have HS := Lib.hid hsorted
    have HND := Lib.hid hnod
    have HF := Lib.hid hin.fl.fin
    have HFL := Lib.hid hin.fl.sc
    have HBD := Lib.hid hin.co.bd
    have HAB := Lib.hid hab
    have HCELL := Lib.hid hcell
    have HN3 := Lib.hid hn3
    have HK3 := Lib.hid hK3
    have HEB := Lib.hid eB
    have hlm : (os.map fun (x : Nat) => (x : Int)).length = os.length := by simp
    obtain ⟨n, en⟩ : ∃ n, n = os.length := ⟨_, rfl⟩
    rw [hlm, ← en]
    have hnn : s.l.length = n := by omega
    have HEN := Lib.hid en
    have hHI : hi ≤ w3.heap.size := by omega
    rw [← en] at hnm
    clear oa fa hla hsorted hnod hperm hin hcell hn3 hK3 eB elo ehi eo hl3 hln hlm en hab H1 K1 HL K2 H2 g1 g2
    go_wp2_with fail
    refine (len_ok (HN3.out.to_ok (B := B) (fun b hb => .inl hb))).mono ?_
    rintro e w' ⟨rfl, rfl⟩
    rw [hnn]
    have b0 : ((n : Int) != (n : Int)) = false := by simp
    go_wp2_with fail
    go_loopw [8, 9, 10] (fun last_ was_ i_ wr => ∃ (k : Nat) (lst : Int) (wz : Nat), last_ = .int .i64 lst ∧ was_ = .float .f64 wz ∧ i_ = .int .i64 k ∧ k ≤ n ∧ Hid (0 < k → lst = (os.getD (k - 1) 0 : Nat) ∧ wz = s.fs.getD (os.getD (k - 1) 0) 0) ∧ Hid (∃ t, HeapN (fun x => x < B ∨ (lo ≤ x ∧ x < hi)) wr H t ∧ Left s.fs os k t) ∧ Hid (Fr (fun b => ¬ (b < B ∨ (lo ≤ b ∧ b < hi))) w3 wr)) (fun _ _ i_ _ => n - (intOf i_).toNat)
    case atStart => exact ⟨0, -1, 0, rfl, rfl, rfl, Nat.zero_le _, fun h => absurd h (by omega), ⟨s, HN3.out, HL0.out⟩, Fr.refl _ _⟩
    case round =>
      obtain ⟨k, lst, wz, rfl, rfl, rfl, hk, HPREV, HT, HFR⟩ := hrel
      obtain ⟨t, ht, hlt⟩ := HT.out
      by_cases hkn : k < n
      · have hko : k < os.length := by have := HEN.out; omega
        obtain ⟨h0, htop⟩ := hlt.top HS.out hko
        obtain ⟨hpop, hnot⟩ := hlt.pop HS.out hko
        have hvl : t.l.getD 0 0 < t.fs.length := hlt.inv.co.bd _ (by rw [getD_lt _ _ h0]; exact List.getElem_mem h0)
        have hB : ∀ b, b < B → (b < B ∨ (lo ≤ b ∧ b < hi)) := fun b hb => .inl hb
        have hNw : ∀ b, (b < B ∨ (lo ≤ b ∧ b < hi)) → b < wr.heap.size := fun b hb => by have := HFR.out.size; have := HK3.out.size; have := HEB.out; omega
        have htopc := top_ok (ht.to_ok hB) h0
        have hpopc := pop_n ht h0
        obtain ⟨ps, eps⟩ : ∃ ps, ps = popS t := ⟨_, rfl⟩
        obtain ⟨v, ev⟩ : ∃ v, v = t.l.getD 0 0 := ⟨_, rfl⟩
        rw [← ev] at htop hvl hnot htopc hpopc
        rw [← eps] at hpop hnot hpopc
        obtain ⟨g, ego, hg⟩ := HCELL.out k (by simp; omega)
        have hgm : (os.map fun (x : Nat) => (x : Int)).getD k 0 = (v : Int) := by rw [htop, getD_lt _ _ (by simpa using hko), getD_lt _ _ hko]; simp
        rw [hgm] at hg
        have hgb := HAB.out g (by rw [ego]; rfl)
        subst ego
        have hfs : ps.fs = t.fs := by rw [hpop.fs, hlt.fs]
        have hvp : v < ps.fs.length := by rw [hfs]; exact hvl
        obtain ⟨x, hx⟩ : ∃ x, x = ps.fs.getD v 0 := ⟨_, rfl⟩
        have hxv : x = s.fs.getD v 0 := by rw [hx, hpop.fs]
        have hplen : ps.l.length = n - 1 - k := by
          have := hpop.pm.length_eq
          rw [List.length_drop] at this
          have := HEN.out
          omega
        obtain ⟨L, eL⟩ : ∃ L, L = ps.l.length := ⟨_, rfl⟩
        have c1 : ((v : Int) != (v : Int)) = false := by simp
        have c2 : ((L : Int) != (n : Int) - 1 - (k : Int)) = false := by rw [eL, hplen, bne_eq_false_iff_eq]; omega
        have b1 : (k : Int) < (n : Int) := by omega
        have b2 : (0 : Int) ≤ (k : Int) := by omega
        have HX := Lib.hid hx
        have HXV := Lib.hid hxv
        have HEL := Lib.hid eL
        have HTOP := Lib.hid htop
        have HPOP := Lib.hid hpop
        have HNOT := Lib.hid hnot
        have HVP := Lib.hid hvp
        have HG := Lib.hid hg
        have HCMP : (k = 0) ∨ (0 < k ∧ FloatKind.f64.format.order x wz = some .lt) ∨ (0 < k ∧ FloatKind.f64.format.order x wz = some .eq ∧ decide ((v : Int) ≤ lst) = false) := by
          by_cases hk0 : k = 0
          · exact .inl hk0
          · obtain ⟨j, rfl⟩ : ∃ j, k = j + 1 := ⟨k - 1, by omega⟩
            obtain ⟨p1, p2⟩ := HPREV.out (by omega)
            simp only [Nat.add_sub_cancel] at p1 p2
            have hnx := next_lt HF.out HS.out HND.out hko
            rw [← htop, ← p2, ← hxv] at hnx
            have hjo : os.getD j 0 < s.fs.length := by
              have hm : os.getD j 0 ∈ os := by rw [getD_lt _ _ (by omega)]; exact List.getElem_mem _
              exact HBD.out _ (HL0.out.pm.mem_iff.2 (by simpa using hm))
            have hxG : x ≤ GREAT := by rw [hxv]; rw [hlt.fs] at hvl; rw [getD_lt _ _ hvl]; exact HFL.out _ (List.getElem_mem _)
            have hwG : wz ≤ GREAT := by rw [p2, getD_lt _ _ hjo]; exact HFL.out _ (List.getElem_mem _)
            rw [cmp_two hxG hwG]
            rcases hnx with h | ⟨h, h'⟩
            · exact .inr (.inl ⟨by omega, by rw [Nat.compare_eq_lt.mpr h]⟩)
            · exact .inr (.inr ⟨by omega, by rw [h]; simp, by rw [p1]; simp; exact h'⟩)
        clear hx hxv htop hpop hnot hvl hg hgm hfs hplen hvp eps ev hko eL HPREV
        go_wp2_with fail
        refine htopc.mono ?_
        rintro e w' ⟨rfl, rfl⟩
        go_wp2_with fail
        refine hpopc.mono ?_
        rintro e w5 ⟨rfl, h5, f5⟩
        have h5k := h5.to_ok hB
        have H5 := Lib.hid h5
        have F5 := Lib.hid f5
        have cg : w5.cell? ⟨g, k, none⟩ = some (.int .i64 v) := (f5.cell (p := ⟨g, k, none⟩) (fun e => e (.inr hgb)) (HFR.out.cell (p := ⟨g, k, none⟩) (fun e => e (.inr hgb)) HG.out))
        clear f5 h5 htopc hpopc
        go_wp2_with fail
        have hsc := score_ok h5k HVP.out
        rw [← HX.out] at hsc
        refine hsc.mono ?_
        rintro e w' ⟨rfl, rfl⟩
        clear hsc
        go_wp2_with fail
        refine (hasnt_ok h5k HVP.out HNOT.out).mono ?_
        rintro e w' ⟨rfl, rfl⟩
        go_wp2_with fail
        have hlc := len_ok h5k
        rw [← HEL.out] at hlc
        refine hlc.mono ?_
        rintro e w' ⟨rfl, rfl⟩
        clear hlc
        rcases HCMP with rfl | ⟨hk0, o1⟩ | ⟨hk0, o1, o2⟩
        · go_wp2_with fail
          go_roundw
          case rel => exact ⟨0 + 1, v, x, rfl, rfl, (by go_num), by omega, fun _ => ⟨by rw [HTOP.out], by rw [HXV.out, HTOP.out]⟩, ⟨ps, H5.out, HPOP.out⟩, HFR.out.then F5.out (fun _ _ e => e)⟩
          case measure => simp [intOf]; omega
        · have b3 : (0 : Int) < (k : Int) := by omega
          go_wp2_with fail
          go_roundw
          case rel => exact ⟨k + 1, v, x, rfl, rfl, (by go_num), by omega, fun _ => ⟨by rw [HTOP.out]; simp, by rw [HXV.out, HTOP.out]; simp⟩, ⟨ps, H5.out, HPOP.out⟩, HFR.out.then F5.out (fun _ _ e => e)⟩
          case measure => simp [intOf]; omega
        · have b3 : (0 : Int) < (k : Int) := by omega
          go_wp2_with fail
          go_roundw
          case rel => exact ⟨k + 1, v, x, rfl, rfl, (by go_num), by omega, fun _ => ⟨by rw [HTOP.out]; simp, by rw [HXV.out, HTOP.out]; simp⟩, ⟨ps, H5.out, HPOP.out⟩, HFR.out.then F5.out (fun _ _ e => e)⟩
          case measure => simp [intOf]; omega
      · have b1 : ¬ (k : Int) < (n : Int) := by omega
        have hl0 : t.l.length = 0 := by
          have := hlt.pm.length_eq
          rw [List.length_drop] at this
          have := HEN.out
          omega
        have hno := pop_no (ht.to_ok (B := B) (fun b hb => .inl hb)) hl0
        have HFR2 := Lib.hid HFR.out
        clear HPREV HT ht hlt HFR
        go_wp2_with fail
        refine hno.mono ?_
        rintro e w' ⟨rfl, rfl⟩
        go_wp2_with fail
        go_ret
        have hb := HEB.out
        rw [← hb]
        exact ⟨rfl, HK3.out.trans (HFR2.out.below (by have := HK3.out.size; omega) (fun b e => Nat.le_of_not_lt fun h => e (.inl h)))⟩
end Go.Proofs.Ytldgeclcbikmbaa
