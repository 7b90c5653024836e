/- HeapOwn answers true. -/
import Derived.Test.YtldgeclcbikmbaaHFinite
set_option linter.unusedVariables false
set_option linter.unusedSimpArgs false
namespace Go.Proofs.Ytldgeclcbikmbaa
open Go.RowKit Go.Sort Go.Proofs.Ytldgeclcbikmbaa.Flt

/-- The first order, of which k numbers were spoilt. -/
def RowA (w : World) (lo hi : Nat) (xs : List Int) (ao : Option Addr) (cap k : Nat) : Prop :=
  (ao = none ∧ xs.length = 0 ∧ cap = 0) ∨ ∃ g cs, ao = some ⟨g, 0, none⟩ ∧ lo ≤ g ∧ g < hi ∧ Blk w g cs 3 ∧ cs.length = cap ∧ xs.length ≤ cap ∧ cap ≤ maxLen ∧ ∀ j, k ≤ j → j < xs.length → cs[j]? = some (.int .i64 (xs.getD j 0))
theorem rowA_new {w : World} {lo : Nat} {xs : List Int} {v : Value} (h : w.ownsRow lo 3 1 v xs.length (ivl xs)) : ∃ ao cap, v = .slice ao xs.length cap ∧ RowA w lo w.heap.size xs ao cap 0 := by
  rcases owns_blk h with ⟨rfl, h0, _⟩ | ⟨g, cap, more, rfl, hg, hb, hn, hc, hl⟩
  · exact ⟨none, 0, by rw [h0], .inl ⟨rfl, h0, rfl⟩⟩
  · refine ⟨_, cap, rfl, .inr ⟨g, _, rfl, hg, hb.lt, hb, by simpa using hl, hn, hc, fun j _ hj => ?_⟩⟩
    rw [List.getElem?_append_left (by simpa [ivl] using hj), ivl, List.getElem?_map, List.getElem?_eq_getElem hj, getD_lt _ _ hj]
    rfl
theorem RowA.keep {w w' : World} {lo hi : Nat} {xs : List Int} {ao : Option Addr} {cap k : Nat} {S : Nat → Prop} (h : RowA w lo hi xs ao cap k) (f : Fr S w w') (hS : ∀ x, lo ≤ x → x < hi → ¬ S x) : RowA w' lo hi xs ao cap k := by
  rcases h with h | ⟨g, cs, e, h1, h2, h3, h4⟩
  · exact .inl h
  · exact .inr ⟨g, cs, e, h1, h2, h3.keep f (hS g h1 h2), h4⟩
theorem RowA.owns {w : World} {lo hi : Nat} {xs : List Int} {ao : Option Addr} {cap k : Nat} (h : RowA w lo hi xs ao cap k) : (∃ cells, w.ownsRow lo 3 1 (.slice ao xs.length cap) xs.length cells) ∧ ∀ g, (Value.slice ao xs.length cap).ownBlock = some g → lo ≤ g ∧ g < hi := by
  rcases h with ⟨rfl, h0, rfl⟩ | ⟨g, cs, rfl, h1, h2, h3, h4, h5, h6, _⟩
  · rw [h0]
    exact ⟨⟨[], rfl, .inl ⟨rfl, rfl⟩⟩, fun g hg => by simp [Value.ownBlock] at hg⟩
  · refine ⟨⟨cs.take xs.length, blk_owns h1 (more := cs.drop xs.length) (by rw [List.take_append_drop]; exact h3) h5 h6 (by rw [List.take_append_drop, h4, Nat.mul_one]) (by simp; omega)⟩, fun x hx => ?_⟩
    simp only [Value.ownBlock, Option.some.injEq] at hx
    omega
theorem rdI_owns {w : World} {base : Nat} {v : Value} {xs : List Int} (h : w.ownsRow base 3 1 v xs.length (ivl xs)) : RdI w v xs := by
  rcases owns_blk h with ⟨rfl, h0, _⟩ | ⟨g, cap, more, rfl, _, hb, _⟩
  · exact ⟨none, 0, by simp [h0], fun j hj => by omega⟩
  · refine ⟨some ⟨g, 0, none⟩, cap, rfl, fun j hj => ⟨g, rfl, ?_⟩⟩
    exact hb.cell (by rw [List.getElem?_append_left (by simpa [ivl] using hj), ivl, List.getElem?_map, List.getElem?_eq_getElem hj, getD_lt _ _ hj]; rfl)

theorem owns_base {w : World} {base n : Nat} {e : TypeId} {size : Nat} {v : Value} {xs : List Value} (h : w.ownsRow base e size v n xs) {b : Nat} (hb : v.ownBlock = some b) : base ≤ b ∧ b < w.heap.size := by
  rcases owns_blk h with ⟨rfl, _, _⟩ | ⟨g, cap, more, rfl, hg, hgb, _⟩
  · simp [Value.ownBlock] at hb
  · simp only [Value.ownBlock, Option.some.injEq] at hb
    subst hb; exact ⟨hg, hgb.lt⟩

def InS (lo hi top : Nat) (x : Nat) : Prop := (lo ≤ x ∧ x < hi) ∨ top ≤ x

set_option maxHeartbeats 3200000 in
theorem walk_own (a0 : Int) (w : World) (sv : Value) (m : Nat) (hs : ActsAt w sv m) : Calls Try.prog 4 #[.int .i64 a0, sv] w fun e w' => e = .returned (.bool true) ∧ Below w.heap.size w w' := by
  have hp := play_ok a0 w sv m hs
  obtain ⟨ao, cap, rfl, hm, hc⟩ := hs
  clear hc hm
  go_enter Try.func4, Try.ntmps4
  go_wp2_with fail
  refine hp.mono ?_
  rintro e w1 ⟨kB, ⟨h0, rfl⟩ | ⟨h0, H, s, rfl, h1, hl⟩⟩
  · have K1 := Lib.hid kB
    have g1 : decide (a0 < 0) = true ∨ (decide (a0 < 0) = false ∧ decide (1048576 < a0) = true) := by
      by_cases a0 < 0
      · exact .inl (by simpa)
      · exact .inr ⟨by simp; omega, by simp; omega⟩
    clear kB h0 hp
    rcases g1 with g1 | ⟨g1, g2⟩
    · go_wp2_with fail
      refine (lives_ok w1).mono ?_
      rintro e w2 ⟨rfl, k2⟩
      have K2 := Lib.hid (K1.out.trans (k2.mono K1.out.size))
      go_wp2_with fail
      go_ret
      exact ⟨rfl, K2.out⟩
    · go_wp2_with fail
      refine (lives_ok w1).mono ?_
      rintro e w2 ⟨rfl, k2⟩
      have K2 := Lib.hid (K1.out.trans (k2.mono K1.out.size))
      go_wp2_with fail
      go_ret
      exact ⟨rfl, K2.out⟩
  · have g1 : decide (a0 < 0) = false := by simp; omega
    have g2 : decide (1048576 < a0) = false := by simp; omega
    have K1 := Lib.hid kB
    have H1 := Lib.hid h1
    have HL := Lib.hid hl
    clear kB h0 hp h1 hl
    go_wp2_with fail
    refine (lives_ok w1).mono ?_
    rintro e w2 ⟨rfl, k2⟩
    have K2 := Lib.hid (K1.out.trans (k2.mono K1.out.size))
    have H2 := Lib.hid (H1.out.stay (below_fr k2) (fun b hb => by omega))
    clear k2
    go_wp2_with fail
    refine (order_ok H2.out).mono ?_
    rintro e w3 ⟨va, rfl, oa, fa⟩
    have H3 := Lib.hid (H2.out.stay fa (fun _ _ e => e))
    go_wp2_with fail
    refine (order_ok H3.out).mono ?_
    rintro e w4 ⟨vb, rfl, ob, fb⟩
    obtain ⟨xs, ex⟩ : ∃ xs : List Int, xs = (inOrder s.fs s.l).map (fun (x : Nat) => (x : Int)) := ⟨_, rfl⟩
    have enx : nvl (inOrder s.fs s.l) = ivl xs := by rw [ex]; simp [nvl, ivl, iv, Function.comp_def]
    rw [enx] at oa ob
    have hln : s.l.length = xs.length := by have := oa.1; simpa [ivl] using this.symm
    have hnm : xs.length ≤ 1048576 := by
      obtain ⟨V, bs, bp, lv, q1, _⟩ := H2.out
      have := q1.hL; omega
    rw [hln] at oa ob
    obtain ⟨aoa, capa, rfl, ra⟩ := rowA_new oa
    have rb := rdI_owns ob
    obtain ⟨aob, capb, rfl, ra'⟩ := rowA_new ob
    obtain ⟨_, hbb⟩ := ra'.owns
    have ra2 := ra.keep fb (fun _ _ _ e => e)
    obtain ⟨lo, elo⟩ : ∃ lo, lo = w2.heap.size := ⟨_, rfl⟩
    obtain ⟨hi, ehi⟩ : ∃ hi, hi = w3.heap.size := ⟨_, rfl⟩
    obtain ⟨B, eB⟩ : ∃ B, B = w.heap.size := ⟨_, rfl⟩
    rw [← elo, ← ehi] at ra2
    rw [← ehi] at hbb
    have hlo : B ≤ lo := by rw [eB, elo]; exact K2.out.size
    have hlh : lo ≤ hi := by rw [elo, ehi]; exact fa.size
    have hht : hi ≤ w4.heap.size := by rw [ehi]; exact fb.size
    have hn4 : HeapN (fun x => x < B ∨ lo ≤ x) w4 H s := by
      have q := H2.out.to_n
      rw [← eB, ← elo] at q
      exact (q.stay fa (fun _ _ _ e => e)).stay fb (fun _ _ _ e => e)
    have hK4 : Below B w w4 := by
      rw [eB]
      exact (K2.out.trans (fa.below (by rw [← eB, ← elo]; exact hlo) (fun _ e => e.elim))).trans (fb.below (by rw [← eB, ← ehi]; omega) (fun _ e => e.elim))
    have HRA := Lib.hid ra2
    have HRB := Lib.hid rb
    have HBB := Lib.hid hbb
    have HN4 := Lib.hid hn4
    have HK4 := Lib.hid hK4
    have HEX := Lib.hid ex
    have HLN := Lib.hid hln
    have HENX := Lib.hid enx
    have HEB := Lib.hid eB
    clear oa ob ra rb ra' ra2 hbb hn4 hK4 ex hln enx H1 H2 H3 K1 K2 HL fa fb elo ehi eB g1 g2
    obtain ⟨n, en⟩ : ∃ n, n = xs.length := ⟨_, rfl⟩
    rw [← en] at hnm ⊢
    have HEN := Lib.hid en
    clear en
    go_wp2_with fail
    obtain ⟨i0, hinf, hz0, hz1, hz2⟩ := info_parts info_int
    have hHN := Lib.hid hnm
    go_loopw [8, 9] (fun want_ i_ wr => ∃ (k : Nat) (wv : Value), Hid (wv = want_) ∧ i_ = .int .i64 k ∧ k ≤ n ∧ Hid (wr.ownsRow w4.heap.size 3 1 wv k (ivl (xs.take k))) ∧ Hid (RowA wr lo hi xs aoa capa k) ∧ Hid (Fr (InS lo hi w4.heap.size) w4 wr)) (fun _ i_ _ => n - (intOf i_).toNat)
    case atStart =>
      refine ⟨0, _, rfl, rfl, Nat.zero_le _, ?_, HRA.out.keep (Fr.alloc w4 _) (fun _ _ _ e => e), (Fr.alloc w4 _).mono (fun _ _ e => e.elim)⟩
      exact blk_owns (xs := []) (more := []) (Nat.le_refl _) (Blk.new' rfl) (by omega) (by unfold maxLen; omega) rfl rfl
    case round =>
      obtain ⟨k, wv, HWV, rfl, hk, HW, HR, HF⟩ := hrel
      obtain rfl := HWV.out
      by_cases hlt : k < n
      · obtain ⟨g, cs, rfl, q1, q2, q3, q4, q5, q6, q7⟩ : ∃ g cs, aoa = some ⟨g, 0, none⟩ ∧ lo ≤ g ∧ g < hi ∧ Blk wr g cs 3 ∧ cs.length = capa ∧ xs.length ≤ capa ∧ capa ≤ maxLen ∧ ∀ j, k ≤ j → j < xs.length → cs[j]? = some (.int .i64 (xs.getD j 0)) := by
          rcases HR.out with ⟨_, h0, _⟩ | h
          · have := HEN.out; omega
          · exact h
        have hkx : k < xs.length := by have := HEN.out; omega
        obtain ⟨x, hx⟩ : ∃ x, x = xs.getD k 0 := ⟨_, rfl⟩
        have c0 : wr.cell? ⟨g, k, none⟩ = some (.int .i64 x) := by rw [hx]; exact q3.cell (q7 k (Nat.le_refl _) hkx)
        have b1 : (k : Int) < (n : Int) := by omega
        have b2 : (0 : Int) ≤ (k : Int) := by omega
        have hown0 := (Fr.alloc wr (.cells #[.int .i64 x] 3)).owns HW.out (fun _ _ e => e)
        have hbase : w4.heap.size ≤ wr.heap.size := HF.out.size
        have hb0 : w4.heap.size ≤ (wr.alloc (.cells #[.int .i64 x] 3)).heap.size := by simp; omega
        have hk8 : k * 8 ≤ 140737488351232 := by omega
        obtain ⟨cells, ec⟩ : ∃ cells, cells = ivl (xs.take k) := ⟨_, rfl⟩
        rw [← ec] at hown0
        have hgw : ¬ some g = wv.ownBlock := fun e => by have := (owns_base HW.out e.symm).1; omega
        have Q3 := Lib.hid q3
        have Q7 := Lib.hid q7
        have HX := Lib.hid hx
        have HEC := Lib.hid ec
        have HKX := Lib.hid hkx
        have HGW := Lib.hid hgw
        clear q3 q7 hx ec hkx hgw
        go_wp2_with (first
          | (at_builtin; go_loud (refine wpList_append_own_at _ rfl (.tmp 40) (.tmp 45) 38 rfl w4.heap.size 3 i0 (.int .i64 0) 1 8 und_ints hinf hz0 hz1 hz2 rfl (by decide) wv k cells rfl hown0 ⟨wr.heap.size, 0, none⟩ 1 1 [.int .i64 x] rfl rfl (cell_one_new _ _ _) (by simp [Value.oneCell']) (by unfold maxLen; omega) (by omega) hb0 ?_); intro v' w5 hown1 hg1 hnil1 hat1; have HG1 := Lib.hid hg1; have HO1 := Lib.hid hown1; have HAT := Lib.hid hat1; have d5 : Blk w5 g cs 3 := (Q3.out.keep (Fr.alloc wr (.cells #[.int .i64 x] 3)) (fun e => e)).keep (Fr.of_grown hg1) HGW.out; have d6 : w5.cell? ⟨g, k, none⟩ = some (.int .i64 x) := by rw [HX.out]; exact d5.cell (Q7.out k (Nat.le_refl _) HKX.out)
             have d7 := d5.free k; have D5 := Lib.hid d5; clear hg1 hown1 hat1 hnil1 d5))
        go_roundw
        case rel =>
          have hvg : v'.ownBlock ≠ some g := fun e => by
            rcases HAT.out with e' | e'
            · exact HGW.out (by rw [← e']; exact e.symm)
            · rw [e] at e'
              simp at e'
              have := Q3.out.lt
              omega
          have k1 := Fr.set w5 ⟨g, k, none⟩ (.int .i64 (-1 - (k : Int)))
          have f2 : Fr (InS lo hi w4.heap.size) w4 (w5.setCell ⟨g, k, none⟩ (.int .i64 (-1 - (k : Int)))) :=
            ((HF.out.then (Fr.alloc wr _) (fun _ _ e => e.elim)).then (Fr.of_grown HG1.out) (fun b hb e => .inr (owns_base HW.out e.symm).1)).then k1 (fun b hb e => .inl (by simp at e; omega))
          refine ⟨k + 1, v', rfl, (by go_num), by omega, ?_, ?_, f2⟩
          · have := k1.owns HO1.out (fun b hb e => hvg (by rw [hb]; exact congrArg some e))
            rw [HEC.out, HX.out] at this
            have e2 : ivl (xs.take (k + 1)) = ivl (xs.take k) ++ [.int .i64 (xs.getD k 0)] := by
              unfold ivl
              rw [← List.map_singleton, ← List.map_append, getD_lt _ _ HKX.out, List.take_append_getElem]
            rw [e2]
            exact this
          · refine .inr ⟨g, cs.set k (.int .i64 (-1 - (k : Int))), rfl, q1, q2, D5.out.set k _, by simpa using q4, q5, q6, fun j hj hjx => ?_⟩
            rw [List.getElem?_set_ne (by omega)]
            exact Q7.out j (by omega) hjx
        case measure => simp [intOf]; omega
      · have b1 : ¬ (k : Int) < (n : Int) := by omega
        have ek : k = n := by omega
        obtain ⟨aow, capw, ew⟩ : ∃ aow capw, wv = .slice aow n capw := by
          rcases owns_blk HW.out with ⟨e, h0, _⟩ | ⟨g, cap, more, e, _⟩
          · exact ⟨none, 0, by rw [e, ← ek, h0]⟩
          · exact ⟨_, cap, by rw [e, ek]⟩
        have hw := HW.out
        rw [ek, HEN.out, List.take_length] at hw
        have hwI := rdI_owns hw
        have hwb := fun (g : Nat) (e : wv.ownBlock = some g) => owns_base hw e
        obtain ⟨⟨ca, ha⟩, hab⟩ := HR.out.owns
        rw [← HEN.out] at ha hab
        have HWI := Lib.hid hwI
        have HWB := Lib.hid hwb
        have HA := Lib.hid ha
        have HAB := Lib.hid hab
        subst ew
        clear hw hwI hwb ha hab HW HR ek hlt HRA
        rename World => w7
        go_wp2_with fail
        go_loopw [6, 10] (fun a_ i_ wr => ∃ (k : Nat) (av : Value), Hid (av = a_) ∧ i_ = .int .i64 k ∧ k ≤ 16 ∧ Hid (∃ cells, wr.ownsRow lo 3 1 av (n + k) cells) ∧ Hid (∀ g, av.ownBlock = some g → InS lo hi w7.heap.size g) ∧ Hid (Fr (InS lo hi w7.heap.size) w7 wr)) (fun _ i_ _ => 16 - (intOf i_).toNat)
        case atStart => exact ⟨0, _, rfl, rfl, Nat.zero_le _, ⟨ca, HA.out⟩, fun g e => .inl (HAB.out g e), Fr.refl _ _⟩
        case round =>
          obtain ⟨k, av, HAV, rfl, hk, HA2, HS2, HF2⟩ := hrel
          obtain rfl := HAV.out
          by_cases hlt : k < 16
          · obtain ⟨cells, hown⟩ := HA2.out
            have hown0 := (Fr.alloc wr (.cells #[.int .i64 (-100 - (k : Int))] 3)).owns hown (fun _ _ e => e)
            have hb0 : lo ≤ (wr.alloc (.cells #[.int .i64 (-100 - (k : Int))] 3)).heap.size := by
              have := HF2.out.size; have := HF.out.size
              simp; omega
            have hk8 : (n + k) * 8 ≤ 140737488351232 := by omega
            have b1 : (k : Int) < 16 := by omega
            clear hown
            go_wp2_with (first
              | (at_builtin; go_loud (refine wpList_append_own_at _ rfl (.tmp 56) (.tmp 59) 38 rfl lo 3 i0 (.int .i64 0) 1 8 und_ints hinf hz0 hz1 hz2 rfl (by decide) av (n + k) cells rfl hown0 ⟨wr.heap.size, 0, none⟩ 1 1 [.int .i64 (-100 - (k : Int))] rfl rfl (cell_one_new _ _ _) (by simp [Value.oneCell']) (by unfold maxLen; omega) (by omega) hb0 ?_); intro v' w5 hown1 hg1 hnil1 hat1; have HG1 := Lib.hid hg1; have HO1 := Lib.hid hown1; have HAT := Lib.hid hat1; clear hg1 hown1 hat1 hnil1))
            go_roundw
            case rel =>
              refine ⟨k + 1, v', rfl, (by go_num), by omega, ⟨_, HO1.out⟩, fun g e => ?_, (HF2.out.then (Fr.alloc wr _) (fun _ _ e => e.elim)).then (Fr.of_grown HG1.out) (fun b hb e => HS2.out b e.symm)⟩
              rcases HAT.out with e' | e'
              · exact HS2.out g (by rw [← e']; exact e)
              · rw [e] at e'
                simp at e'
                have := HF2.out.size
                exact .inr (by omega)
            case measure => simp [intOf]; omega
          · have b1 : ¬ (k : Int) < 16 := by omega
            have ek : k = 16 := by omega
            have HA3 := HA2.out
            obtain ⟨cells, hown⟩ := HA3
            obtain ⟨aoz, capz, ez⟩ : ∃ aoz capz, av = .slice aoz (n + 16) capz := by
              rw [ek] at hown
              obtain ⟨g, capz, e⟩ := owns_shape hown (by omega)
              exact ⟨_, capz, e⟩
            subst ez
            have hlt7 : w4.heap.size ≤ w7.heap.size := HF.out.size
            have hbI := (HRB.out.keep HF.out (fun b hb e => by have := HBB.out b hb; unfold InS at e; omega)).keep HF2.out (fun b hb e => by have := HBB.out b hb; unfold InS at e; omega)
            have hwI := HWI.out.keep HF2.out (fun b hb e => by have := HWB.out b hb; unfold InS at e; omega)
            have hH := ((HN4.out.stay HF.out (fun b hb hn e => by unfold InS at e; omega)).stay HF2.out (fun b hb hn e => by have : b < B ∨ lo ≤ b ∨ (B ≤ b ∧ b < lo) := (by omega); unfold InS at e; omega)).to_ok (B := B) (fun b hb => .inl hb)
            have hBl : RowKit.Below B w wr := (HK4.out.trans (HF.out.below (by omega) (fun x e => by unfold InS at e; omega))).trans (HF2.out.below (by omega) (fun x e => by unfold InS at e; omega))
            have HBI := Lib.hid hbI
            have HWI2 := Lib.hid hwI
            have HH := Lib.hid hH
            have HBL := Lib.hid hBl
            clear hown HA2 HS2 HF2 hbI hwI hH hBl HRB HWI HN4 HK4 HF HA HAB HWB HBB hlt
            rw [← HEN.out] at HBI
            have b2 : ((n : Int) + 16 == (n : Int) + 16) = true := by simp
            go_wp2_with fail
            refine (ints_same HBI.out HWI2.out (by have := HEN.out; omega)).mono ?_
            rintro e w8 ⟨rfl, f8⟩
            go_wp2_with fail
            refine (order_ok (HH.out.stay f8 (fun _ _ e => e))).mono ?_
            rintro e w9 ⟨vc, rfl, oc, f9⟩
            rw [HENX.out, HLN.out] at oc
            go_wp2_with fail
            have hwI9 := (HWI2.out.keep f8 (fun _ _ e => e)).keep f9 (fun _ _ e => e)
            refine (ints_same (rdI_owns oc) hwI9 (by have := HEN.out; omega)).mono ?_
            rintro e w10 ⟨rfl, f10⟩
            go_wp2_with fail
            go_ret
            refine ⟨rfl, ?_⟩
            have hs := HBL.out.size
            have hs8 := f8.size
            have hs9 := f9.size
            have hb := HEB.out
            rw [← hb]
            exact ((HBL.out.trans (f8.below (by omega) (fun _ e => e.elim))).trans (f9.below (by omega) (fun _ e => e.elim))).trans (f10.below (by omega) (fun _ e => e.elim))
end Go.Proofs.Ytldgeclcbikmbaa
