/- The store of units in memory; what only reads it. -/
import Derived.Test.YtgdnehejeoiicaaSuA
set_option linter.unusedVariables false
set_option linter.unusedSimpArgs false
namespace Go.Proofs.Ytgdnehejeoiicaa
open Go.RowKit

structure CL where
  xs : List Int
  p : Int
  q : Int
structure MK where
  lit : Int
  level : Int
  reason : Int
structure US where
  n : Nat
  vals : List Int
  cls : List CL
  marks : List MK

def clCells : List CL → List Value → List Value
  | c :: cs, v :: vs => v :: .int .i64 c.p :: .int .i64 c.q :: clCells cs vs
  | _, _ => []
def mkCells (ms : List MK) : List Value := ms.flatMap fun m => [.int .i64 m.lit, .int .i64 m.level, .int .i64 m.reason]
theorem clCells_len : ∀ (cs : List CL) (vs : List Value), cs.length = vs.length → (clCells cs vs).length = cs.length * 3
  | [], [], _ => rfl
  | c :: cs, v :: vs, h => by
    simp only [clCells, List.length_cons] at *
    have := clCells_len cs vs (by omega)
    omega
theorem clCells_app : ∀ (cs : List CL) (vs : List Value) (c : CL) (v : Value), cs.length = vs.length → clCells (cs ++ [c]) (vs ++ [v]) = clCells cs vs ++ [v, .int .i64 c.p, .int .i64 c.q]
  | [], [], _, _, _ => rfl
  | c' :: cs, v' :: vs, c, v, h => by
    simp only [clCells, List.cons_append]
    rw [clCells_app cs vs c v (by simpa using h)]

structure StoreAt (w : World) (U : Nat) (vs cs ms : Value) (cv : List Value) (st : US) : Prop where
  hU : Blk w U [.bool true, vs, cs, ms] 74
  hv : w.ownsRow 0 3 1 vs (st.n + 1) (ivl st.vals)
  hc : w.ownsRow 0 85 3 cs st.cls.length (clCells st.cls cv)
  hm : w.ownsRow 0 52 3 ms st.marks.length (mkCells st.marks)
  hl : st.cls.length = cv.length
  hr : ∀ i, i < cv.length → ∃ xs, (st.cls.map (·.xs))[i]? = some xs ∧ w.ownsRow 0 3 1 (cv.getD i (.bool false)) xs.length (ivl xs) ∧ xs.length * 8 ≤ 140737488351232
  hn : st.n ≤ 262144
  hk : st.cls.length ≤ 1048576
  hmn : st.marks.length ≤ 262144
  hd : ∀ v ∈ cv, ∀ g, v.ownBlock = some g → vs.ownBlock ≠ some g

/-- .. away from the blocks of N. -/
def StoreN (N : Nat → Prop) (w : World) (U : Nat) (st : US) : Prop :=
  ∃ vs cs ms cv, StoreAt w U vs cs ms cv st ∧ ¬ N U ∧ (∀ g, vs.ownBlock = some g → ¬ N g) ∧ (∀ g, cs.ownBlock = some g → ¬ N g) ∧ (∀ g, ms.ownBlock = some g → ¬ N g) ∧ ∀ v ∈ cv, ∀ g, v.ownBlock = some g → ¬ N g

theorem owns_lt {w : World} {base n : Nat} {e : TypeId} {size : Nat} {v : Value} {xs : List Value} (h : w.ownsRow base e size v n xs) {b : Nat} (hb : v.ownBlock = some b) : base ≤ b ∧ b < w.heap.size := by
  rcases owns_blk h with ⟨rfl, _, _⟩ | ⟨g, cap, more, rfl, hg, hgb, _⟩
  · simp [Value.ownBlock] at hb
  · simp only [Value.ownBlock, Option.some.injEq] at hb
    subst hb; exact ⟨hg, hgb.lt⟩
theorem owns_form {w : World} {base n : Nat} {e : TypeId} {size : Nat} {v : Value} {xs : List Value} (h : w.ownsRow base e size v n xs) : ∃ ao cap, v = .slice ao n cap := by
  rcases owns_blk h with ⟨rfl, h0, _⟩ | ⟨g, cap, more, rfl, _⟩
  · exact ⟨none, 0, by rw [h0]⟩
  · exact ⟨_, cap, rfl⟩

theorem StoreAt.keep {S : Nat → Prop} {w w' : World} {U : Nat} {vs cs ms : Value} {cv : List Value} {st : US} (h : StoreAt w U vs cs ms cv st) (k : Fr S w w') (h1 : ¬ S U) (h2 : ∀ g, vs.ownBlock = some g → ¬ S g) (h3 : ∀ g, cs.ownBlock = some g → ¬ S g) (h4 : ∀ g, ms.ownBlock = some g → ¬ S g) (h5 : ∀ v ∈ cv, ∀ g, v.ownBlock = some g → ¬ S g) : StoreAt w' U vs cs ms cv st where
  hU := h.hU.keep k h1
  hv := k.owns h.hv h2
  hc := k.owns h.hc h3
  hm := k.owns h.hm h4
  hl := h.hl
  hr := fun i hi => by
    obtain ⟨xs, e, ho, hb⟩ := h.hr i hi
    exact ⟨xs, e, k.owns ho (h5 _ (by rw [List.getD_eq_getElem?_getD, List.getElem?_eq_getElem hi]; exact List.getElem_mem hi)), hb⟩
  hn := h.hn
  hk := h.hk
  hmn := h.hmn
  hd := h.hd
theorem cv_lt {w : World} {U : Nat} {vs cs ms : Value} {cv : List Value} {st : US} (h : StoreAt w U vs cs ms cv st) {v : Value} (hv : v ∈ cv) {g : Nat} (e : v.ownBlock = some g) : g < w.heap.size := by
  obtain ⟨i, hi, rfl⟩ := List.getElem_of_mem hv
  obtain ⟨xs, _, ho, _⟩ := h.hr i hi
  rw [List.getD_eq_getElem?_getD, List.getElem?_eq_getElem hi] at ho
  exact (owns_lt ho e).2
theorem StoreN.stay {N S : Nat → Prop} {w w' : World} {U : Nat} {st : US} (h : StoreN N w U st) (k : Fr S w w') (hS : ∀ b, b < w.heap.size → ¬ N b → ¬ S b) : StoreN N w' U st := by
  obtain ⟨vs, cs, ms, cv, h1, b1, b2, b3, b4, b5⟩ := h
  exact ⟨vs, cs, ms, cv, h1.keep k (hS _ h1.hU.lt b1) (fun g e => hS _ (owns_lt h1.hv e).2 (b2 g e)) (fun g e => hS _ (owns_lt h1.hc e).2 (b3 g e)) (fun g e => hS _ (owns_lt h1.hm e).2 (b4 g e)) (fun v hv g e => hS _ (cv_lt h1 hv e) (b5 v hv g e)), b1, b2, b3, b4, b5⟩
theorem StoreN.mono {N M : Nat → Prop} {w : World} {U : Nat} {st : US} (h : StoreN N w U st) (hM : ∀ b, b < w.heap.size → M b → N b) : StoreN M w U st := by
  obtain ⟨vs, cs, ms, cv, h1, b1, b2, b3, b4, b5⟩ := h
  exact ⟨vs, cs, ms, cv, h1, fun e => b1 (hM _ h1.hU.lt e), fun g e k => b2 g e (hM _ (owns_lt h1.hv e).2 k), fun g e k => b3 g e (hM _ (owns_lt h1.hc e).2 k), fun g e k => b4 g e (hM _ (owns_lt h1.hm e).2 k), fun v hv g e k => b5 v hv g e (hM _ (cv_lt h1 hv e) k)⟩

section
variable {w : World} {U : Nat} {vs cs ms : Value} {cv : List Value} {st : US}

set_option maxHeartbeats 400000 in
theorem uis_ok (h : StoreAt w U vs cs ms cv st) : Calls Try.prog 36 #[.pointer (some ⟨U, 0, none⟩)] w fun e w' => e = .returned (.bool true) ∧ w = w' := by
  have c0 : w.cell? ⟨U, 0, none⟩ = some (.bool true) := h.hU.cell rfl
  clear h
  go_enter Try.func36, Try.ntmps36
  go_wp2
  go_ret
  exact ⟨rfl, rfl⟩

set_option maxHeartbeats 400000 in
theorem uatoms_ok (h : StoreAt w U vs cs ms cv st) : Calls Try.prog 19 #[.pointer (some ⟨U, 0, none⟩)] w fun e w' => e = .returned (.int .i64 (st.n : Int)) ∧ w = w' := by
  have hi := uis_ok h
  obtain ⟨ao, cap, ef⟩ := owns_form h.hv
  have c1 : w.cell? ⟨U, 1, none⟩ = some (.slice ao (st.n + 1) cap) := by rw [← ef]; exact h.hU.cell rfl
  have hn := h.hn
  obtain ⟨n, en⟩ : ∃ n, n = st.n := ⟨_, rfl⟩
  rw [← en] at c1 hn ⊢
  clear h ef en
  go_enter Try.func19, Try.ntmps19
  go_wp2_with (go_at_call 36; ((with_reducible refine hi.mono ?_); rintro e w' ⟨rfl, rfl⟩))
  go_ret
  exact ⟨by simp, rfl⟩

/-- Is a number a literal of so many atoms? -/
def isLit (n : Nat) (l : Int) : Bool := l != 0 && decide (l ≤ n) && decide (-(n : Int) ≤ l)

set_option maxHeartbeats 800000 in
theorem uliteral_ok (h : StoreAt w U vs cs ms cv st) (l : Int) : Calls Try.prog 48 #[.pointer (some ⟨U, 0, none⟩), .int .i64 l] w fun e w' => e = .returned (.bool (isLit st.n l)) ∧ w = w' := by
  have ha := uatoms_ok h
  have hn := h.hn
  obtain ⟨n, en⟩ : ∃ n, n = st.n := ⟨_, rfl⟩
  rw [← en] at ha hn ⊢
  clear h en
  obtain ⟨r, er⟩ : ∃ r, r = isLit n l := ⟨_, rfl⟩
  rw [← er]
  by_cases h0 : l = 0
  · have b0 : (l != 0) = false := by simp [h0]
    have e1 : r = false := by rw [er]; simp [isLit, h0]
    rw [e1]
    clear h0 er e1
    go_enter Try.func48, Try.ntmps48
    go_wp2_with (go_at_call 19; ((with_reducible refine ha.mono ?_); rintro e w' ⟨rfl, rfl⟩))
    go_ret
    exact ⟨rfl, rfl⟩
  · have b0 : (l != 0) = true := by simp [h0]
    by_cases h1 : l ≤ (n : Int)
    · have b1 : decide (l ≤ (n : Int)) = true := by simpa using h1
      by_cases h2 : -(n : Int) ≤ l
      · have b2 : decide (-(n : Int) ≤ l) = true := by simpa using h2
        have e1 : r = true := by rw [er]; simp [isLit, h0, h1, h2]
        rw [e1]
        clear h0 h1 h2 er e1
        go_enter Try.func48, Try.ntmps48
        go_wp2_with (go_at_call 19; ((with_reducible refine ha.mono ?_); rintro e w' ⟨rfl, rfl⟩))
        go_ret
        exact ⟨rfl, rfl⟩
      · have b2 : decide (-(n : Int) ≤ l) = false := by simpa using h2
        have e1 : r = false := by rw [er]; simp [isLit, b2]
        rw [e1]
        clear h0 h1 h2 er e1
        go_enter Try.func48, Try.ntmps48
        go_wp2_with (go_at_call 19; ((with_reducible refine ha.mono ?_); rintro e w' ⟨rfl, rfl⟩))
        go_ret
        exact ⟨rfl, rfl⟩
    · have b1 : decide (l ≤ (n : Int)) = false := by simpa using h1
      have e1 : r = false := by rw [er]; simp [isLit, b1]
      rw [e1]
      clear h0 h1 er e1
      go_enter Try.func48, Try.ntmps48
      go_wp2_with (go_at_call 19; ((with_reducible refine ha.mono ?_); rintro e w' ⟨rfl, rfl⟩))
      go_ret
      exact ⟨rfl, rfl⟩

set_option maxHeartbeats 400000 in
theorem ubad_ok (h : StoreAt w U vs cs ms cv st) {b : Nat} (hb : w.cell? ⟨b, 0, none⟩ = some (.pointer (some ⟨U, 0, none⟩))) (l : Int) :
    Calls Try.prog 47 #[.int .i64 l, .pointer (some ⟨b, 0, none⟩)] w fun e w' => e = .returned (.bool (!isLit st.n l)) ∧ w = w' := by
  have hi := uliteral_ok h l
  clear h
  go_enter Try.func47, Try.ntmps47
  go_wp2_with (go_at_call 48; ((with_reducible refine hi.mono ?_); rintro e w' ⟨rfl, rfl⟩))
  go_ret
  exact ⟨rfl, rfl⟩
end
end Go.Proofs.Ytgdnehejeoiicaa
