/- The heap as state and as memory; put keeps it. -/
import Derived.Test.YtgdnehejeoiicaaHeapA
import Derived.Maps.AppendAt
namespace Go.Proofs.Ytgdnehejeoiicaa
open Go.RowKit

/-- A heap's state: the scores' words, the places, the row of variables, the step's word. -/
structure HS where
  fs : List Nat
  ps : List Int
  l : List Nat
  step : Nat

abbrev iv (n : Nat) : Value := .int .i64 n
def fvl (l : List Nat) : List Value := l.map (Value.float .f64)
def ivl (l : List Int) : List Value := l.map (Value.int .i64)
def nvl (l : List Nat) : List Value := l.map iv

/-- The cells of a Heap. -/
def hcells (H V bs bp n : Nat) (lv : Value) (step : Nat) : List Value :=
  [lv, .func (.func 64) #[.pointer (some ⟨H, 0, none⟩)] #[], .func (.func 65) #[] #[.pointer (some ⟨V, 0, none⟩)], .slice (some ⟨bs, 0, none⟩) n n, .slice (some ⟨bp, 0, none⟩) n n, .float .f64 step]

/-- A heap lies at block H, its variable at V, its scores at bs, its places at bp, its row is lv. -/
structure HeapAt (w : World) (H V bs bp : Nat) (lv : Value) (s : HS) : Prop where
  hH : Blk w H (hcells H V bs bp s.fs.length lv s.step) 108
  hV : Blk w V [.pointer (some ⟨H, 0, none⟩)] 59
  hs : Blk w bs (fvl s.fs) 106
  hp : Blk w bp (ivl s.ps) 3
  hl : w.ownsRow 0 3 1 lv s.l.length (nvl s.l)
  hlp : lv.ownBlock ≠ some bp
  hn : s.ps.length = s.fs.length
  hm : s.fs.length ≤ 1048576
  hv : ∀ v ∈ s.l, v < s.fs.length
  hL : s.l.length ≤ 1048576

/-- How far up. -/
def upL (ah : Nat → Nat → Bool) (x : Nat) (at_ : Nat) (l : List Nat) (ps : List Int) : List Nat × List Int :=
  if h : 0 < at_ then
    if ah x (l.getD ((at_ - 1) / 2) 0) then upL ah x ((at_ - 1) / 2) (l.set at_ (l.getD ((at_ - 1) / 2) 0)) (ps.set (l.getD ((at_ - 1) / 2) 0) (at_ : Int))
    else (l.set at_ x, ps.set x (at_ : Int))
  else (l.set at_ x, ps.set x (at_ : Int))
  termination_by at_

def ahs (fs : List Nat) (a b : Nat) : Bool := fahd (fs.getD a 0) (fs.getD b 0) a b

theorem HeapAt.row {w : World} {H V bs bp : Nat} {lv : Value} {s : HS} (h : HeapAt w H V bs bp lv s) (hn : 0 < s.l.length) :
    ∃ g cap more, lv = .slice (some ⟨g, 0, none⟩) s.l.length cap ∧ Blk w g (nvl s.l ++ more) 3 ∧ s.l.length ≤ cap ∧ g ≠ bp ∧ g ≠ H ∧ g ≠ V ∧ g ≠ bs ∧ cap ≤ maxLen ∧ (nvl s.l ++ more).length = cap := by
  rcases owns_blk h.hl with ⟨_, h0, _⟩ | ⟨g, cap, more, rfl, _, hb, h1, h2, h3⟩
  · omega
  · refine ⟨g, cap, more, rfl, hb, h1, fun e => h.hlp (by simp [Value.ownBlock, e]), ?_, ?_, ?_, h2, by simpa using h3⟩
    · exact hb.ne h.hH (by decide)
    · exact hb.ne h.hV (by decide)
    · exact hb.ne h.hs (by decide)

theorem nvl_set (l : List Nat) (i x : Nat) (more : List Value) (hi : i < l.length) : (nvl l ++ more).set i (iv x) = nvl (l.set i x) ++ more := by
  rw [List.set_append_left _ _ (by simpa [nvl] using hi)]
  simp [nvl, List.map_set]
theorem ivl_set (l : List Int) (i : Nat) (x : Int) : (ivl l).set i (.int .i64 x) = ivl (l.set i x) := by
  simp [ivl, List.map_set]

/-- What 'put' leaves. -/
theorem HeapAt.put {w : World} {H V bs bp : Nat} {lv : Value} {s : HS} (h : HeapAt w H V bs bp lv s) {g cap : Nat} {more : List Value} (e : lv = .slice (some ⟨g, 0, none⟩) s.l.length cap)
    (hb : Blk w g (nvl s.l ++ more) 3) (hc : s.l.length ≤ cap) (hg : g ≠ bp ∧ g ≠ H ∧ g ≠ V ∧ g ≠ bs) (hcm : cap ≤ maxLen) (hlen : (nvl s.l ++ more).length = cap) {v i : Nat} (hv : v < s.fs.length) (hi : i < s.l.length) :
    HeapAt ((w.setCell ⟨g, i, none⟩ (iv v)).setCell ⟨bp, v, none⟩ (.int .i64 i)) H V bs bp lv { s with l := s.l.set i v, ps := s.ps.set v (i : Int) } := by
  have hpH : bp ≠ H := h.hp.ne h.hH (by decide)
  have hpV : bp ≠ V := h.hp.ne h.hV (by decide)
  have hps : bp ≠ bs := h.hp.ne h.hs (by decide)
  have k1 := Fr.set w ⟨g, i, none⟩ (iv v)
  have k2 := Fr.set (w.setCell ⟨g, i, none⟩ (iv v)) ⟨bp, v, none⟩ (.int .i64 i)
  have b1 : Blk (w.setCell ⟨g, i, none⟩ (iv v)) g (nvl (s.l.set i v) ++ more) 3 := by rw [← nvl_set _ _ _ _ hi]; exact hb.set i _
  have b2 := b1.keep k2 (by simpa using hg.1)
  obtain ⟨g1, g2, g3, g4⟩ := hg
  constructor
  · exact (h.hH.keep k1 (fun e => g2 e.symm)).keep k2 (fun e => hpH e.symm)
  · exact (h.hV.keep k1 (fun e => g3 e.symm)).keep k2 (fun e => hpV e.symm)
  · exact (h.hs.keep k1 (fun e => g4 e.symm)).keep k2 (fun e => hps e.symm)
  · have b3 := (h.hp.keep k1 (fun e => g1 e.symm)).set v (.int .i64 i)
    rw [ivl_set] at b3
    exact b3
  · subst e
    show World.ownsRow _ _ _ _ (.slice (some ⟨g, 0, none⟩) s.l.length cap) (s.l.set i v).length _
    rw [List.length_set]
    exact blk_owns (Nat.zero_le _) b2 hc hcm (by rw [← nvl_set _ _ _ _ hi, List.length_set, Nat.mul_one]; exact hlen) (by simp [nvl])
  · exact h.hlp
  · simpa using h.hn
  · exact h.hm
  · intro u hu
    rcases List.mem_or_eq_of_mem_set hu with hu | rfl
    · exact h.hv u hu
    · exact hv
  · simpa using h.hL

set_option maxHeartbeats 400000 in
theorem put_heap {w : World} {H V bs bp : Nat} {lv : Value} {s : HS} (h : HeapAt w H V bs bp lv s) {v i : Nat} (hv : v < s.fs.length) (hi : i < s.l.length) :
    Calls Try.prog 67 #[.pointer (some ⟨H, 0, none⟩), .int .i64 v, .int .i64 i] w fun e w' => e = .returned (.tuple #[]) ∧
      HeapAt w' H V bs bp lv { s with l := s.l.set i v, ps := s.ps.set v (i : Int) } ∧ Fr (fun b => lv.ownBlock = some b ∨ b = bp) w w' := by
  obtain ⟨g, cap, more, e, hb, hc, g1, g2, g3, g4, hcm, hlen⟩ := h.row (by omega)
  have hpp := h.put e hb hc ⟨g1, g2, g3, g4⟩ hcm hlen hv hi
  have hm := h.hm
  have hL := h.hL
  have hn := h.hn
  refine (put_any V H g bp s.fs.length s.fs.length s.l.length cap v i w _ _ hv hm hi hL (h.hV.cell rfl) (h.hH.cell rfl) (h.hp.cell (i := v) (by rw [ivl, List.getElem?_map, List.getElem?_eq_getElem (by omega)]; rfl)) (h.hp.free _)
    (h.hH.cell (by rw [e]; rfl)) (h.hH.cell rfl) (hb.cell (i := i) (by rw [List.getElem?_append_left (by simpa [nvl] using hi), nvl, List.getElem?_map, List.getElem?_eq_getElem hi]; rfl)) (hb.free _) g3 g2 g1).mono ?_
  rintro e1 w1 ⟨rfl, rfl⟩
  refine ⟨rfl, hpp, ?_⟩
  subst e
  exact (Fr.set w _ _).trans (Fr.set _ _ _) (fun x _ hx => .inl (by simp [Value.ownBlock, hx])) (fun x _ hx => .inr hx)
end Go.Proofs.Ytgdnehejeoiicaa
