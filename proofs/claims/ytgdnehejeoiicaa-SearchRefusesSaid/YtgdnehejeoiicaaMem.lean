/- Blocks of cells in the model's memory, what a store, a new block and a draw do to them, and a frame: which blocks may have changed. -/
import Derived.Below
import Derived.Deep.Draws
import Derived.OneCell
import Derived.Laws.AppendOwn
import Derived.Laws.Rows
namespace Go.Proofs.Ytgdnehejeoiicaa
open Go.RowKit

/-- Block b holds these cells, none frozen. -/
def Blk (w : World) (b : Nat) (cs : List Value) (T : TypeId) : Prop := w.heap[b]? = some (.cells cs.toArray T (0, 0))

/-- Only the old blocks of S may have changed. -/
structure Fr (S : Nat → Prop) (w w' : World) : Prop where
  os : w'.os = w.os
  tape : w'.tape = w.tape
  output : w'.output = w.output
  size : w.heap.size ≤ w'.heap.size
  block : ∀ b, b < w.heap.size → ¬ S b → w'.heap[b]? = w.heap[b]?

theorem Blk.lt {w : World} {b : Nat} {cs : List Value} {T : TypeId} (h : Blk w b cs T) : b < w.heap.size := lt_of_block h
theorem Blk.cell {w : World} {b : Nat} {cs : List Value} {T : TypeId} (h : Blk w b cs T) {i : Nat} {v : Value} (hi : cs[i]? = some v) : w.cell? ⟨b, i, none⟩ = some v := by
  unfold Blk at h
  simp [World.cell?, h, hi]
theorem Blk.free {w : World} {b : Nat} {cs : List Value} {T : TypeId} (h : Blk w b cs T) (i : Nat) : w.frozen? ⟨b, i, none⟩ = false := by
  unfold Blk at h
  simp [World.frozen?, h]
theorem Blk.set {w : World} {b : Nat} {cs : List Value} {T : TypeId} (h : Blk w b cs T) (i : Nat) (v : Value) : Blk (w.setCell ⟨b, i, none⟩ v) b (cs.set i v) T := by
  have hlt := h.lt
  have h' : w.heap[b] = .cells cs.toArray T (0, 0) := by
    have := h; unfold Blk at this; simpa [Array.getElem?_eq_getElem hlt] using this
  show (w.heap.modify b _)[b]? = _
  rw [Array.getElem?_eq_getElem (by simpa using hlt), Array.getElem_modify_self, h']
  simp
theorem Blk.ne {w : World} {b b' : Nat} {cs cs' : List Value} {T T' : TypeId} (h : Blk w b cs T) (h' : Blk w b' cs' T') (hT : T ≠ T') : b ≠ b' := by
  intro e
  subst e
  unfold Blk at h h'
  rw [h] at h'
  simp at h'
  exact hT h'.2
theorem Blk.inj {w : World} {b : Nat} {cs cs' : List Value} {T T' : TypeId} (h : Blk w b cs T) (h' : Blk w b cs' T') : cs = cs' ∧ T = T' := by
  unfold Blk at h h'
  rw [h] at h'
  simpa using h'
theorem Blk.new (w : World) (cs : List Value) (T : TypeId) : Blk (w.alloc (.cells cs.toArray T)) w.heap.size cs T := by
  unfold Blk
  show (w.heap.push _)[w.heap.size]? = _
  simp
theorem Blk.new' {w : World} {cs : Array Value} {T : TypeId} {l : List Value} (h : cs.toList = l) : Blk (w.alloc (.cells cs T)) w.heap.size l T := by
  subst h
  simpa using Blk.new w cs.toList T

theorem Fr.refl (S : Nat → Prop) (w : World) : Fr S w w := ⟨rfl, rfl, rfl, Nat.le_refl _, fun _ _ _ => rfl⟩
theorem Fr.trans {S S1 S2 : Nat → Prop} {a b c : World} (h : Fr S1 a b) (k : Fr S2 b c) (h1 : ∀ x, x < a.heap.size → S1 x → S x) (h2 : ∀ x, x < a.heap.size → S2 x → S x) : Fr S a c :=
  ⟨k.os.trans h.os, k.tape.trans h.tape, k.output.trans h.output, Nat.le_trans h.size k.size, fun x hx hS =>
    (k.block x (Nat.lt_of_lt_of_le hx h.size) (fun e => hS (h2 x hx e))).trans (h.block x hx (fun e => hS (h1 x hx e)))⟩
theorem Fr.mono {S S' : Nat → Prop} {a b : World} (h : Fr S a b) (hS : ∀ x, x < a.heap.size → S x → S' x) : Fr S' a b :=
  ⟨h.os, h.tape, h.output, h.size, fun x hx hn => h.block x hx (fun e => hn (hS x hx e))⟩
theorem Fr.then {S : Nat → Prop} {a b c : World} (h : Fr S a b) {S2 : Nat → Prop} (k : Fr S2 b c) (h2 : ∀ x, x < a.heap.size → S2 x → S x) : Fr S a c := h.trans k (fun _ _ e => e) h2
theorem Fr.set (w : World) (a : Addr) (v : Value) : Fr (· = a.block) w (w.setCell a v) :=
  ⟨rfl, rfl, rfl, by simp [World.setCell], fun x _ hn => Below.heap_setCell w a v x hn⟩
theorem Fr.alloc (w : World) (o : Obj) : Fr (fun _ => False) w (w.alloc o) :=
  ⟨rfl, rfl, rfl, by simp, fun x hx _ => Below.heap_alloc w o x hx⟩
theorem Fr.drewN (w : World) (n : Nat) : Fr (fun _ => False) w (w.drewN n) := ⟨rfl, rfl, rfl, Nat.le_refl _, fun _ _ _ => rfl⟩
theorem Fr.drew (w : World) : Fr (fun _ => False) w w.drew := ⟨rfl, rfl, rfl, Nat.le_refl _, fun _ _ _ => rfl⟩
theorem Fr.of_below {w w' : World} (h : Below w.heap.size w w') : Fr (fun _ => False) w w' := ⟨h.os, h.tape, h.output, h.size, fun b hb _ => h.block b hb⟩
theorem Fr.of_grown {w w' : World} {row : Option Nat} (h : w.grownBy w' row) : Fr (fun b => some b = row) w w' :=
  ⟨h.os, h.tape, h.output, h.size, fun b hb hn => h.block b hb hn⟩
theorem Fr.below {S : Nat → Prop} {B : Nat} {w w' : World} (h : Fr S w w') (hB : B ≤ w.heap.size) (hS : ∀ x, S x → B ≤ x) : Below B w w' :=
  ⟨h.os, h.tape, h.output, h.size, fun k hk => h.block k (by omega) (fun e => by have := hS k e; omega)⟩
theorem Fr.none_below {w w' : World} (h : Fr (fun _ => False) w w') : Below w.heap.size w w' := h.below (Nat.le_refl _) (fun _ e => e.elim)
theorem Blk.keep {S : Nat → Prop} {w w' : World} {b : Nat} {cs : List Value} {T : TypeId} (h : Blk w b cs T) (k : Fr S w w') (hS : ¬ S b) : Blk w' b cs T := by
  unfold Blk at *
  rw [k.block b (lt_of_block h) hS]; exact h
theorem Fr.cell {S : Nat → Prop} {w w' : World} (k : Fr S w w') {p : Addr} {v : Value} (hp : ¬ S p.block) (h : w.cell? p = some v) : w'.cell? p = some v := by
  rw [World.cell?_of_block (w := w) (k.block p.block (World.block_lt_of_cell? w p h) hp)]; exact h
theorem Fr.owns {S : Nat → Prop} {w w' : World} (k : Fr S w w') {base : Nat} {e : TypeId} {size n : Nat} {v : Value} {xs : List Value} (h : w.ownsRow base e size v n xs) (hv : ∀ g, v.ownBlock = some g → ¬ S g) : w'.ownsRow base e size v n xs := by
  refine ⟨h.1, ?_⟩
  rcases h.2 with h2 | ⟨g, cap, cur, rfl, hg, hh, r⟩
  · exact .inl h2
  · exact .inr ⟨g, cap, cur, rfl, hg, by rw [k.block g (lt_of_block hh) (hv g rfl)]; exact hh, r⟩
/-- An owned row is nil or a block's head. -/
theorem owns_blk {w : World} {base : Nat} {e : TypeId} {size n : Nat} {v : Value} {xs : List Value} (h : w.ownsRow base e size v n xs) :
    (v = .slice none 0 0 ∧ n = 0 ∧ xs = []) ∨ ∃ g cap more, v = .slice (some ⟨g, 0, none⟩) n cap ∧ base ≤ g ∧ Blk w g (xs ++ more) e ∧ n ≤ cap ∧ cap ≤ maxLen ∧ (xs ++ more).length = cap * size := by
  obtain ⟨hl, h2⟩ := h
  rcases h2 with ⟨h1, h2⟩ | ⟨g, cap, cur, rfl, hg, hh, h1, h2, h3, h4⟩
  · subst h2
    exact .inl ⟨h1, rfl, by simpa using hl⟩
  · refine .inr ⟨g, cap, cur.toList.drop (n * size), rfl, hg, ?_, h1, h2, ?_⟩
    · unfold Blk
      rw [hh, ← h4, List.take_append_drop]
    · rw [← h4, List.take_append_drop]; simpa using h3
theorem blk_owns {w : World} {base : Nat} {e : TypeId} {size n g cap : Nat} {xs more : List Value} (hg : base ≤ g) (hb : Blk w g (xs ++ more) e) (hn : n ≤ cap) (hc : cap ≤ maxLen) (hs : (xs ++ more).length = cap * size) (hx : xs.length = n * size) :
    w.ownsRow base e size (.slice (some ⟨g, 0, none⟩) n cap) n xs :=
  ⟨hx, .inr ⟨g, cap, _, rfl, hg, hb, hn, hc, by simpa using hs, by simp [← hx]⟩⟩
end Go.Proofs.Ytgdnehejeoiicaa
