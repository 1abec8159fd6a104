/- What the heap holds of an arena; small lemmas. -/
import Derived.WalkKit
import Derived.WalkSpells
import Derived.WalkLawsBesides
import Derived.Lib.Hide
import Derived.RangeFuncBox
namespace Go.Proofs.Ytifhimdhmlmgkaa
open Go.RowKit

/-- The i-th word. -/
def rd (ws : List Int) (i : Nat) : Int := ws[i]?.getD 0

/-- What is kept: each block but those of S. -/
structure Ar (w : World) (A B : Nat) (ws : List Int) : Prop where
  ha : w.cell? ⟨A, 0, none⟩ = some (.slice (some ⟨B, 0, none⟩) ws.length ws.length)
  hb : w.heap[B]? = some (.cells (ws.map (Value.int .u32)).toArray 23 (0, 0))
  ne : A ≠ B
  rng : ∀ x ∈ ws, 0 ≤ x ∧ x < 4294967296
  lo : 64 ≤ ws.length
  hi : ws.length ≤ 16384

theorem rd_rng {ws : List Int} (h : ∀ x ∈ ws, 0 ≤ x ∧ x < 4294967296) (i : Nat) : 0 ≤ rd ws i ∧ rd ws i < 4294967296 := by
  unfold rd
  rcases e : ws[i]? with _ | x
  · simp
  · simpa using h x (List.mem_of_getElem? e)

theorem Ar.cell {w : World} {A B : Nat} {ws : List Int} (h : Ar w A B ws) {i : Nat} (hi : i < ws.length) : w.cell? ⟨B, i, none⟩ = some (.int .u32 (rd ws i)) := by
  simp [World.cell?, h.hb, rd, hi]
theorem Ar.free {w : World} {A B : Nat} {ws : List Int} (h : Ar w A B ws) (i : Nat) : w.frozen? ⟨B, i, none⟩ = false := by
  simp [World.frozen?, h.hb]
theorem cell_lt {w : World} {a : Addr} {v : Value} (h : w.cell? a = some v) : a.block < w.heap.size := by
  unfold World.cell? at h
  by_cases hb : a.block < w.heap.size
  · exact hb
  · simp [Array.getElem?_eq_none (Nat.le_of_not_lt hb)] at h
theorem Ar.ltA {w : World} {A B : Nat} {ws : List Int} (h : Ar w A B ws) : A < w.heap.size := cell_lt h.ha
theorem Ar.ltB {w : World} {A B : Nat} {ws : List Int} (h : Ar w A B ws) : B < w.heap.size := by
  have := h.hb
  by_cases hb : B < w.heap.size
  · exact hb
  · simp [Array.getElem?_eq_none (Nat.le_of_not_lt hb)] at this
theorem Ar.below {w w' : World} {A B n : Nat} {ws : List Int} (h : Ar w A B ws) (k : Below n w w') (ha : A < n) (hb : B < n) : Ar w' A B ws :=
  ⟨(k.cell (p := ⟨A, 0, none⟩) ha).trans h.ha, (k.block B hb).trans h.hb, h.ne, h.rng, h.lo, h.hi⟩
theorem Ar.next {w w' : World} {A B : Nat} {ws : List Int} (h : Ar w A B ws) (k : Below w.heap.size w w') : Ar w' A B ws := h.below k h.ltA h.ltB
theorem Ar.drewN {w : World} {A B : Nat} {ws : List Int} (h : Ar w A B ws) (n : Nat) : Ar (w.drewN n) A B ws := ⟨h.ha, h.hb, h.ne, h.rng, h.lo, h.hi⟩

theorem heap_setCell_same {w : World} {B i : Nat} {cs : Array Value} {t : TypeId} {fz : Nat × Nat} (h : w.heap[B]? = some (.cells cs t fz)) (v : Value) :
    (w.setCell ⟨B, i, none⟩ v).heap[B]? = some (.cells (cs.setIfInBounds i v) t fz) := by
  obtain ⟨lo, hi⟩ := fz
  simp [World.setCell, Array.getElem?_modify, h]

theorem Ar.set {w : World} {A B : Nat} {ws : List Int} (h : Ar w A B ws) (i : Nat) {x : Int} (h0 : 0 ≤ x) (h1 : x < 4294967296) : Ar (w.setCell ⟨B, i, none⟩ (.int .u32 x)) A B (ws.set i x) := by
  refine ⟨?_, ?_, h.ne, ?_, by simpa using h.lo, by simpa using h.hi⟩
  · have := World.cell?_of_block (a := ⟨A, 0, none⟩) (w := w) (Below.heap_setCell w ⟨B, i, none⟩ (.int .u32 x) A h.ne)
    rw [this, h.ha]; simp
  · rw [heap_setCell_same h.hb]
    simp [List.map_set]
  · intro y hy
    rcases List.mem_or_eq_of_mem_set hy with hy | rfl
    · exact h.rng y hy
    · exact ⟨h0, h1⟩
/-- Block B is just these cells. -/
def At (W : World) (B : Nat) (t : TypeId) (cs : Array Value) : Prop := W.heap[B]? = some (.cells cs t (0, 0))
theorem At.lt {W : World} {B : Nat} {t : TypeId} {cs : Array Value} (h : At W B t cs) : B < W.heap.size := (Array.getElem?_eq_some_iff.1 h).1
theorem At.cell {W : World} {B : Nat} {t : TypeId} {cs : Array Value} (h : At W B t cs) (i : Nat) : W.cell? ⟨B, i, none⟩ = cs[i]? := by simp [World.cell?, show W.heap[B]? = _ from h]
theorem At.frozen {W : World} {B : Nat} {t : TypeId} {cs : Array Value} (h : At W B t cs) (i : Nat) : W.frozen? ⟨B, i, none⟩ = false := by simp [World.frozen?, show W.heap[B]? = _ from h]
theorem At.new (W : World) (t : TypeId) (cs : Array Value) : At (W.alloc (.cells cs t)) W.heap.size t cs := World.alloc_heap_new W _
theorem At.kept {W W' : World} {row : Option Nat} {B : Nat} {t : TypeId} {cs : Array Value} (h : At W B t cs) (hg : W.grownBy W' row) (hne : some B ≠ row) : At W' B t cs := (hg.block B h.lt hne).trans h
theorem At.alloc {W : World} {B : Nat} {t : TypeId} {cs : Array Value} (h : At W B t cs) (o : Obj) : At (W.alloc o) B t cs := h.kept (World.grownBy_alloc W o none) (by simp)
theorem At.below {W W' : World} {n B : Nat} {t : TypeId} {cs : Array Value} (h : At W B t cs) (hb : Below n W W') (hn : B < n) : At W' B t cs := (hb.block B hn).trans h
theorem At.set {W : World} {B : Nat} {t : TypeId} {cs : Array Value} (h : At W B t cs) (i : Nat) (v : Value) : At (W.setCell ⟨B, i, none⟩ v) B t (cs.setIfInBounds i v) := heap_setCell_same h v
theorem At.other {W : World} {B : Nat} {t : TypeId} {cs : Array Value} (h : At W B t cs) {a : Addr} (hne : B ≠ a.block) (u : Value) : At (W.setCell a u) B t cs := (Below.heap_setCell W a u B hne).trans h
theorem At.drewN {W : World} {B : Nat} {t : TypeId} {cs : Array Value} (h : At W B t cs) (n : Nat) : At (W.drewN n) B t cs := h

/-- These blocks are as they were. -/
def Keeps (S : List Nat) (W W' : World) : Prop := ∀ b, b ∈ S → W'.heap[b]? = W.heap[b]?
theorem Keeps.refl (S : List Nat) (W : World) : Keeps S W W := fun _ _ => rfl
theorem Keeps.t {S : List Nat} {A B C : World} (h : Keeps S A B) (k : Keeps S B C) : Keeps S A C := fun b hb => (k b hb).trans (h b hb)
theorem Keeps.b {S : List Nat} {n : Nat} (hS : ∀ b ∈ S, b < n) (W : World) (l : Nat) (o o' : Obj) (hl : n ≤ l) (_ : W.heap[l]? = some o) (_ : o.isCells = false) (_ : o.isWalk = false) : Keeps S W (W.putObj l o') := by
  intro b hb
  have := hS b hb
  show (W.heap.setIfInBounds l o')[b]? = _
  rw [Array.getElem?_setIfInBounds, if_neg (by omega)]
theorem Keeps.of_below {S : List Nat} {n : Nat} {W W' : World} (h : Below n W W') (hS : ∀ b ∈ S, b < n) : Keeps S W W' := fun b hb => h.block b (hS b hb)
theorem Keeps.setCell {S : List Nat} (W : World) (a : Addr) (v : Value) (h : ∀ b ∈ S, b ≠ a.block) : Keeps S W (W.setCell a v) := fun b hb => Below.heap_setCell W a v b (h b hb)
theorem Keeps.alloc {S : List Nat} (W : World) (o : Obj) (h : ∀ b ∈ S, b < W.heap.size) : Keeps S W (W.alloc o) := fun b hb => Below.heap_alloc W o b (h b hb)
theorem Keeps.grown {S : List Nat} {W W' : World} {row : Option Nat} (hg : W.grownBy W' row) (h : ∀ b ∈ S, b < W.heap.size ∧ some b ≠ row) : Keeps S W W' := fun b hb => hg.block b (h b hb).1 (h b hb).2
theorem At.keeps {S : List Nat} {W W' : World} {B : Nat} {t : TypeId} {cs : Array Value} (h : At W B t cs) (hk : Keeps S W W') (hB : B ∈ S) : At W' B t cs := (hk B hB).trans h
theorem Ar.keeps {S : List Nat} {W W' : World} {A B : Nat} {ws : List Int} (h : Ar W A B ws) (hk : Keeps S W W') (hA : A ∈ S) (hB : B ∈ S) : Ar W' A B ws :=
  ⟨(World.cell?_of_block (a := ⟨A, 0, none⟩) (w := W) (hk A hA)).trans h.ha, (hk B hB).trans h.hb, h.ne, h.rng, h.lo, h.hi⟩

end Go.Proofs.Ytifhimdhmlmgkaa
