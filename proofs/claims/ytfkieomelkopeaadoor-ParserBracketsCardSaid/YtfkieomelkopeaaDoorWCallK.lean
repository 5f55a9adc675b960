/-
  What a call's loop over its arguments keeps: the call's box, the node in the making, the iterator, the kids' row.
-/
import Derived.Test.YtfkieomelkopeaaDoorWCalls
import Derived.Lib.OthersKept
namespace Go.Proofs.YtfkieomelkopeaaDoor
open Go.RowKit
theorem PS.drew {w : World} {b g E deep : Nat} {toks : List Tok} {tree : List Node} {row : Option Nat} (h : PS w b g E deep toks tree row) : PS w.drew b g E deep toks tree row := h.same (Below.refl _ w).drew
theorem tokAt_congr {w w' : World} {g : Nat} (hg : w'.heap[g]? = w.heap[g]?) : ∀ {toks : List Tok} {off : Nat}, TokAt w g off toks → TokAt w' g off toks
  | [], _, _ => trivial
  | t :: r, off, ⟨h1, h2, h3, h4, h5, h6⟩ => by
    have k : ∀ o, w'.cell? ⟨g, o, none⟩ = w.cell? ⟨g, o, none⟩ := fun o => World.cell?_of_block (a := ⟨g, o, none⟩) hg
    exact ⟨by rw [k]; exact h1, by rw [k]; exact h2, by rw [k]; exact h3, by rw [k]; exact h4, by rw [k]; exact h5, tokAt_congr hg h6⟩
theorem ownsRow_congr {w w' : World} {base : Nat} {e : TypeId} {size : Nat} {v : Value} {n : Nat} {xs : List Value} (h : w.ownsRow base e size v n xs) (hk : ∀ k, v.ownBlock = some k → w'.heap[k]? = w.heap[k]?) : w'.ownsRow base e size v n xs := by
  obtain ⟨h1, h2⟩ := h
  refine ⟨h1, ?_⟩
  rcases h2 with h2 | ⟨g, cap, cur, hv, hg, hh, r⟩
  · exact .inl h2
  · exact .inr ⟨g, cap, cur, hv, hg, by rw [hk g (by rw [hv]; rfl)]; exact hh, r⟩
/-- What leaves the parser's three blocks as they are keeps it. -/
theorem PS.congr {w w' : World} {b g E deep : Nat} {toks : List Tok} {tree : List Node} {row : Option Nat} (h : PS w b g E deep toks tree row) (hb : ∀ k, k ≤ b → w'.heap[k]? = w.heap[k]?) (hr : ∀ k, row = some k → w'.heap[k]? = w.heap[k]?) : PS w' b g E deep toks tree row := by
  obtain ⟨lv, tv, h1, h2, h3, h4, h5⟩ := h
  refine ⟨lv, tv, (hb b (Nat.le_refl _)).trans h1, ?_, ownsRow_congr h3 (fun k hk => hr k (h4.symm.trans hk)), h4, h5⟩
  rcases h2 with h | ⟨h1, off, cap, h2, h3, h4, h5'⟩
  · exact .inl h
  · exact .inr ⟨h1, off, cap, h2, h3, h4, tokAt_congr (hb g (Nat.le_of_lt h5)) h5'⟩
/-- The blocks that the loop over a call's arguments keeps. 's': the heap's size when the call began. -/
structure CK (w : World) (b : Nat) (row : Option Nat) (ki : Nat) (o : Nat) (args : List UInt8) (most : Int) (pl : Nat) (wr : World) (kv : Value) (i : Nat) (ks : List Nat) (nm : List UInt8) (kk : Int) (row' : Option Nat) : Prop where
  k0 : wr.heap[w.heap.size]? = some (.cells #[.int .u8 o, .string (bs args), .int .i64 most] 61 (0, 0))
  k1 : wr.heap[w.heap.size + 1]? = some (.cells #[.int .u8 o, .int .i64 0, .int .i64 0, .string (bs nm), .int .i64 kk, .int .i64 0, .int .i64 0, .int .i64 0, .int .i64 pl] 34 (0, 0))
  it : wr.heap[ki]? = some (.stringIter (bs args) i)
  own : wr.ownsRow (ki + 1) 3 1 kv ks.length (ks.map fun n => Value.int .i64 ((n : Nat) : Int))
  apart : ∀ k, kv.ownBlock = some k → row' ≠ some k
  new : row' = row ∨ ∃ k, row' = some k ∧ ki + 1 ≤ k
  turn : Turn b row w wr
  lt : w.heap.size + 2 ≤ ki
  blt : b < w.heap.size
  rlt : ∀ k, row = some k → b < k ∧ k < w.heap.size
theorem CK.size {w : World} {b : Nat} {row : Option Nat} {ki o : Nat} {args : List UInt8} {most : Int} {pl : Nat} {wr : World} {kv : Value} {i : Nat} {ks : List Nat} {nm : List UInt8} {kk : Int} {row' : Option Nat} (h : CK w b row ki o args most pl wr kv i ks nm kk row') : ki < wr.heap.size := lt_of_block h.it
theorem CK.rowne {w : World} {b : Nat} {row : Option Nat} {ki o : Nat} {args : List UInt8} {most : Int} {pl : Nat} {wr : World} {kv : Value} {i : Nat} {ks : List Nat} {nm : List UInt8} {kk : Int} {row' : Option Nat} (h : CK w b row ki o args most pl wr kv i ks nm kk row') (k : Nat) (h1 : w.heap.size ≤ k) (h2 : k ≤ ki) : some k ≠ row' := fun e => by
  rcases h.new with h3 | ⟨m, h3, h4⟩
  · have := (h.rlt k (h3 ▸ e.symm)).2; omega
  · rw [h3] at e; cases e; omega
/-- A parsing call keeps them. -/
theorem CK.keep {w : World} {b : Nat} {row : Option Nat} {ki o : Nat} {args : List UInt8} {most : Int} {pl : Nat} {wr w1 : World} {kv : Value} {i : Nat} {ks : List Nat} {nm : List UInt8} {kk : Int} {row' row1 : Option Nat} (h : CK w b row ki o args most pl wr kv i ks nm kk row') (ht : Turn b row' wr w1) (hn : NewRow wr row' row1) :
    CK w b row ki o args most pl w1 kv i ks nm kk row1 := by
  have hs := h.size
  have hl := h.lt
  have hb := h.blt
  have same : ∀ k, w.heap.size ≤ k → k ≤ ki → w1.heap[k]? = wr.heap[k]? := fun k h1 h2 => ht.block k (by omega) (by omega) (h.rowne k h1 h2)
  refine ⟨(same _ (Nat.le_refl _) (by omega)).trans h.k0, (same _ (by omega) (by omega)).trans h.k1, (same _ (by omega) (Nat.le_refl _)).trans h.it, ownsRow_congr h.own (fun k hk => ?_), fun k hk => ?_, ?_, ?_, hl, hb, h.rlt⟩
  · have := h.own.lt k hk
    exact ht.block k this.2 (by omega) (Ne.symm (h.apart k hk))
  · have := h.own.lt k hk
    rcases hn with rfl | ⟨m, rfl, hm⟩
    · exact h.apart k hk
    · intro e; cases e; omega
  · rcases hn with rfl | ⟨m, rfl, hm⟩
    · exact h.new
    · exact .inr ⟨m, rfl, by omega⟩
  · have hnr : NewRow w row row' := by
      rcases h.new with h | ⟨k, h, h2⟩
      · exact .inl h
      · exact .inr ⟨k, h, by omega⟩
    exact h.turn.trans hnr ht
theorem CK.newrow {w : World} {b : Nat} {row : Option Nat} {ki o : Nat} {args : List UInt8} {most : Int} {pl : Nat} {wr : World} {kv : Value} {i : Nat} {ks : List Nat} {nm : List UInt8} {kk : Int} {row' : Option Nat} (h : CK w b row ki o args most pl wr kv i ks nm kk row') : NewRow w row row' := by
  have := h.lt
  rcases h.new with h | ⟨k, h, h2⟩
  · exact .inl h
  · exact .inr ⟨k, h, by omega⟩
/-- The iterator goes on. -/
theorem CK.next {w : World} {b : Nat} {row : Option Nat} {ki o : Nat} {args : List UInt8} {most : Int} {pl : Nat} {wr : World} {kv : Value} {i : Nat} {ks : List Nat} {nm : List UInt8} {kk : Int} {row' : Option Nat} (h : CK w b row ki o args most pl wr kv i ks nm kk row') (j : Nat) :
    CK w b row ki o args most pl (wr.iterAt ki (bs args) j) kv j ks nm kk row' := by
  have hl := h.lt
  have hb := h.blt
  have same : ∀ k, k ≠ ki → (wr.iterAt ki (bs args) j).heap[k]? = wr.heap[k]? := fun k hk => Lib.iterAt_other _ _ _ _ _ hk
  refine ⟨(same _ (by omega)).trans h.k0, (same _ (by omega)).trans h.k1, Lib.iterAt_heap wr ki (bs args) i j h.it, ownsRow_congr h.own (fun k hk => same k (by have := h.own.lt k hk; omega)), h.apart, h.new, ?_, hl, hb, h.rlt⟩
  have hbl := Lib.below_iterAt (Below.refl ki wr) (k := ki) (Nat.le_refl _) (bs args) j
  exact ⟨hbl.os.trans h.turn.os, hbl.tape.trans h.turn.tape, hbl.output.trans h.turn.output, Nat.le_trans h.turn.size hbl.size, fun k hk h1 h2 => (same k (by omega)).trans (h.turn.block k hk h1 h2)⟩
theorem PS.next {w : World} {b g E deep : Nat} {toks : List Tok} {tree : List Node} {row : Option Nat} (h : PS w b g E deep toks tree row) {ki : Nat} (hk : b < ki) (hr : some ki ≠ row) (s : ByteArray) (j : Nat) : PS (w.iterAt ki s j) b g E deep toks tree row :=
  h.congr (fun k hk' => Lib.iterAt_other _ _ _ _ _ (by omega)) (fun k hk' => Lib.iterAt_other _ _ _ _ _ (fun e => hr (by rw [hk', e])))
/-- A cell of the node in the making written. -/
theorem CK.write {w : World} {b : Nat} {row : Option Nat} {ki o : Nat} {args : List UInt8} {most : Int} {pl : Nat} {wr : World} {kv : Value} {i : Nat} {ks : List Nat} {nm nm' : List UInt8} {kk kk' : Int} {row' : Option Nat} (h : CK w b row ki o args most pl wr kv i ks nm kk row') (c : Nat) (v : Value)
    (hC : (#[.int .u8 o, .int .i64 0, .int .i64 0, .string (bs nm), .int .i64 kk, .int .i64 0, .int .i64 0, .int .i64 0, .int .i64 pl] : Array Value).setIfInBounds c v = #[.int .u8 o, .int .i64 0, .int .i64 0, .string (bs nm'), .int .i64 kk', .int .i64 0, .int .i64 0, .int .i64 0, .int .i64 pl]) :
    CK w b row ki o args most pl (wr.setCell ⟨w.heap.size + 1, c, none⟩ v) kv i ks nm' kk' row' := by
  have hl := h.lt
  have same : ∀ k, k ≠ w.heap.size + 1 → (wr.setCell ⟨w.heap.size + 1, c, none⟩ v).heap[k]? = wr.heap[k]? := fun k hk => Below.heap_setCell _ _ _ _ hk
  refine ⟨(same _ (by omega)).trans h.k0, by rw [heap_setCell_eq, h.k1]; simp only [Option.map_some, objSet]; rw [hC], (same _ (by omega)).trans h.it, ownsRow_congr h.own (fun k hk => same k (by have := h.own.lt k hk; omega)), h.apart, h.new, ?_, hl, h.blt, h.rlt⟩
  exact ⟨h.turn.os, h.turn.tape, h.turn.output, by rw [size_setCell]; exact h.turn.size, fun k hk h1 h2 => (same k (by omega)).trans (h.turn.block k hk h1 h2)⟩
theorem PS.setFar {w : World} {b g E deep : Nat} {toks : List Tok} {tree : List Node} {row : Option Nat} (h : PS w b g E deep toks tree row) {k : Nat} (hk : b < k) (hr : some k ≠ row) (c : Nat) (v : Value) : PS (w.setCell ⟨k, c, none⟩ v) b g E deep toks tree row :=
  h.congr (fun m hm => Below.heap_setCell _ _ _ _ (by show m ≠ k; omega)) (fun m hm => Below.heap_setCell _ _ _ _ (fun e => hr (by rw [hm, show m = k from e])))
/-- The kids' row behind an append; 'Z': the one block that was made for it. -/
theorem CK.kids {w : World} {b : Nat} {row : Option Nat} {ki o : Nat} {args : List UInt8} {most : Int} {pl : Nat} {wr w1 : World} {kv kv' : Value} {i : Nat} {ks : List Nat} {nm : List UInt8} {kk : Int} {row' : Option Nat} {a : Nat} (h : CK w b row ki o args most pl wr kv i ks nm kk row') (Z : Obj)
    (hrw : ∀ k, row' = some k → k < wr.heap.size) (hg : (wr.alloc Z).grownBy w1 kv.ownBlock) (hown : w1.ownsRow (ki + 1) 3 1 kv' (ks ++ [a]).length ((ks ++ [a]).map fun n => Value.int .i64 ((n : Nat) : Int))) (hat : kv'.ownBlock = kv.ownBlock ∨ kv'.ownBlock = some (wr.heap.size + 1)) :
    CK w b row ki o args most pl w1 kv' i (ks ++ [a]) nm kk row' ∧ ∀ k, k < wr.heap.size → kv.ownBlock ≠ some k → w1.heap[k]? = wr.heap[k]? := by
  have hs := h.size
  have hl := h.lt
  have same : ∀ k, k < wr.heap.size → kv.ownBlock ≠ some k → w1.heap[k]? = wr.heap[k]? := fun k h1 h2 => by
    rw [hg.block k (by simp; omega) (Ne.symm h2), Below.heap_alloc _ _ _ h1]
  have low : ∀ k, k ≤ ki → kv.ownBlock ≠ some k := fun k hk e => by have := h.own.lt k e; omega
  refine ⟨⟨(same _ (by omega) (low _ (by omega))).trans h.k0, (same _ (by omega) (low _ (by omega))).trans h.k1, (same _ hs (low _ (Nat.le_refl _))).trans h.it, hown, fun k hk => ?_, h.new, ?_, hl, h.blt, h.rlt⟩, same⟩
  · rcases hat with e | e
    · exact h.apart k (e ▸ hk)
    · rw [e] at hk; cases hk; intro e2; have := hrw _ e2; omega
  · have := hg.size
    exact ⟨hg.os.trans h.turn.os, hg.tape.trans h.turn.tape, hg.output.trans h.turn.output, by have := h.turn.size; simp at *; omega, fun k hk h1 h2 => (same k (by have := h.turn.size; omega) (low k (by omega))).trans (h.turn.block k hk h1 h2)⟩
end Go.Proofs.YtfkieomelkopeaaDoor
