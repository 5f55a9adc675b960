/-
  calls: a call's op, arguments and bound out of its word: a map that is made and asked at once.
-/
import Derived.Test.YtfkieomelkopeaaDoorWField
namespace Go.Proofs.YtfkieomelkopeaaDoor
open Go.RowKit
/-- Pairs as a map's entries. -/
def mkEs : List (List UInt8 × Value) → Nat → List MapEntry
  | [], _ => []
  | (a, v) :: r, i => { key := .string (bs a), val := v, born := i } :: mkEs r (i + 1)
def lookE (l : List UInt8) : List (List UInt8 × Value) → Nat → Option (Nat × Value)
  | [], _ => none
  | (a, v) :: r, i => if l = a then some (i, v) else lookE l r (i + 1)
theorem bs_beq (l a : List UInt8) : (bs l == bs a) = decide (l = a) := by
  have : (bs l == bs a) = (l.toArray == a.toArray) := rfl
  rw [this, Bool.eq_iff_iff]
  simp
theorem findNow_mk (l : List UInt8) : ∀ (L : List (List UInt8 × Value)) (i j : Nat), Instr.findNow .string (.string (bs l)) (mkEs L j) i = some (lookE l L i)
  | [], _, _ => rfl
  | (a, v) :: r, i, j => by
    simp only [mkEs, Instr.findNow, Instr.sameNow, bs_beq, lookE]
    by_cases h : l = a
    · simp [h]
    · simp only [h, decide_false, if_false]; exact findNow_mk l r (i + 1) (j + 1)
theorem mkEs_snoc : ∀ (L : List (List UInt8 × Value)) (i : Nat) (a : List UInt8) (v : Value), mkEs (L ++ [(a, v)]) i = mkEs L i ++ [{ key := .string (bs a), val := v, born := i + L.length }]
  | [], i, a, v => by simp [mkEs]
  | (b, u) :: r, i, a, v => by simp only [List.cons_append, mkEs, mkEs_snoc r (i + 1) a v, List.length_cons]; rw [show i + 1 + r.length = i + (r.length + 1) by omega]
/-- A map of these pairs, as a block. -/
def mapObj (L : List (List UInt8 × Value)) : Obj := .map (mkEs L 0).toArray L.length
theorem alloc_setObj (W : World) (o o' : Obj) : ({ (W.alloc o) with heap := (W.alloc o).heap.setIfInBounds W.heap.size o' } : World) = W.alloc o' := by
  have h : (W.heap.push o).setIfInBounds W.heap.size o' = W.heap.push o' := by
    apply Array.ext_getElem?
    intro i
    rw [Array.getElem?_setIfInBounds, Array.getElem?_push, Array.getElem?_push]
    by_cases h : W.heap.size = i
    · subst h; simp
    · have h' : ¬ i = W.heap.size := fun e => h e.symm
      simp [h, h']
  show World.mk ((W.heap.push o).setIfInBounds W.heap.size o') _ _ _ _ = World.mk (W.heap.push o') _ _ _ _
  rw [h]
  rfl
theorem run_update_new {P : Program} {mty kt et : TypeId} (hm : P.underlying mty = some (.map kt et)) (hk : P.underlying kt = some .string) (W : World) (H : Nat) (hH : W.heap.size = H) (L : List (List UInt8 × Value)) (a : List UInt8) (v : Value) (hn : lookE a L 0 = none) :
    (Instr.mapUpdate mty (.map (some H)) (.string (bs a)) v).run P (W.alloc (mapObj L)) = .ok () (W.alloc (mapObj (L ++ [(a, v)]))) := by
  subst hH
  have hb : (W.alloc (mapObj L)).heap[W.heap.size]? = some (.map (mkEs L 0).toArray L.length) := heap_alloc_new W _
  have hf : Instr.findNow .string (.string (bs a)) (mkEs L 0).toArray.toList 0 = some none := by rw [List.toList_toArray, findNow_mk, hn]
  have hc : ∀ w, (Instr.checkKey false 10000 kt (.string (bs a))).run P w = .ok () w := fun w => MapKept.run_checkKey (k := .string (bs a)) hk (by simp [MapKept.IsKey]) false 9999
  have hl : (mapObj (L ++ [(a, v)])) = .map ((mkEs L 0).toArray.push { key := .string (bs a), val := v, born := L.length }) (L.length + 1) := by simp [mapObj, mkEs_snoc]
  simp [Instr.mapUpdate, run_underlying hm, MapKept.run_getObj_map hb, hc, MapKept.run_findKey hk hf, MapKept.run_setObj_map _ hb, Result.andThen, hl]
  exact alloc_setObj _ _ _
theorem run_look {P : Program} {mty kt et : TypeId} (hm : P.underlying mty = some (.map kt et)) (hk : P.underlying kt = some .string) (W : World) (r : Nat) (L : List (List UInt8 × Value)) (hb : W.heap[r]? = some (mapObj L)) (l : List UInt8) (z : Value) (hz : (zeroValue et).run P W = .ok z W) :
    (Instr.lookup mty (.map (some r)) (.string (bs l)) true).run P W = .ok (match lookE l L 0 with | some (_, v) => .tuple #[v, .bool true] | none => .tuple #[z, .bool false]) W := by
  have hf : Instr.findNow .string (.string (bs l)) (mkEs L 0).toArray.toList 0 = some (lookE l L 0) := by rw [List.toList_toArray, findNow_mk]
  have hc : ∀ e w, (Instr.checkKey e 10000 kt (.string (bs l))).run P w = .ok () w := fun e w => MapKept.run_checkKey (k := .string (bs l)) hk (by simp [MapKept.IsKey]) e 9999
  have hb' : W.heap[r]? = some (.map (mkEs L 0).toArray L.length) := hb
  cases h : lookE l L 0 with
  | none => rw [h] at hf; simp [Instr.lookup, run_underlying hm, MapKept.run_getObj_map hb', hc, MapKept.run_findKey hk hf, Result.andThen, hz]
  | some x => rw [h] at hf; simp [Instr.lookup, run_underlying hm, MapKept.run_getObj_map hb', hc, MapKept.run_findKey hk hf, Result.andThen]
/-- What a call's word is worth, as a value. -/
def callVal (o : Int) (args : List UInt8) (most : Int) : Value := .agg #[.int .u8 o, .string (bs args), .int .i64 most]
def callRows : List (List UInt8 × Nat × List UInt8 × Int) := [([105, 102], 19, [101, 101, 101], 0), ([109, 105, 110], 20, [101, 101], 0), ([109, 97, 120], 21, [101, 101], 0), ([97, 98, 115], 22, [101], 0), ([114, 111, 117, 110, 100], 23, [101, 119], 9), ([104, 97, 115], 24, [102], 0), ([111, 114, 101, 108, 115, 101], 25, [102, 101], 0), ([108, 97, 103], 26, [102, 119], 3660), ([108, 101, 97, 115, 116], 27, [102, 119], 3660), ([109, 111, 115, 116], 28, [102, 119], 3660), ([97, 110, 121], 29, [102, 119], 3660), ([101, 118, 101, 114, 121], 30, [102, 119], 3660)]
def callPairs : List (List UInt8 × Value) := callRows.map fun x => (x.1, callVal x.2.1 x.2.2.1 x.2.2.2)
/-- The first k calls. -/
def callMap (k : Nat) : Obj := mapObj (callPairs.take k)
theorem callMap_zero : callMap 0 = .map #[] 0 := rfl
theorem lookE_take_none (k : Nat) (h : k < 12) : lookE (callRows.getD k ([], 0, [], 0)).1 (callPairs.take k) 0 = none := by
  match k, h with
  | 0, _ | 1, _ | 2, _ | 3, _ | 4, _ | 5, _ | 6, _ | 7, _ | 8, _ | 9, _ | 10, _ | 11, _ => simp [callRows, callPairs, lookE]
  | k + 12, h => omega
theorem callMap_step (W : World) (H : Nat) (hH : W.heap.size = H) (k : Nat) (hk : k < 12) (a : List UInt8) (o : Nat) (args : List UInt8) (most : Int) (he : callRows[k]? = some (a, o, args, most)) :
    (Instr.mapUpdate 81 (.map (some H)) (.string (bs a)) (.agg #[.int .u8 o, .string (bs args), .int .i64 most])).run Tryd.prog (W.alloc (callMap k)) = .ok () (W.alloc (callMap (k + 1))) := by
  have h1 := run_update_new (P := Tryd.prog) Tryd.underlying81 Tryd.underlying9 W H hH (callPairs.take k) a (callVal o args most) (by
    have := lookE_take_none k hk
    rw [List.getD_eq_getElem?_getD, he] at this; exact this)
  have h2 : callPairs.take k ++ [(a, callVal o args most)] = callPairs.take (k + 1) := by
    have : callPairs[k]? = some (a, callVal o args most) := by simp [callPairs, he]
    rw [List.take_add_one, this]; rfl
  rw [h2] at h1
  exact h1
theorem lookE_calls (l : List UInt8) : (match lookE l callPairs 0 with | some (_, v) => Value.tuple #[v, .bool true] | none => .tuple #[callVal 0 [] 0, .bool false]) = (match callsOf l with | some c => Value.tuple #[callVal c.1 c.2.1 c.2.2, .bool true] | none => .tuple #[callVal 0 [] 0, .bool false]) := by
  by_cases h0 : l = [105, 102]
  · subst h0; rfl
  by_cases h1 : l = [109, 105, 110]
  · subst h1; rfl
  by_cases h2 : l = [109, 97, 120]
  · subst h2; rfl
  by_cases h3 : l = [97, 98, 115]
  · subst h3; rfl
  by_cases h4 : l = [114, 111, 117, 110, 100]
  · subst h4; rfl
  by_cases h5 : l = [104, 97, 115]
  · subst h5; rfl
  by_cases h6 : l = [111, 114, 101, 108, 115, 101]
  · subst h6; rfl
  by_cases h7 : l = [108, 97, 103]
  · subst h7; rfl
  by_cases h8 : l = [108, 101, 97, 115, 116]
  · subst h8; rfl
  by_cases h9 : l = [109, 111, 115, 116]
  · subst h9; rfl
  by_cases h10 : l = [97, 110, 121]
  · subst h10; rfl
  by_cases h11 : l = [101, 118, 101, 114, 121]
  · subst h11; rfl
  simp only [callPairs, callRows, List.map_cons, List.map_nil, lookE, callsOf, if_neg h0, if_neg h1, if_neg h2, if_neg h3, if_neg h4, if_neg h5, if_neg h6, if_neg h7, if_neg h8, if_neg h9, if_neg h10, if_neg h11]
def callRes (l : List UInt8) : Value := match callsOf l with | some c => .tuple #[callVal c.1 c.2.1 c.2.2, .bool true] | none => .tuple #[callVal 0 [] 0, .bool false]
theorem zero_call (w : World) : (zeroValue 61).run Tryd.prog w = .ok (callVal 0 [] 0) w := by kernel_rfl
theorem call_look (W : World) (r : Nat) (hb : W.heap[r]? = some (callMap 12)) (l : List UInt8) : (Instr.lookup 81 (.map (some r)) (.string (bs l)) true).run Tryd.prog W = .ok (callRes l) W := by
  rw [run_look (P := Tryd.prog) Tryd.underlying81 Tryd.underlying9 W r callPairs hb l _ (zero_call W)]
  congr 1
  exact lookE_calls l
set_option maxHeartbeats 2000000 in
set_option maxRecDepth 100000 in
theorem calls_any (w : World) (l : List UInt8) (o : Nat) (args : List UInt8) (most : Int) (ok : Bool) (hr : callRes l = .tuple #[callVal o args most, .bool ok]) :
    Calls Tryd.prog 29 #[.string (bs l)] w fun e w' => e = .returned (.tuple #[.agg #[.int .u8 o, .string (bs args), .int .i64 most], .bool ok]) ∧ Below w.heap.size w w' := by
  have hmm : ∀ (t : TypeId) (w : World), (Instr.makeMap t none).run Tryd.prog w = .ok (.map (some w.heap.size)) (w.alloc (callMap 0)) := @run_makeMap Tryd.prog
  have hlk : ∀ W : World, W.heap.size = w.heap.size + 1 → (Instr.lookup 81 (.map (some (w.heap.size + 1))) (.string (bs l)) true).run Tryd.prog (W.alloc (callMap 12)) = .ok (.tuple #[callVal o args most, .bool ok]) (W.alloc (callMap 12)) := fun W hW => by
    rw [call_look _ _ (by rw [← hW]; exact heap_alloc_new _ _), hr]
  have hst := fun (W : World) (hW : W.heap.size = w.heap.size + 1) => callMap_step W _ hW
  have u0 := hst (w.alloc (.cells #[.int .u8 0, .string (bs []), .int .i64 0] 61)) (by simp) 0 (by omega) [105, 102] 19 [101, 101, 101] 0 rfl
  have u1 := hst (w.alloc (.cells #[.int .u8 0, .string (bs []), .int .i64 0] 61)) (by simp) 1 (by omega) [109, 105, 110] 20 [101, 101] 0 rfl
  have u2 := hst (w.alloc (.cells #[.int .u8 0, .string (bs []), .int .i64 0] 61)) (by simp) 2 (by omega) [109, 97, 120] 21 [101, 101] 0 rfl
  have u3 := hst (w.alloc (.cells #[.int .u8 0, .string (bs []), .int .i64 0] 61)) (by simp) 3 (by omega) [97, 98, 115] 22 [101] 0 rfl
  have u4 := hst (w.alloc (.cells #[.int .u8 0, .string (bs []), .int .i64 0] 61)) (by simp) 4 (by omega) [114, 111, 117, 110, 100] 23 [101, 119] 9 rfl
  have u5 := hst (w.alloc (.cells #[.int .u8 0, .string (bs []), .int .i64 0] 61)) (by simp) 5 (by omega) [104, 97, 115] 24 [102] 0 rfl
  have u6 := hst (w.alloc (.cells #[.int .u8 0, .string (bs []), .int .i64 0] 61)) (by simp) 6 (by omega) [111, 114, 101, 108, 115, 101] 25 [102, 101] 0 rfl
  have u7 := hst (w.alloc (.cells #[.int .u8 0, .string (bs []), .int .i64 0] 61)) (by simp) 7 (by omega) [108, 97, 103] 26 [102, 119] 3660 rfl
  have u8 := hst (w.alloc (.cells #[.int .u8 0, .string (bs []), .int .i64 0] 61)) (by simp) 8 (by omega) [108, 101, 97, 115, 116] 27 [102, 119] 3660 rfl
  have u9 := hst (w.alloc (.cells #[.int .u8 0, .string (bs []), .int .i64 0] 61)) (by simp) 9 (by omega) [109, 111, 115, 116] 28 [102, 119] 3660 rfl
  have u10 := hst (w.alloc (.cells #[.int .u8 0, .string (bs []), .int .i64 0] 61)) (by simp) 10 (by omega) [97, 110, 121] 29 [102, 119] 3660 rfl
  have u11 := hst (w.alloc (.cells #[.int .u8 0, .string (bs []), .int .i64 0] 61)) (by simp) 11 (by omega) [101, 118, 101, 114, 121] 30 [102, 119] 3660 rfl
  simp only [Nat.reduceAdd, Int.cast_ofNat_Int] at u0 u1 u2 u3 u4 u5 u6 u7 u8 u9 u10 u11
  have hl1 := hlk (w.alloc (.cells #[.int .u8 0, .string (bs []), .int .i64 0] 61)) (by simp)
  clear hlk
  clear hst hr
  unfold callVal at hl1
  go_enter Tryd.func29, Tryd.ntmps29
  go_wp2_with fail
  refine post_gen w.heap.size #[.int .u8 o, .string (bs args), .int .i64 most] 61 (0, 0) (fun W => Below w.heap.size w W) ?_ ?_ (fun W hW hB => ?_)
  · rw [Below.heap_alloc _ _ _ (by simp; omega), Below.heap_alloc _ _ _ (by simp), heap_alloc_new w _]
  · (repeat' (refine below_set ?_ _ _ (Nat.le_refl _) _)); exact (((Below.refl _ w).alloc (Nat.le_refl _) _).alloc (by simp) _).alloc (by simp; omega) _
  · have q := cell_of_block hW
    exact bodyPost_ret (v := .tuple #[.agg #[.int .u8 o, .string (bs args), .int .i64 most], .bool ok]) (by simp [results, Tryd.results29, go_sem, q]) rfl ⟨rfl, hB⟩
end Go.Proofs.YtfkieomelkopeaaDoor
