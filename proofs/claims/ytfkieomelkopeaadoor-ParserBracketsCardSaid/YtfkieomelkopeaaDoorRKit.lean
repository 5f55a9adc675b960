/-
  What the rows' condition gives a walk (Glob), and the wrap: a law whose call leaves all that was there meets its row.
-/
import Derived.Test.YtfkieomelkopeaaDoorRows
import Derived.Test.YtfkieomelkopeaaDoorWGlob
import Derived.ProofKit
import Derived.LaidMore
import Derived.OpenShut
import Derived.Stop.Joined
import Derived.Stop.LaidErr
import Derived.Lib.LaidTab
import Derived.MakeChecks
import Derived.LaidHandle
import Derived.Lib.SmallJoins
namespace Go.Proofs.YtfkieomelkopeaaDoor
open Go.ChangeShapes Go.WideShapes Go.ChangeAt Go.RowKit
theorem own : ownKnob Tryd.prog.godebug = none := by kernel_rfl
theorem gSpace : (Tryd.prog.globals[0]?).map (·.type) = some 97 := by kernel_rfl
theorem gRange : (Tryd.prog.globals[3]?).map (·.type) = some 76 := by kernel_rfl
theorem rowErr (u : TypeId) (h : Tryd.prog.typeName? 3 u = some "*errors.errorString") : u = 116 :=
  typeName_ptr_named (nm := "errors.errorString") (by kernel_rfl) (by kernel_rfl) (by decide) u h
theorem cellsErr : Tryd.prog.cellsOf 118 = 1 := by kernel_rfl
theorem cellsStr : Tryd.prog.cellsOf 9 = 1 := by kernel_rfl
theorem cellsByte : Tryd.prog.cellsOf 5 = 1 := by kernel_rfl
theorem cellsTab : Tryd.prog.cellsOf 97 = 256 := by kernel_rfl
theorem glob_size {W : World} (h : W.ShapedOpen Tryd.prog) : 11 ≤ W.heap.size := by
  obtain ⟨o, _, h1, _⟩ := h.2 11 (of_decide_eq_true (by kernel_rfl)) (of_decide_eq_true (by kernel_rfl))
  have := lt_of_block h1
  omega
/-- What the rows' condition gives: the two variables of the library's that the walks read. -/
theorem glob_of_laid {W : World} {x1 x2 x3 x5 x6 : String × DataW Unit} {text : List UInt8} (hsh : W.ShapedOpen Tryd.prog)
    (h : laidMet Tryd.prog [x1, x2, x3, ("strconv.ErrRange", .iface "*errors.errorString" (.ptr (.agg [.lit (.string text)]))), x5, x6, ("strings.asciiSpace", Lib.tabData .u8 Lib.asciiSpaceTab)] W) : Glob W := by
  have h4 := h.tail.tail.tail
  obtain ⟨a, s, hv, -, -, -⟩ := laid_sentinel h4 named_range gRange Tryd.underlying76 rowErr Tryd.underlying116 Tryd.underlying118 rfl rfl Tryd.underlying9 cellsErr cellsStr
  have h7 := h4.tail.tail.tail
  exact ⟨hsh, Lib.tabIs_of_head named_space gSpace Tryd.underlying97 Tryd.underlying5 cellsByte cellsTab h7, ⟨_, _, hv⟩, glob_size hsh⟩
/-- The wrap that hands on the listed variables and the world's shape. -/
theorem returns_law {H : Type} {enc : TypeId × Value → H} {a : Assume} {C : Checked} {os : Os} {f : FuncId} {fn : Func} {s : ChangeSpec} {conds : List PathCond} {apart fresh handsOn again : Bool} {X : World → Array Value → Prop}
    (hX : ∀ (w w' : World) (args : Array Value), w.heap = w'.heap → X w args → X w' args)
    (own : ownKnob C.prog.godebug = none) (started : os.Started) (noInit : C.prog.inits.idxOf? f = none) (hfn : C.prog.funcs[f]? = some fn)
    (witness : ∃ (w : World) (tape : Tape) (i : Input), w.os = os ∧ (w.forCall tape i).Shaped C.prog ∧ i.vars = [] ∧ Input.okWide C.prog (w.forCall tape i) .any w.heap.size f i ∧
      ((s.pre enc C.prog fn conds apart (w.forCall tape i).memory i.args ∧ X (w.forCall tape i).memory i.args) ∧ sizedMet enc C.prog fn (OpenSpec.ofChange s) apart (w.forCall tape i).memory i.args) ∧ a.holds C.prog (lone (Frame.enter C.prog f i.args .normal) [] (w.forCall tape i)))
    (contract : ∀ (W : World) (base : Nat) (args : Array Value) (ds gs : List (DataW H)) (before : List MemPlace),
      (∀ (j : Nat) t v, fn.params[j]? = some t → args[j]? = some v → Value.okWide C.prog W .any base t v) →
      DataW.Whole enc C.prog fn.params.toList s.vars apart W args.toList ds gs before →
      (DataW.weightsEach C.prog (fn.params.toList ++ s.plain.varTypes C.prog) (ds ++ gs)).all (· ≤ reachBytes) = true → X W args → W.ShapedOpen C.prog →
      Calls C.prog f args W fun e W' => ∃ v, e = .returned v ∧ s.post enc C.prog fn apart fresh handsOn again W args v W') :
    ReturnsInHanded a C os f .any (fun w args => (s.pre enc C.prog fn conds apart w args ∧ X w args) ∧ sizedMet enc C.prog fn (OpenSpec.ofChange s) apart w args) (s.post enc C.prog fn apart fresh handsOn again) := by
  refine returnsInHanded_of_calls own started noInit witness ?_
  intro w tape i _ hsh _ hok hpre _
  obtain ⟨_, _, _, fn', hfn', _, _, _, _, hval⟩ := hok
  have e : fn' = fn := Option.some.inj (hfn'.symm.trans hfn)
  subst e
  obtain ⟨⟨⟨ds, gs, before, hw, _⟩, hx⟩, hz⟩ := hpre
  have hw' := DataW.Whole.of_heap (w' := w.forCall tape i) (by rfl) hw
  refine (contract (w.forCall tape i) w.heap.size i.args ds gs before hval hw' (hz.weights hw) (hX _ _ _ (by rfl) hx) hsh).mono fun e W' ⟨v, he, hp⟩ => ?_
  subst he
  exact ChangeSpec.post_blind hp
end Go.Proofs.YtfkieomelkopeaaDoor
