/-
  From a contract of a law's call to what its row asks: every argument reads behind the call as it read before it, the answer is true, nothing that stood has turned.
-/
import Derived.Test.YthbjpoiolmlpmaaGreatDoorRd
import Derived.JoinedCond
import Derived.Deep.CondSized
import Derived.OpenShut
namespace Go.Proofs.YthbjpoiolmlpmaaGreatDoor
open Go.RowKit Go.ChangeShapes Go.WideShapes Go.ChangeAt

theorem own_knob : ownKnob Tryz.prog.godebug = none := by kernel_rfl
theorem laid_out : laidOutB Tryz.prog = true := by kernel_rfl

theorem trodAll_below {H : Type} {enc : TypeId × Value → H} {P : Program} (hl : laidOutB P = true) {W W' : World} (hb : Below W.heap.size W W') :
    ∀ (ts : List TypeId) (vs : List Value) (ds : List (DataW H)) (ps : List MemPlace), ts.all (fun t => P.readableRec t && decide (t < P.types.size)) = true →
      DataW.TrodAll enc P W 0 (fun _ => true) true ts vs ds ps → (∀ x ∈ ps, x.block < W.heap.size) → DataW.TrodAll enc P W' 0 (fun b => decide (b < W.heap.size)) true ts vs ds ps
  | [], vs, ds, ps, _, h, _ => by
    obtain ⟨rfl, rfl, rfl⟩ := trodAll_nil h
    exact trodAll_mk0
  | t :: ts, vs, ds, ps, ht, h, hp => by
    obtain ⟨v, vs', d, ds', p, q, rfl, rfl, rfl, h0, r0⟩ := trodAll_cons h
    simp only [List.all_cons, Bool.and_eq_true, decide_eq_true_eq] at ht
    exact trodAll_cons_mk (Below.trod hl ht.1.1 ht.1.2 h0 hb (fun x hx => hp x (by simp [hx]))) (trodAll_below hl hb ts vs' ds' q ht.2 r0 (fun x hx => hp x (by simp [hx])))

/-- A value of the type that g codes, out of its cells. -/
def GT.val : GT → List Value → Value
  | .struct _, cs => .agg cs.toArray
  | _, cs => cs.headD (.bool false)
theorem GT.val_of {P : Program} {w : World} {r : Reach} {b0 : Nat} {v : Value} (g : GT) (t : TypeId) (hg : g.okT P t = true) (h : Value.okWide P w r b0 t v) : v = g.val v.cells.toList := by
  cases g with
  | int k =>
    simp only [GT.okT, Bool.and_eq_true] at hg
    split at hg
    case h_1 q ht => obtain ⟨n, rfl⟩ := okWide_int ht h; rfl
    case h_2 => simp at hg
  | bool =>
    simp only [GT.okT, Bool.and_eq_true] at hg
    split at hg
    case h_1 ht => obtain ⟨n, rfl⟩ := okWide_bool ht h; rfl
    case h_2 => simp at hg
  | str =>
    simp only [GT.okT, Bool.and_eq_true] at hg
    split at hg
    case h_1 ht => obtain ⟨n, rfl⟩ := okWide_string ht h; rfl
    case h_2 => simp at hg
  | slice e =>
    simp only [GT.okT, Bool.and_eq_true] at hg
    split at hg
    case h_1 ht => obtain ⟨a, n, c, rfl⟩ := okWide_slice ht h; rfl
    case h_2 => simp at hg
  | struct c =>
    simp only [GT.okT, Bool.and_eq_true] at hg
    split at hg
    case h_1 ht =>
      unfold Value.okWide at h
      rw [ht] at h
      obtain ⟨cs, rfl, _⟩ := h
      simp [GT.val, Value.cells]
    case h_2 => simp at hg
  | nil => simp [GT.okT] at hg
  | cons a b => simp [GT.okT] at hg

/-- What a law's row asks behind the call. -/
theorem law_post {H : Type} {enc : TypeId × Value → H} {P : Program} (hl : laidOutB P = true) {f : Func} {s : ChangeSpec} {again : Bool} {W W' : World} {args : Array Value} {ds gs : List (DataW H)} {before : List MemPlace} {tb : TypeId}
    (hW : DataW.Whole enc P f.params.toList s.vars false W args.toList ds gs before) (hv : s.vars = []) (hr : f.resultTypes = #[tb]) (ht : P.underlying tb = some .bool)
    (hp : f.params.toList.all (fun t => P.readableRec t && decide (t < P.types.size)) = true)
    (hres : (s.fn H (ds ++ gs)).results = [.lit (.bool true)]) (hargs : (s.fn H (ds ++ gs)).args = ds) (hsv : (s.fn H (ds ++ gs)).vars = []) (hb : Below W.heap.size W W') (ha : again = false) :
    s.post enc P f false true false again W args (.bool true) W' := by
  have hW' := hW
  obtain ⟨p, q, hA, hV, rfl, hfz, hnd⟩ := hW
  rw [hv] at hV
  obtain ⟨rfl, rfl⟩ := trodVars_none hV
  have hlt : ∀ x ∈ p, x.block < W.heap.size := fun x hx => hW'.lt x (by simp [hx])
  refine ⟨ds, [], p ++ [], [], p, [], hW', ?_, ?_, ?_, hb.frame _, fun h => by rw [ha] at h; cases h⟩
  · rw [hres, hr]
    exact trodAll_cons_mk (shut_bool ht _) trodAll_mk0
  · rw [hargs]
    exact trodAll_below hl hb _ _ _ _ hp hA hlt
  · rw [hsv, hv]
    rfl
end Go.Proofs.YthbjpoiolmlpmaaGreatDoor
