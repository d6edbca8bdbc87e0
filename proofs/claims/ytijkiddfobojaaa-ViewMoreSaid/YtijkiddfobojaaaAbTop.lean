import Derived.Test.YtijkiddfobojaaaAbG
import Derived.ProofKit
import Derived.OpenShut
/-! From a function on data to a row. -/
namespace Go.Ab
set_option linter.all false
open Go Go.ChangeShapes Go.WideShapes Go.ChangeAt Go.RowKit
variable {P : Program} {H : Type} {enc : TypeId × Value → H}

theorem post_of_below {f : Func} {s : ChangeSpec} {apart fresh handsOn again : Bool} {W W' : World} {args : Array Value} {v : Value} {ds gs : List (DataW H)} {before pa pv : List MemPlace}
    (hW : DataW.Whole enc P f.params.toList s.vars apart W args.toList ds gs before)
    (hres : ∀ (b : Nat) (sp : Nat → Bool) (hd : Bool), DataW.TrodAll enc P W' b sp hd f.resultTypes.toList (v.resultList f.resultTypes.size) (s.fn H (ds ++ gs)).results [])
    (hargs : ∀ sp : Nat → Bool, (∀ p ∈ before, sp p.block = true) → DataW.TrodAll enc P W' 0 sp true f.params.toList args.toList (s.fn H (ds ++ gs)).args pa)
    (hvars : ∀ sp : Nat → Bool, (∀ p ∈ before, sp p.block = true) → DataW.TrodVars enc P W' sp s.vars (s.fn H (ds ++ gs)).vars pv)
    (hps : before = pa ++ pv) (hb : Below W.heap.size W W')
    (hok : ∀ (j : Nat) (t : TypeId) (r : Value), f.resultTypes[j]? = some t → (v.resultList f.resultTypes.size)[j]? = some r → Value.okWide P W' .any 0 t r) :
    s.post enc P f apart fresh handsOn again W args v W' := by
  have hold : ∀ p ∈ before, (fun b => decide (b < W.heap.size)) p.block = true := fun p hp => by simpa using hW.lt p hp
  have hlt : ∀ p ∈ before, p.block < W.heap.size := fun p hp => hW.lt p hp
  refine ⟨ds, gs, before, [], pa, pv, hW, hres _ _ _, hargs _ hold, hvars _ hold, World.keptBut_mono (fun p hp => ⟨hp, ?_⟩) (hb.frame (· ∈ before)), fun _ => ?_⟩
  · rw [hps, List.mem_append] at hp
    exact Or.inr hp
  · obtain ⟨_, _, _, _, _, hz, hn⟩ := hW
    refine ⟨hok, _, _, ([] ++ pa) ++ pv, ⟨[] ++ pa, pv, trodAll_append (hargs _ (fun _ _ => rfl)) (hres _ _ _), hvars _ (fun _ _ => rfl), rfl, ?_, ?_⟩, ?_⟩
    · intro b off hp
      have hp' : MemPlace.cell b off ∈ before := by rw [hps]; simpa using hp
      rw [hb.frozen (hlt _ hp')]
      exact hz b off hp'
    · intro ha
      have := hn ha
      rw [hps] at this
      simpa using this
    · intro p hp _
      rw [hps]
      simpa using hp
/-- A law on numbers. -/
theorem calls_of_pure {f : FuncId} {ds : List D} {b : Bool} {vs : Array Value} {w : World} (h : PureOK P f ds [.b b]) (hs : vs.size = ds.length)
    (hr : ∀ i (hi : i < ds.length), RepD w (fun _ _ => False) ds[i] (vs.getD i undef)) : Calls P f vs w fun e w' => e = .returned (.bool b) ∧ Below w.heap.size w w' := by
  refine (callsIn_wide (n := 0)).1 (CallsIn.mono (h (fun _ _ => False) w 0 vs (fun _ _ hf => hf.elim) hs hr) ?_)
  rintro e w' ⟨c, rfl, hb, hv⟩
  refine ⟨?_, hb⟩
  have h1 := hv ⟨fun _ => 0, fun _ => (0, 0, 0), fun _ => 0⟩
  simp only [List.map_cons, List.map_nil, mkRes] at h1
  rw [h1.val.1]
theorem repD_int {w : World} {M : Cells} {k : IntKind} {n : Int} (h : (Lit.int k n).wf = true) : RepD w M (.v (.int k n)) (.int k n) := by
  refine .v ?_
  cases k <;> simp_all [okLeaf, inR, Lit.wf, IntKind.min, IntKind.max, IntKind.signed, IntKind.bits]
end Go.Ab
