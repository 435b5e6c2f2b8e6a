/- GraphLists as a tied card: for any list of graphs and any graph, if the list is long or one of the graphs is large the law answers true after awake; else the list of the graphs is that of the reference, with the same error, its items are the least graphs of the graphs, and the items of the graph are those of the reference, with the same error; the law returns true. Conditions: the listed package-level variables of Go's library read as the program's text lays them (the card ties that, over the pruned copy of the project). The call of awake is run by an evaluator of closed calls, whose steps are shown to be the model's. -/
import Derived.Test.YtnmldggopnbclaaGreatDoorGrliCa
import Derived.Test.YtnmldggopnbclaaGreatDoorRows
import Derived.Test.YtnmldggopnbclaaGreatDoorCards
import Derived.Test.YtnmldggopnbclaaGreatDoorTie
import Derived.WalkKit
import Derived.ProofKit
import Derived.OpenShut
import Derived.ShutString
import Derived.ChangeOld
import Derived.Below
import Derived.Carry
import Derived.LaidMore
import Derived.LaidSub
import Derived.Lay
import Derived.SevenTiedAt
import Derived.Stop.Joined
namespace Go.Proofs.YtnmldggopnbclaaGreatDoor.graphLists
open Go Go.V Go.Proofs Go.ChangeShapes Go.WideShapes Go.ChangeAt Go.RowKit Go.V.Gr
theorem laidOut : laidOutB Tryz.prog = true := by kernel_rfl
theorem own : ownKnob Tryz.prog.godebug = none := by kernel_rfl
theorem tb {W : World} (h : laidMetH Tryz.prog Rows.graphListsRow.laid W) : Tb W := by
 have h2 := h.filter (fun x => x.1 == "internal/strconv.uint64pow10")
 have e : Rows.graphListsRow.laid.filter (fun x => x.1 == "internal/strconv.uint64pow10") = [("internal/strconv.uint64pow10", Lib.tabData .u64 Lib.pow10Tab)] := by kernel_rfl
 rw [e, MakeChecks.laidMetH_plain _ _ _ (by kernel_rfl)] at h2
 have h3 := h2
 obtain ⟨ps, ⟨g', t', cs, fuel, p, q, hg', ht', _⟩, _⟩ := h3
 have ek : ((Tryz.prog.globalNamed "internal/strconv.uint64pow10").bind fun g => (Tryz.prog.globals[g]?).map (·.type)) = some 190 := by kernel_rfl
 rw [hg'] at ek
 exact Lib.tabIs_of_head hg' ek Tryz.underlying190 Tryz.underlying165 (by kernel_rfl) (by kernel_rfl) h2
set_option maxRecDepth 100000 in
theorem lifted (os : Os) (started : os.Started) (H : Type) (enc : TypeId × Value → H) :
  ReturnsInHanded {} Tryz.checked os 3 .any (fun w args => (Rows.graphListsSpec.pre enc Tryz.prog Tryz.f3 Rows.graphListsRow.domain false w args ∧ laidMetH Tryz.prog Rows.graphListsRow.laid w) ∧ sizedMet enc Tryz.prog Tryz.f3 (OpenSpec.ofChange Rows.graphListsSpec) false w args)
   (Rows.graphListsSpec.post enc Tryz.prog Tryz.f3 false true false false) := by
 refine returnsInHanded_of_change_and (C := Tryz.checked) (X := fun w _ => laidMetH Tryz.prog Rows.graphListsRow.laid w) (fun _ _ _ hh h => h.of_heap hh) own started (by kernel_rfl) Tryz.func3
  (ChangeSpec.witness_shaped (enc := enc) (C := Tryz.checked) (os := os) (X := fun w _ => laidMetH Tryz.prog Rows.graphListsRow.laid w) false (World.laidAll Tryz.prog os Rows.graphListsRow.laid) #[.slice none 0 0, .agg #[.int .i64 0, .slice none 0 0]] 8 (World.laidAll_os _ _ _)
   (World.shaped_of_ZipB (by kernel_rfl) (by kernel_rfl)) (by kernel_rfl) (by kernel_rfl) (by kernel_rfl)
   (by rw [MakeChecks.laidMetH_plain _ _ _ (by kernel_rfl)]; exact laidMet_laidAll _ (by kernel_rfl) (by kernel_rfl))) ?_
 intro W base args ds gs before hval0 hW hA1 hA2 hA3 hA4
 have hval : ∀ (j : Nat) t v, Tryz.f3.params[j]? = some t → args[j]? = some v → Value.okWide Tryz.prog W .any base t v := hval0
 have hW' := hW
 obtain ⟨p, q, hA0, hV, rfl, hfz, hnd⟩ := hW
 have hA : DataW.TrodAll enc Tryz.prog W 0 (fun _ => true) true Tryz.f3.params.toList args.toList ds p := hA0
 rw [Tryz.params3] at hA hval
 obtain ⟨v0, vs0, d0, ds0, p0, q0, hargs, rfl, rfl, h0, r0⟩ := trodAll_cons hA
 obtain ⟨v1, vs1, d1, ds1, p1, q1, rfl, rfl, rfl, h1, r1⟩ := trodAll_cons r0
 obtain ⟨rfl, rfl, rfl⟩ := trodAll_nil r1
 obtain rfl : args = #[v0, v1] := by cases args; simp_all
 obtain ⟨rfl, rfl⟩ := trodVars_none hV
 have z0 := Rz.of (j := 0) hA2 rfl rfl h0
 have z1 := Rz.of (j := 1) hA2 rfl rfl h1
 obtain ⟨aS, lS, cS, rfl⟩ := okWide_slice Tryz.underlying22 (hval 0 22 v0 rfl rfl)
 have lt0 : ∀ x ∈ p0, x.block < W.heap.size := by obtain ⟨m, hm⟩ := h0; exact DataW.trod_lt m _ _ _ hm
 obtain ⟨_, _, _, gs, e0, gr, zg⟩ := rd_graphs z0
 simp [Value.cells] at e0; obtain ⟨rfl, rfl, rfl⟩ := e0
 obtain ⟨cs1, rfl, _⟩ := okWide_struct Tryz.underlying25 (hval 1 25 v1 rfl rfl)
 have lt1 : ∀ x ∈ p1, x.block < W.heap.size := by obtain ⟨m, hm⟩ := h1; exact DataW.trod_lt m _ _ _ hm
 obtain ⟨r, a1, l1, c1, x1, e1, g1, s1⟩ := rd_graph z1
 obtain rfl : cs1 = #[.int .i64 r, .slice a1 l1 c1] := by cases cs1; simpa [Value.cells] using e1
 clear hA0 hval0
 refine (ctr3 W gs _ gr zg r x1 c1 g1 s1 (tb hA3)).mono fun e W' ⟨p, he, hp, bel⟩ => ?_
 subst he; subst hp
 exact ⟨_, rfl, _, _, _, [], _, [], hW', trodAll_mk1 (shut_bool Tryz.underlying4 _), (trodAll_cons_mk (Below.trod laidOut (by kernel_rfl) (of_decide_eq_true (by kernel_rfl)) h0 bel lt0) (trodAll_cons_mk (Below.trod laidOut (by kernel_rfl) (of_decide_eq_true (by kernel_rfl)) h1 bel lt1) trodAll_mk0)), rfl, bel.frame _, fun h => by cases h⟩
theorem over : Rows.graphListsRow.holds Tryz.pinned (OpenSpec.ofChange Rows.graphListsSpec) :=
 OpenClaim.holds_of_wide 3 Tryz.f3 rfl rfl rfl rfl rfl rfl rfl ⟨rfl, rfl, rfl, rfl, rfl⟩ rfl rfl rfl rfl rfl (by kernel_rfl) Tryz.func3 (by kernel_rfl)
  (of_decide_eq_true (by kernel_rfl)) (by unfold Func.isWrapper; first | (rw [if_pos (by decide +kernel)]; kernel_rfl) | (rw [if_neg (by decide +kernel)]; exact ⟨rfl, rfl⟩))
  (fun os started H enc _ => lifted os started H enc)
/-- THE STATEMENT. -/
theorem proved : Rows.GraphListsCardSaid :=
 Claim7.holds_tied_plain_at .later [] Rows.graphListsCard.laidKinds true Rows.graphListsCard.stood.harness true
  over (fun _ h => by cases h) (by kernel_rfl) (fun _ h => by cases h) graphLists_row_tie rfl ⟨rfl, rfl⟩ (by kernel_rfl) rfl
  (fun f fn hf hfn => by
   obtain rfl : f = 3 := Option.some.inj ((show Tryz.prog.funcNamed "manystrand/manystrandlaw05.GraphLists" = some 3 by kernel_rfl).symm.trans hf) |>.symm
   obtain rfl : fn = Tryz.f3 := (Option.some.inj (Tryz.func3.symm.trans hfn)).symm
   exact ⟨by kernel_rfl, fun j t ht => by
    rw [Tryz.params3] at ht
    have hm : t ∈ [22, 25] := by
     have := Array.mem_of_getElem? ht
     simpa using this
    have hall : ([22, 25].all fun u => !Tryz.prog.wantsStandIn u) = true := by kernel_rfl
    exact (show Tryz.prog.wantsStandIn t = false by simpa using List.all_eq_true.1 hall t hm)⟩)
  (by kernel_rfl)
#print axioms proved
end Go.Proofs.YtnmldggopnbclaaGreatDoor.graphLists
