/- FnExactInlineCall answers true for every input, and its arguments read behind the call as they read before. No condition beyond the row's own. -/
import Derived.Test.YtjjigphfjclofaaGreatDoorLi9
import Derived.Test.YtjjigphfjclofaaGreatDoorRows
import Derived.Test.YtjjigphfjclofaaGreatDoorCards
import Derived.Test.YtjjigphfjclofaaGreatDoorTie
import Derived.WalkKit
import Derived.ProofKit
import Derived.ShutString
import Derived.Carry
import Derived.Lib.LaidIn
import Derived.Lib.LaidU8
import Derived.Deep.DeepHandedRow
import Derived.Deep.DeepWitnessRowRef
import Derived.SevenTiedAt
namespace Go.Proofs.YtjjigphfjclofaaGreatDoor.AW
open Go.RowKit
open Nat (reduceAdd reduceMul)
set_option maxHeartbeats 8000000
set_option maxRecDepth 100000
set_option linter.unusedSimpArgs false
set_option linter.unusedVariables false
theorem zmq (p : ProgramD) (fn : Int) (k : Int) (hsp : Yj p) : zw Tryz.prog 7 [.ro (zC p), .ro (.sc (.int .i64 fn)), .ro (.sc (.int .i64 k))] (fun rs st => rs = [(false, [cB true])]) := by
 refine zn (fn := Tryz.f7) (c := Tryz.f7.body.getD .skip) (res := [.tm 6]) (n := 106) zf (by kernel_rfl) (by rfl) (by kernel_rfl) (by rfl) (by rfl) (by simp [zu]) (fun uf ub C hpin hpin2 hfull => ?_)
 simp only [Tryz.f7, Option.getD_some]
 refine Tri.step zf ?_
 simp +decide only [bne_self_eq_false, za, zC, zb, zo, hpin, go_sem, reduceAdd, reduceMul]
 refine Tri.ent ?_ (Ent.frb hfull 3)
 refine Tri.step zf ?_
 simp +decide only [bne_self_eq_false, za, zC, zb, zo, hpin, go_sem, reduceAdd, reduceMul]
 refine Tri.step zf ?_
 simp +decide only [bne_self_eq_false, za, zC, zb, zo, hpin, go_sem, reduceAdd, reduceMul]
 refine zd (zcW p (1048576) (by decide) (by decide) hsp) hpin ?_
 by_cases h0_ : (1048576 : Int) - ((zF p : Nat) : Int) < 0
 · rw [yK h0_]
   simp +decide only [bne_self_eq_false, za, zC, zb, zo, hpin, go_sem, reduceAdd, reduceMul]
   refine ze zf _ ?_
   simp +decide only [bne_self_eq_false, za, zC, zb, zo, hpin, go_sem, reduceAdd, reduceMul]
 rw [xM h0_]
 have n0_ : ((1048576 : Int) - ((zF p : Nat) : Int) < 0) = False := by simpa using h0_
 simp +decide only [n0_, za, zC, zb, hpin, go_sem, reduceAdd, reduceMul]
 refine Tri.step zf ?_
 simp +decide only [n0_, za, zC, zb, hpin, go_sem, reduceAdd, reduceMul]
 have hcp : zF p <= 1048576 := by omega
 obtain ⟨k1, k2⟩ := zhn hcp
 have k0 : p.fns.length <= 1048576 := by unfold zF at hcp; omega
 have k3 := zeA hcp
 have hm1 := zbL p.nodes
 have hm2 := zgl p.fns
 have hm3 : sumN zD p.nodes <= 1048576 /\ sumN yb p.fns <= 1048576 := by unfold zF at hcp; omega
 have hcQ := znR p fn k hcp
 have hsS := zbS p fn k k0 k1 k2 k3
 have hsI := zbT p fn k k0 k1 k2 k3
 generalize inlP p fn k = Q at hcQ hsS hsI
 generalize yo p fn k = cd at hsS hsI
 have hq1 := zbL Q.nodes
 have hq2 := zgl Q.fns
 have hq3 : Q.nodes.length <= 1048576 /\ Q.fns.length <= 1048576 /\ sumN zD Q.nodes <= 1048576 /\ sumN yb Q.fns <= 1048576 := by unfold zF at hcQ; omega
 refine Tri.step zf ?_
 simp +decide only [bne_self_eq_false, hpin, za, zC, zb, zo, go_sem, reduceAdd, reduceMul]
 refine zd (Zb p hcp) hpin ?_
 simp +decide only [bne_self_eq_false, hpin, za, zC, zb, zo, go_sem, reduceAdd, reduceMul]
 refine zd hsS hpin ?_
 simp +decide only [bne_self_eq_false, hpin, za, zC, zb, zo, go_sem, reduceAdd, reduceMul]
 refine Tri.ent ?_ (Ent.frb hfull 8)
 refine Tri.step zf ?_
 simp +decide only [bne_self_eq_false, hpin, za, zC, zb, zo, go_sem, reduceAdd, reduceMul]
 refine zd (Zb p hcp) hpin ?_
 simp +decide only [bne_self_eq_false, hpin, za, zC, zb, zo, go_sem, reduceAdd, reduceMul]
 refine Tri.outN [] (x := .box [.row false 83 (rows (zg false) (p.nodes)), .row false 104 (rows (fnC false) (p.fns))]) (e := 83) (es := rows (zg false) (p.nodes)) 10 [(0, 0)] 1000 (by rfl) (by rfl) (by simp) (by rfl) (by rfl) (by decide) (zrj hpin) (pin3 hpin) hfull (fun z1000 C1000 hz1000 ho1000 hpK1000 hp31000 hfull1000 => ?_)
 have hpK := hpK1000
 have hp3 := hp31000
 have hfullK := hfull1000
 refine Tri.outN [1000] (x := .box [.sc z1000, .row false 104 (rows (fnC false) (p.fns))]) (e := 104) (es := rows (fnC false) (p.fns)) 10 [(0, 1)] 1001 (by rfl) (by rfl) (by simp) (by rfl) (by rfl) (by decide) hpK hp3 hfullK (fun z1001 C1001 hz1001 ho1001 hpK1001 hp31001 hfull1001 => ?_)
 have hz1000 : C1001.pin 1000 = some (z1000, 0, 0) := (ho1001 1000 (by decide)).trans hz1000
 have hpK := hpK1001
 have hp3 := hp31001
 have hfullK := hfull1001
 refine Tri.ent ?_ (Ent.frb hfullK 10)
 refine Tri.step zf ?_
 simp +decide only [bne_self_eq_false, hpK, hz1000, hz1001, za, zC, zb, zo, go_sem, reduceAdd, reduceMul]
 refine yT hsI hp3 ?_
 simp +decide only [bne_self_eq_false, hpK, hz1000, hz1001, za, zC, zb, zo, go_sem, reduceAdd, reduceMul]
 refine Tri.outN [1001, 1000] (x := .box [.row false 83 (rows (zg false) (Q.nodes)), .row false 104 (rows (fnC false) (Q.fns))]) (e := 83) (es := rows (zg false) (Q.nodes)) 11 [(0, 0)] 1002 (by rfl) (by rfl) (by simp) (by rfl) (by rfl) (by decide) hpK hp3 hfullK (fun z1002 C1002 hz1002 ho1002 hpK1002 hp31002 hfull1002 => ?_)
 have hz1000 : C1002.pin 1000 = some (z1000, 0, 0) := (ho1002 1000 (by decide)).trans hz1000
 have hz1001 : C1002.pin 1001 = some (z1001, 0, 0) := (ho1002 1001 (by decide)).trans hz1001
 have hpK := hpK1002
 have hp3 := hp31002
 have hfullK := hfull1002
 refine Tri.outN [1002, 1001, 1000] (x := .box [.sc z1002, .row false 104 (rows (fnC false) (Q.fns))]) (e := 104) (es := rows (fnC false) (Q.fns)) 11 [(0, 1)] 1003 (by rfl) (by rfl) (by simp) (by rfl) (by rfl) (by decide) hpK hp3 hfullK (fun z1003 C1003 hz1003 ho1003 hpK1003 hp31003 hfull1003 => ?_)
 have hz1000 : C1003.pin 1000 = some (z1000, 0, 0) := (ho1003 1000 (by decide)).trans hz1000
 have hz1001 : C1003.pin 1001 = some (z1001, 0, 0) := (ho1003 1001 (by decide)).trans hz1001
 have hz1002 : C1003.pin 1002 = some (z1002, 0, 0) := (ho1003 1002 (by decide)).trans hz1002
 have hpK := hpK1003
 have hp3 := hp31003
 have hfullK := hfull1003
 refine Tri.ent ?_ (Ent.frb hfullK 11)
 refine Tri.step zf ?_
 simp +decide only [bne_self_eq_false, hpK, hz1000, hz1001, hz1002, hz1003, za, zC, zb, zo, go_sem, reduceAdd, reduceMul]
 refine yT (Zi Q hcQ) hp3 ?_
 simp +decide only [bne_self_eq_false, hpK, hz1000, hz1001, hz1002, hz1003, za, zC, zb, zo, go_sem, reduceAdd, reduceMul]
 refine Tri.step zf ?_
 simp +decide only [bne_self_eq_false, hpK, hz1000, hz1001, hz1002, hz1003, za, zC, zb, zo, go_sem, reduceAdd, reduceMul]
 refine Tri.sched zf [(0, true), (1, false), (2, false), (3, false), (4, false)] zS (by kernel_rfl) (fun CX hCX => ?_)
 have hpX : ∀ o, zbo [1003, 1002, 1001, 1000] o = false -> CX.pin o = none := by rw [hCX]; exact hpK
 have hpX3 : ∀ n, 3000 <= n -> CX.pin n = none := by rw [hCX]; exact hp3
 have hzX1000 : CX.pin 1000 = some (z1000, 0, 0) := by rw [hCX]; exact hz1000
 have hzX1001 : CX.pin 1001 = some (z1001, 0, 0) := by rw [hCX]; exact hz1001
 have hzX1002 : CX.pin 1002 = some (z1002, 0, 0) := by rw [hCX]; exact hz1002
 have hzX1003 : CX.pin 1003 = some (z1003, 0, 0) := by rw [hCX]; exact hz1003
 simp +decide only [bne_self_eq_false, hpX, hzX1000, hzX1001, hzX1002, hzX1003, za, zC, zb, zo, go_sem, reduceAdd, reduceMul]
 refine yT (Zb p hcp) hpX3 ?_
 simp +decide only [bne_self_eq_false, hpX, hzX1000, hzX1001, hzX1002, hzX1003, za, zC, zb, zo, go_sem, reduceAdd, reduceMul]
 refine yT (Zi p hcp) hpX3 ?_
 simp +decide only [bne_self_eq_false, hpX, hzX1000, hzX1001, hzX1002, hzX1003, za, zC, zb, zo, go_sem, reduceAdd, reduceMul]
 refine Tri.step zf ?_
 simp +decide only [bne_self_eq_false, hpK, hz1000, hz1001, hz1002, hz1003, za, zC, zb, zo, go_sem, reduceAdd, reduceMul]
 refine Tri.step zf ?_
 simp +decide only [bne_self_eq_false, hpK, hz1000, hz1001, hz1002, hz1003, za, zC, zb, zo, go_sem, reduceAdd, reduceMul]
 refine ZQ (YA p (1) (by omega) (by omega)) hp3 [(2000, 1000), (2001, 1001)] ⟨rfl, rfl, rfl⟩ (fun uf => ⟨rfl, rfl⟩) (fun uf => ?_) ?_
 · simp +decide only [bne_self_eq_false, hpK, hz1000, hz1001, hz1002, hz1003, za, zC, zb, zo, go_sem, reduceAdd, reduceMul]
 simp +decide only [bne_self_eq_false, hpK, hz1000, hz1001, hz1002, hz1003, za, zC, zb, zo, go_sem, reduceAdd, reduceMul]
 obtain ⟨q, hq⟩ : ∃ q : Int, q = 1 + (sumN yB p.nodes : Nat) + (sumN fnN p.fns : Nat) := ⟨_, rfl⟩
 rw [<- hq]
 have hk0 : (q < 0) = False := by simp; omega
 refine Tri.step zf ?_
 simp +decide only [bne_self_eq_false, hk0, hpK, hz1000, hz1001, hz1002, hz1003, za, zC, zb, zo, go_sem, reduceAdd, reduceMul]
 refine yT (Zi Q hcQ) hp3 ?_
 simp +decide only [bne_self_eq_false, hpK, hz1000, hz1001, hz1002, hz1003, za, zC, zb, zo, go_sem, reduceAdd, reduceMul]
 refine Tri.step zf ?_
 simp +decide only [bne_self_eq_false, hpK, hz1000, hz1001, hz1002, hz1003, za, zC, zb, zo, go_sem, reduceAdd, reduceMul]
 refine Tri.step zf ?_
 simp +decide only [bne_self_eq_false, hpK, hz1000, hz1001, hz1002, hz1003, za, zC, zb, zo, go_sem, reduceAdd, reduceMul]
 refine ZQ (YA Q (1) (by omega) (by omega)) hp3 [(2000, 1002), (2001, 1003)] ⟨rfl, rfl, rfl⟩ (fun uf => ⟨rfl, rfl⟩) (fun uf => ?_) ?_
 · simp +decide only [bne_self_eq_false, hpK, hz1000, hz1001, hz1002, hz1003, za, zC, zb, zo, go_sem, reduceAdd, reduceMul]
 simp +decide only [bne_self_eq_false, hpK, hz1000, hz1001, hz1002, hz1003, za, zC, zb, zo, go_sem, reduceAdd, reduceMul]
 have hhe := zbV Q 1 (by omega) (by omega)
 obtain ⟨M1, hM1⟩ : ∃ M1, M1 = yD 1 Q.nodes := ⟨_, rfl⟩
 obtain ⟨M2, hM2⟩ : ∃ M2, M2 = fnML (1 + (sumN yB Q.nodes : Nat)) Q.fns := ⟨_, rfl⟩
 rw [<- hM1, <- hM2] at hhe |-
 refine Tri.step zf ?_
 simp +decide only [bne_self_eq_false, hpK, hz1000, hz1001, hz1002, hz1003, za, zC, zb, zo, go_sem, reduceAdd, reduceMul]
 refine Tri.step zf ?_
 simp +decide only [bne_self_eq_false, hpK, hz1000, hz1001, hz1002, hz1003, za, zC, zb, zo, go_sem, reduceAdd, reduceMul]
 refine yT hhe hp3 ?_
 simp +decide only [bne_self_eq_false, hpK, hz1000, hz1001, hz1002, hz1003, za, zC, zb, zo, go_sem, reduceAdd, reduceMul]
 obtain ⟨q2, hq2'⟩ : ∃ q : Int, q = 1 + (sumN yB Q.nodes : Nat) + (sumN fnN Q.fns : Nat) := ⟨_, rfl⟩
 rw [<- hq2'] at hhe |-
 have hk2 : (q2 < 0) = False := by simp; omega
 refine Tri.step zf ?_
 simp +decide only [bne_self_eq_false, hk2, hpK, hz1000, hz1001, hz1002, hz1003, za, zC, zb, zo, go_sem, reduceAdd, reduceMul]
 refine Tri.step zf ?_
 simp +decide only [bne_self_eq_false, hpK, hz1000, hz1001, hz1002, hz1003, za, zC, zb, zo, go_sem, reduceAdd, reduceMul]
 refine Tri.step zf ?_
 simp +decide only [bne_self_eq_false, hpK, hz1000, hz1001, hz1002, hz1003, za, zC, zb, zo, go_sem, reduceAdd, reduceMul]
 refine yT (Zb p hcp) hp3 ?_
 simp +decide only [bne_self_eq_false, hpK, hz1000, hz1001, hz1002, hz1003, za, zC, zb, zo, go_sem, reduceAdd, reduceMul]
 refine yT hsI hp3 ?_
 simp +decide only [bne_self_eq_false, hpK, hz1000, hz1001, hz1002, hz1003, za, zC, zb, zo, go_sem, reduceAdd, reduceMul]
 refine Tri.ent ?_ (Ent.frb hfullK 16)
 refine Tri.step zf ?_
 simp +decide only [bne_self_eq_false, hpK, hz1000, hz1001, hz1002, hz1003, za, zC, zb, zo, go_sem, reduceAdd, reduceMul]
 refine yT (Zi Q hcQ) hp3 ?_
 simp +decide only [bne_self_eq_false, hpK, hz1000, hz1001, hz1002, hz1003, za, zC, zb, zo, go_sem, reduceAdd, reduceMul]
 refine Tri.step zf ?_
 simp +decide only [bne_self_eq_false, hpK, hz1000, hz1001, hz1002, hz1003, za, zC, zb, zo, go_sem, reduceAdd, reduceMul]
 refine Tri.step zf ?_
 simp +decide only [bne_self_eq_false, hpK, hz1000, hz1001, hz1002, hz1003, za, zC, zb, zo, go_sem, reduceAdd, reduceMul]
 refine yT hhe hp3 ?_
 simp +decide only [bne_self_eq_false, hpK, hz1000, hz1001, hz1002, hz1003, za, zC, zb, zo, go_sem, reduceAdd, reduceMul]
 refine Tri.step zf ?_
 simp +decide only [bne_self_eq_false, hk2, hpK, hz1000, hz1001, hz1002, hz1003, za, zC, zb, zo, go_sem, reduceAdd, reduceMul]
 refine ze zf _ ?_
 simp +decide only [bne_self_eq_false, hpK, hz1000, hz1001, hz1002, hz1003, za, zC, zb, zo, go_sem, reduceAdd, reduceMul]
end Go.Proofs.YtjjigphfjclofaaGreatDoor.AW
namespace Go.Proofs.YtjjigphfjclofaaGreatDoor.fnExactInlineCall
open Go.ChangeShapes Go.WideShapes Go.ChangeAt Go.RowKit
open Go.Proofs.YtjjigphfjclofaaGreatDoor.AW
open Go.Shelf Go.Lib
open Go.ChangeMaps (open_string shut_string)
set_option linter.unusedVariables false
set_option maxRecDepth 100000
theorem own : ownKnob Tryz.prog.godebug = none := by kernel_rfl
theorem laid : laidOutB Tryz.prog = true := by kernel_rfl
noncomputable def zbj (os : Os) : World :=
 let w0 := World.holding Tryz.prog os ⟨#[], #[], []⟩
 let put (h : Array Obj) (g : Nat) (cs : Array Value) : Array Obj := h.modify g fun
   | .cells _ t frozen => .cells cs t frozen
   | o => o
 let h1 := put w0.heap 1 (Lib.firstTab.map fun z => Value.int .u8 z).toArray
 let h2 := put h1 2 ((List.range 16).flatMap fun i => [Value.int .u8 (Lib.accLo i), Value.int .u8 (Lib.accHi i)]).toArray
 { w0 with heap := h2 }
theorem znL (os : Os) (args : Array Value) : laidMet Tryz.prog Rows.fnExactInlineCallRow.laid ((zbj os).forCall (fun _ _ => 0) ⟨#[], args, []⟩).memory :=
 (LaidIn.of_run (l := [("unicode/utf8.acceptRanges", Rows.laid_unicode_utf8_acceptRanges), ("unicode/utf8.first", Rows.laid_unicode_utf8_first)]) [2, 1] 8 (by kernel_rfl) (by kernel_rfl) (by kernel_rfl) (by kernel_rfl)).met
theorem zin (os : Os) {H : Type} (enc : TypeId × Value -> H) :
   (OpenSpec.ofChange Rows.fnExactInlineCallSpec).preRow enc Tryz.prog Tryz.f7 Rows.fnExactInlineCallRow.domain false Rows.fnExactInlineCallRow.laid ((zbj os).forCall (fun _ _ => 0) ⟨#[], #[.agg #[.slice none 0 0, .slice none 0 0], .int .i64 0, .int .i64 0], []⟩).memory #[.agg #[.slice none 0 0, .slice none 0 0], .int .i64 0, .int .i64 0] := by
 have hw : (DataW.whole enc Tryz.prog ((zbj os).forCall (fun _ _ => 0) ⟨#[], #[.agg #[.slice none 0 0, .slice none 0 0], .int .i64 0, .int .i64 0], []⟩).memory Tryz.f7.params.toList (OpenSpec.ofChange Rows.fnExactInlineCallSpec).vars false #[.agg #[.slice none 0 0, .slice none 0 0], .int .i64 0, .int .i64 0].toList 8).map (fun x => (x.1, x.2.1)) =
     some ([.agg [.nil, .nil], .lit (.int .i64 0), .lit (.int .i64 0)], []) := by kernel_rfl
 obtain ⟨⟨x1, x2, x3⟩, hx, hx1⟩ := Option.map_eq_some_iff.1 hw
 simp only [Prod.mk.injEq] at hx1
 obtain ⟨rfl, rfl⟩ := hx1
 exact OpenSpec.preRow_of_cond 8 hx (by kernel_rfl) (fun k hk => by cases hk) (by kernel_rfl) (znL os _)
theorem zqj (os : Os) (started : os.Started) (H : Type) (enc : TypeId × Value -> H) (F : Stop.Interp) :
   ReturnsInHanded {} Tryz.checked os 7 .any ((OpenSpec.ofChange Rows.fnExactInlineCallSpec).preRow enc Tryz.prog Tryz.f7 Rows.fnExactInlineCallRow.domain false Rows.fnExactInlineCallRow.laid) (((OpenSpec.ofChange Rows.fnExactInlineCallSpec).at F).post enc Tryz.prog Tryz.f7 false true false false) := by
 refine returnsInHanded_of_row (C := Tryz.checked) (s := OpenSpec.ofChange Rows.fnExactInlineCallSpec) own started (by kernel_rfl) Tryz.func7
   (witness_row_atRef (enc := enc) (C := Tryz.checked) false (zbj os) #[.agg #[.slice none 0 0, .slice none 0 0], .int .i64 0, .int .i64 0] rfl (by kernel_rfl) (by kernel_rfl) (by kernel_rfl) (zin os enc)) ?_
 intro W base args ds gs before hval0 hW hcnd _ hsz0 _ _ _
 have hsz : (DataW.weightsEach Tryz.prog (Tryz.f7.params.toList ++ (OpenSpec.ofChange Rows.fnExactInlineCallSpec).bare.plain.varTypes Tryz.prog) (ds ++ gs)).all (· <= reachBytes) = true := hsz0
 have hval : ∀ (j : Nat) t v, Tryz.f7.params[j]? = some t -> args[j]? = some v -> Value.okWide Tryz.prog W .any base t v := hval0
 have hW' := hW
 obtain ⟨p, q, hA0, hV, rfl, hfz, hnd⟩ := hW
 have hA : DataW.TrodAll enc Tryz.prog W 0 (fun _ => true) true Tryz.f7.params.toList args.toList ds p := hA0
 rw [Tryz.params7] at hA hval hsz
 obtain ⟨v0, vs0, d0, ds0, p0, q0, hargs, rfl, rfl, h0, r0⟩ := trodAll_cons hA
 obtain ⟨v1, vs1, d1, ds1, p1, q1, rfl, rfl, rfl, h1, r1⟩ := trodAll_cons r0
 obtain ⟨v2, vs2, d2, ds2, p2, q2, rfl, rfl, rfl, h2, r2⟩ := trodAll_cons r1
 obtain ⟨rfl, rfl, rfl⟩ := trodAll_nil r2
 obtain rfl : args = #[v0, v1, v2] := by cases args; simp_all
 obtain ⟨rfl, rfl⟩ := trodVars_none hV
 have hlt0 : ∀ x ∈ p0, x.block < W.heap.size := fun x hx => by have := hW'.lt x (by simp only [List.mem_append]; exact Or.inl (Or.inl hx)); simpa using this
 have hlt1 : ∀ x ∈ p1, x.block < W.heap.size := fun x hx => by have := hW'.lt x (by simp only [List.mem_append]; exact Or.inl (Or.inr (Or.inl hx))); simpa using this
 have hlt2 : ∀ x ∈ p2, x.block < W.heap.size := fun x hx => by have := hW'.lt x (by simp only [List.mem_append]; exact Or.inl (Or.inr (Or.inr (Or.inl hx)))); simpa using this
 obtain ⟨y0, hk0, ok0⟩ := zdz znE h0 (ZR hsz (j := 0) rfl rfl)
 have hv0 := zpF Tryz.underlying25 (hval 0 25 v0 rfl rfl) hk0 (zho y0)
 obtain ⟨y1, hk1, ok1⟩ := zdz oInt h1 (ZR hsz (j := 1) rfl rfl)
 have hv1 := zmX hk1 (zmd Tryz.underlying3 (Or.inr (Or.inr (Or.inl ⟨_, rfl⟩))) (hval 1 3 v1 rfl rfl)) rfl
 obtain ⟨y2, hk2, ok2⟩ := zdz oInt h2 (ZR hsz (j := 2) rfl rfl)
 have hv2 := zmX hk2 (zmd Tryz.underlying3 (Or.inr (Or.inr (Or.inl ⟨_, rfl⟩))) (hval 2 3 v2 rfl rfl)) rfl
 clear hA0 hval0 hsz0 hsz
 refine (zeP (ts := [zC y0, .sc (.int .i64 y1), .sc (.int .i64 y2)]) (zmq y0 y1 y2 (zdm y0 ok0)) rfl (fun i t hi => ?_)).mono fun e W' ⟨he, bel⟩ => ?_
 · match i, hi with
   | 0, hi => cases hi; exact hv0
   | 1, hi => cases hi; exact hv1
   | 2, hi => cases hi; exact hv2
 subst he
 exact ⟨_, rfl, _, _, _, _, _, [], hW', trodAll_mk1 (shut_bool Tryz.underlying4 _), (trodAll_cons_mk (zdQ laid (by kernel_rfl) (of_decide_eq_true (by kernel_rfl)) h0 bel hlt0) (trodAll_cons_mk (zdQ laid (by kernel_rfl) (of_decide_eq_true (by kernel_rfl)) h1 bel hlt1) (trodAll_cons_mk (zdQ laid (by kernel_rfl) (of_decide_eq_true (by kernel_rfl)) h2 bel hlt2) trodAll_mk0))), rfl, znM bel _, fun h => by cases h⟩
theorem over : Rows.fnExactInlineCallRow.holds Tryz.pinned (OpenSpec.ofChange Rows.fnExactInlineCallSpec) :=
 OpenClaim.holds_of_cond 7 Tryz.f7 rfl rfl rfl rfl rfl rfl rfl ⟨rfl, rfl, rfl, rfl, rfl⟩ rfl rfl rfl rfl rfl (by kernel_rfl) Tryz.func7 (by kernel_rfl)
   (of_decide_eq_true (by kernel_rfl)) (by unfold Func.isWrapper; first | (rw [if_pos (by decide +kernel)]; kernel_rfl) | (rw [if_neg (by decide +kernel)]; exact ⟨rfl, rfl⟩))
   (fun os started H enc _ F0 => by rw [OpenClaim.pre_eq_preRow]; exact zqj os started H enc F0)
end Go.Proofs.YtjjigphfjclofaaGreatDoor.fnExactInlineCall
namespace Go.Proofs.YtjjigphfjclofaaGreatDoor
theorem fnExactInlineCall_card : Rows.FnExactInlineCallCardSaid :=
 Claim7.holds_tied_plain_at .later [] [.data, .pinned] true (true, "b030ab10bdf0fa3b43fde3c962dfcb6ef00d5d5018f7df2b571f7c2387c843d1") false
   fnExactInlineCall.over (fun _ h => by cases h) (by kernel_rfl) (fun _ h => by cases h) fnExactInlineCall_row_tie rfl ⟨rfl, rfl⟩ (by kernel_rfl) rfl
   (fun f fn hf hfn => by
     obtain rfl : f = 7 := Option.some.inj ((show Tryz.prog.funcNamed "loop.example/g00423/laws.FnExactInlineCall" = some 7 by kernel_rfl).symm.trans hf) |>.symm
     obtain rfl : fn = Tryz.f7 := (Option.some.inj (Tryz.func7.symm.trans hfn)).symm
     exact ⟨by kernel_rfl, fun j t ht => by
       rw [Tryz.params7] at ht
       have h3 : t = 25 \/ t = 3 \/ t = 3 := by
         rcases j with _ | _ | _ | j
         · left; simpa using ht.symm
         · right; left; simpa using ht.symm
         · right; right; simpa using ht.symm
         · simp at ht
       rcases h3 with rfl | rfl | rfl
       · exact (show Tryz.prog.wantsStandIn 25 = false by kernel_rfl)
       · exact (show Tryz.prog.wantsStandIn 3 = false by kernel_rfl)
       · exact (show Tryz.prog.wantsStandIn 3 = false by kernel_rfl)⟩)
   (by kernel_rfl)
end Go.Proofs.YtjjigphfjclofaaGreatDoor
