/- FnExactExtractFn answers true for every input, and its arguments read behind the call as they read before. No condition beyond the row's own. -/
import Derived.Test.YtjjigphfjclofaaGreatDoorLx9
import Derived.Test.YtjjigphfjclofaaGreatDoorRows
import Derived.Test.YtjjigphfjclofaaGreatDoorCards
import Derived.Test.YtjjigphfjclofaaGreatDoorTie
import Derived.WalkKit
import Derived.ProofKit
import Derived.ShutString
import Derived.Carry
import Derived.Lib.LaidIn
import Derived.Lib.LaidU8
import Derived.Deep.DeepHandedRow
import Derived.Deep.DeepWitnessRowRef
import Derived.SevenTiedAt
namespace Go.Proofs.YtjjigphfjclofaaGreatDoor.AW
open Go.RowKit
open Nat renaming reduceAdd → aD, reduceMul → mU
open Int renaming natCast_nonneg → iN
open Bool renaming false_eq_true → bF, false_or → bO, true_or → bT, or_false → bP
open List renaming getElem_mem → lM, getElem?_eq_getElem → lE
open Option renaming getD_some → oD, map_eq_some_iff → oM
set_option maxHeartbeats 8000000
set_option maxRecDepth 100000
set_option linter.unusedSimpArgs false
set_option linter.unusedVariables false
theorem zne (p : ProgramD) (fn : Int) (b : Int) (i : Int) (j : Int) (name : ByteArray) (hsp : Yw p) : zx Tryz.prog 8 [.ro (zE p), .ro (.sc (.int .i64 fn)), .ro (.sc (.int .i64 b)), .ro (.sc (.int .i64 i)), .ro (.sc (.int .i64 j)), .ro (.sc (.string name))] (fun rs st => rs = [(false, [cB true])]) := by
 refine zp (fn := Tryz.f8) (c := Tryz.f8.body.getD .skip) (res := [.tm 12]) (n := 124) ze (by kernel_rfl) (by rfl) (by kernel_rfl) (by rfl) (by rfl) (by simp [zu]) (fun uf ub C hpin hpin2 hfull => ?_)
 simp only [Tryz.f8, oD]
 refine Tri.step ze ?_
 simp +decide only [bne_self_eq_false, za, zE, zb, zt, hpin, go_sem, aD, mU]
 refine Tri.ent ?_ (Ent.frb hfull 6)
 by_cases hz_name : 1048576 < name.size
 · have e1 : ((1048576 : Int) < (name.size : Int)) = True := by simp; omega
   refine Tri.step ze ?_
   simp +decide only [e1, za, zE, zb, hpin, go_sem, aD, mU]
 have ez_name : ((1048576 : Int) < (name.size : Int)) = False := by simp; omega
 refine Tri.step ze ?_
 simp +decide only [ez_name, za, zE, zb, hpin, go_sem, aD, mU]
 refine Tri.step ze ?_
 simp +decide only [bne_self_eq_false, za, zE, zb, zt, hpin, go_sem, aD, mU]
 refine Tri.step ze ?_
 simp +decide only [bne_self_eq_false, za, zE, zb, zt, hpin, go_sem, aD, mU]
 refine zd (zdz p (1048576) (by decide) (by decide) hsp) hpin ?_
 by_cases h0_ : (1048576 : Int) - ((zF p : Nat) : Int) < 0
 · rw [yQ h0_]
   simp +decide only [bne_self_eq_false, za, zE, zb, zt, hpin, go_sem, aD, mU]
   refine zf ze _ ?_
   simp +decide only [bne_self_eq_false, za, zE, zb, zt, hpin, go_sem, aD, mU]
 rw [xZ h0_]
 have n0_ : ((1048576 : Int) - ((zF p : Nat) : Int) < 0) = False := by simpa using h0_
 simp +decide only [n0_, za, zE, zb, hpin, go_sem, aD, mU]
 refine Tri.step ze ?_
 simp +decide only [n0_, za, zE, zb, hpin, go_sem, aD, mU]
 have hcp : zF p <= 1048576 := by omega
 obtain ⟨k1, k2⟩ := zhX hcp
 have k0 : p.fns.length <= 1048576 := by unfold zF at hcp; omega
 have k3 := zfi hcp
 have hm1 := zce p.nodes
 have hm2 := zhb p.fns
 have hm3 : sumN zC p.nodes <= 1048576 /\ sumN ya p.fns <= 1048576 := by unfold zF at hcp; omega
 have hcQ := zpf p fn b i j name hcp
 have hsS := zcT p fn b i j name k0 k1 k2 k3
 have hsI := zcU p fn b i j name k0 k1 k2 k3
 generalize xfPr p fn b i j name = Q at hcQ hsS hsI
 generalize yU p fn b i j name = cd at hsS hsI
 have hq1 := zce Q.nodes
 have hq2 := zhb Q.fns
 have hq3 : Q.nodes.length <= 1048576 /\ Q.fns.length <= 1048576 /\ sumN zC Q.nodes <= 1048576 /\ sumN ya Q.fns <= 1048576 := by unfold zF at hcQ; omega
 refine Tri.step ze ?_
 simp +decide only [bne_self_eq_false, hpin, za, zE, zb, zt, go_sem, aD, mU]
 refine zd (Zk p hcp) hpin ?_
 simp +decide only [bne_self_eq_false, hpin, za, zE, zb, zt, go_sem, aD, mU]
 refine zd hsS hpin ?_
 simp +decide only [bne_self_eq_false, hpin, za, zE, zb, zt, go_sem, aD, mU]
 refine Tri.ent ?_ (Ent.frb hfull 14)
 refine Tri.step ze ?_
 simp +decide only [bne_self_eq_false, hpin, za, zE, zb, zt, go_sem, aD, mU]
 refine zd (Zk p hcp) hpin ?_
 simp +decide only [bne_self_eq_false, hpin, za, zE, zb, zt, go_sem, aD, mU]
 refine Tri.outN [] (x := .box [.row false 83 (rows (zg false) (p.nodes)), .row false 104 (rows (fnC false) (p.fns))]) (e := 83) (es := rows (zg false) (p.nodes)) 16 [(0, 0)] 1000 (by rfl) (by rfl) (by simp) (by rfl) (by rfl) (by decide) (zrX hpin) (pin3 hpin) hfull (fun z1000 C1000 hz1000 ho1000 hpK1000 hp31000 hfull1000 => ?_)
 have hpK := hpK1000
 have hp3 := hp31000
 have hfullK := hfull1000
 refine Tri.outN [1000] (x := .box [.sc z1000, .row false 104 (rows (fnC false) (p.fns))]) (e := 104) (es := rows (fnC false) (p.fns)) 16 [(0, 1)] 1001 (by rfl) (by rfl) (by simp) (by rfl) (by rfl) (by decide) hpK hp3 hfullK (fun z1001 C1001 hz1001 ho1001 hpK1001 hp31001 hfull1001 => ?_)
 have hz1000 : C1001.pin 1000 = some (z1000, 0, 0) := (ho1001 1000 (by decide)).trans hz1000
 have hpK := hpK1001
 have hp3 := hp31001
 have hfullK := hfull1001
 refine Tri.ent ?_ (Ent.frb hfullK 16)
 refine Tri.step ze ?_
 simp +decide only [bne_self_eq_false, hpK, hz1000, hz1001, za, zE, zb, zt, go_sem, aD, mU]
 refine yX hsI hp3 ?_
 simp +decide only [bne_self_eq_false, hpK, hz1000, hz1001, za, zE, zb, zt, go_sem, aD, mU]
 refine Tri.outN [1001, 1000] (x := .box [.row false 83 (rows (zg false) (Q.nodes)), .row false 104 (rows (fnC false) (Q.fns))]) (e := 83) (es := rows (zg false) (Q.nodes)) 17 [(0, 0)] 1002 (by rfl) (by rfl) (by simp) (by rfl) (by rfl) (by decide) hpK hp3 hfullK (fun z1002 C1002 hz1002 ho1002 hpK1002 hp31002 hfull1002 => ?_)
 have hz1000 : C1002.pin 1000 = some (z1000, 0, 0) := (ho1002 1000 (by decide)).trans hz1000
 have hz1001 : C1002.pin 1001 = some (z1001, 0, 0) := (ho1002 1001 (by decide)).trans hz1001
 have hpK := hpK1002
 have hp3 := hp31002
 have hfullK := hfull1002
 refine Tri.outN [1002, 1001, 1000] (x := .box [.sc z1002, .row false 104 (rows (fnC false) (Q.fns))]) (e := 104) (es := rows (fnC false) (Q.fns)) 17 [(0, 1)] 1003 (by rfl) (by rfl) (by simp) (by rfl) (by rfl) (by decide) hpK hp3 hfullK (fun z1003 C1003 hz1003 ho1003 hpK1003 hp31003 hfull1003 => ?_)
 have hz1000 : C1003.pin 1000 = some (z1000, 0, 0) := (ho1003 1000 (by decide)).trans hz1000
 have hz1001 : C1003.pin 1001 = some (z1001, 0, 0) := (ho1003 1001 (by decide)).trans hz1001
 have hz1002 : C1003.pin 1002 = some (z1002, 0, 0) := (ho1003 1002 (by decide)).trans hz1002
 have hpK := hpK1003
 have hp3 := hp31003
 have hfullK := hfull1003
 refine Tri.ent ?_ (Ent.frb hfullK 17)
 refine Tri.step ze ?_
 simp +decide only [bne_self_eq_false, hpK, hz1000, hz1001, hz1002, hz1003, za, zE, zb, zt, go_sem, aD, mU]
 refine yX (Zq Q hcQ) hp3 ?_
 simp +decide only [bne_self_eq_false, hpK, hz1000, hz1001, hz1002, hz1003, za, zE, zb, zt, go_sem, aD, mU]
 refine Tri.step ze ?_
 simp +decide only [bne_self_eq_false, hpK, hz1000, hz1001, hz1002, hz1003, za, zE, zb, zt, go_sem, aD, mU]
 refine Tri.sched ze [(0, true), (1, false), (2, false), (3, false), (4, false)] zO (by kernel_rfl) (fun CX hCX => ?_)
 have hpX : ∀ o, zbF [1003, 1002, 1001, 1000] o = false -> CX.pin o = none := by rw [hCX]; exact hpK
 have hpX3 : ∀ n, 3000 <= n -> CX.pin n = none := by rw [hCX]; exact hp3
 have hzX1000 : CX.pin 1000 = some (z1000, 0, 0) := by rw [hCX]; exact hz1000
 have hzX1001 : CX.pin 1001 = some (z1001, 0, 0) := by rw [hCX]; exact hz1001
 have hzX1002 : CX.pin 1002 = some (z1002, 0, 0) := by rw [hCX]; exact hz1002
 have hzX1003 : CX.pin 1003 = some (z1003, 0, 0) := by rw [hCX]; exact hz1003
 simp +decide only [bne_self_eq_false, hpX, hzX1000, hzX1001, hzX1002, hzX1003, za, zE, zb, zt, go_sem, aD, mU]
 refine yX (Zk p hcp) hpX3 ?_
 simp +decide only [bne_self_eq_false, hpX, hzX1000, hzX1001, hzX1002, hzX1003, za, zE, zb, zt, go_sem, aD, mU]
 refine yX (Zq p hcp) hpX3 ?_
 simp +decide only [bne_self_eq_false, hpX, hzX1000, hzX1001, hzX1002, hzX1003, za, zE, zb, zt, go_sem, aD, mU]
 refine Tri.step ze ?_
 simp +decide only [bne_self_eq_false, hpK, hz1000, hz1001, hz1002, hz1003, za, zE, zb, zt, go_sem, aD, mU]
 refine Tri.step ze ?_
 simp +decide only [bne_self_eq_false, hpK, hz1000, hz1001, hz1002, hz1003, za, zE, zb, zt, go_sem, aD, mU]
 refine Yc (Xa p (1) (by omega) (by omega)) hp3 [(2000, 1000), (2001, 1001)] ⟨rfl, rfl, rfl⟩ (fun uf => ⟨rfl, rfl⟩) (fun uf => ?_) ?_
 · simp +decide only [bne_self_eq_false, hpK, hz1000, hz1001, hz1002, hz1003, za, zE, zb, zt, go_sem, aD, mU]
 simp +decide only [bne_self_eq_false, hpK, hz1000, hz1001, hz1002, hz1003, za, zE, zb, zt, go_sem, aD, mU]
 obtain ⟨q, hq⟩ : ∃ q : Int, q = 1 + (sumN yF p.nodes : Nat) + (sumN fnN p.fns : Nat) := ⟨_, rfl⟩
 rw [<- hq]
 have hk0 : (q < 0) = False := by simp; omega
 refine Tri.step ze ?_
 simp +decide only [bne_self_eq_false, hk0, hpK, hz1000, hz1001, hz1002, hz1003, za, zE, zb, zt, go_sem, aD, mU]
 refine yX (Zq Q hcQ) hp3 ?_
 simp +decide only [bne_self_eq_false, hpK, hz1000, hz1001, hz1002, hz1003, za, zE, zb, zt, go_sem, aD, mU]
 refine Tri.step ze ?_
 simp +decide only [bne_self_eq_false, hpK, hz1000, hz1001, hz1002, hz1003, za, zE, zb, zt, go_sem, aD, mU]
 refine Tri.step ze ?_
 simp +decide only [bne_self_eq_false, hpK, hz1000, hz1001, hz1002, hz1003, za, zE, zb, zt, go_sem, aD, mU]
 refine Yc (Xa Q (1) (by omega) (by omega)) hp3 [(2000, 1002), (2001, 1003)] ⟨rfl, rfl, rfl⟩ (fun uf => ⟨rfl, rfl⟩) (fun uf => ?_) ?_
 · simp +decide only [bne_self_eq_false, hpK, hz1000, hz1001, hz1002, hz1003, za, zE, zb, zt, go_sem, aD, mU]
 simp +decide only [bne_self_eq_false, hpK, hz1000, hz1001, hz1002, hz1003, za, zE, zb, zt, go_sem, aD, mU]
 have hhe := zcl Q 1 (by omega) (by omega)
 obtain ⟨M1, hM1⟩ : ∃ M1, M1 = yI 1 Q.nodes := ⟨_, rfl⟩
 obtain ⟨M2, hM2⟩ : ∃ M2, M2 = fnML (1 + (sumN yF Q.nodes : Nat)) Q.fns := ⟨_, rfl⟩
 rw [<- hM1, <- hM2] at hhe |-
 refine Tri.step ze ?_
 simp +decide only [bne_self_eq_false, hpK, hz1000, hz1001, hz1002, hz1003, za, zE, zb, zt, go_sem, aD, mU]
 refine Tri.step ze ?_
 simp +decide only [bne_self_eq_false, hpK, hz1000, hz1001, hz1002, hz1003, za, zE, zb, zt, go_sem, aD, mU]
 refine yX hhe hp3 ?_
 simp +decide only [bne_self_eq_false, hpK, hz1000, hz1001, hz1002, hz1003, za, zE, zb, zt, go_sem, aD, mU]
 obtain ⟨q2, hq2'⟩ : ∃ q : Int, q = 1 + (sumN yF Q.nodes : Nat) + (sumN fnN Q.fns : Nat) := ⟨_, rfl⟩
 rw [<- hq2'] at hhe |-
 have hk2 : (q2 < 0) = False := by simp; omega
 refine Tri.step ze ?_
 simp +decide only [bne_self_eq_false, hk2, hpK, hz1000, hz1001, hz1002, hz1003, za, zE, zb, zt, go_sem, aD, mU]
 refine Tri.step ze ?_
 simp +decide only [bne_self_eq_false, hpK, hz1000, hz1001, hz1002, hz1003, za, zE, zb, zt, go_sem, aD, mU]
 refine Tri.step ze ?_
 simp +decide only [bne_self_eq_false, hpK, hz1000, hz1001, hz1002, hz1003, za, zE, zb, zt, go_sem, aD, mU]
 refine yX (Zk p hcp) hp3 ?_
 simp +decide only [bne_self_eq_false, hpK, hz1000, hz1001, hz1002, hz1003, za, zE, zb, zt, go_sem, aD, mU]
 refine yX hsI hp3 ?_
 simp +decide only [bne_self_eq_false, hpK, hz1000, hz1001, hz1002, hz1003, za, zE, zb, zt, go_sem, aD, mU]
 refine Tri.ent ?_ (Ent.frb hfullK 22)
 refine Tri.step ze ?_
 simp +decide only [bne_self_eq_false, hpK, hz1000, hz1001, hz1002, hz1003, za, zE, zb, zt, go_sem, aD, mU]
 refine yX (Zq Q hcQ) hp3 ?_
 simp +decide only [bne_self_eq_false, hpK, hz1000, hz1001, hz1002, hz1003, za, zE, zb, zt, go_sem, aD, mU]
 refine Tri.step ze ?_
 simp +decide only [bne_self_eq_false, hpK, hz1000, hz1001, hz1002, hz1003, za, zE, zb, zt, go_sem, aD, mU]
 refine Tri.step ze ?_
 simp +decide only [bne_self_eq_false, hpK, hz1000, hz1001, hz1002, hz1003, za, zE, zb, zt, go_sem, aD, mU]
 refine yX hhe hp3 ?_
 simp +decide only [bne_self_eq_false, hpK, hz1000, hz1001, hz1002, hz1003, za, zE, zb, zt, go_sem, aD, mU]
 refine Tri.step ze ?_
 simp +decide only [bne_self_eq_false, hk2, hpK, hz1000, hz1001, hz1002, hz1003, za, zE, zb, zt, go_sem, aD, mU]
 refine zf ze _ ?_
 simp +decide only [bne_self_eq_false, hpK, hz1000, hz1001, hz1002, hz1003, za, zE, zb, zt, go_sem, aD, mU]
end Go.Proofs.YtjjigphfjclofaaGreatDoor.AW
namespace Go.Proofs.YtjjigphfjclofaaGreatDoor.fnExactExtractFn
open Go.ChangeShapes Go.WideShapes Go.ChangeAt Go.RowKit
open Go.Proofs.YtjjigphfjclofaaGreatDoor.AW
open Go.Shelf Go.Lib
open Go.ChangeMaps (open_string shut_string)
set_option linter.unusedVariables false
set_option maxRecDepth 100000
theorem own : ownKnob Tryz.prog.godebug = none := by kernel_rfl
theorem laid : laidOutB Tryz.prog = true := by kernel_rfl
noncomputable def zbC (os : Os) : World :=
 let w0 := World.holding Tryz.prog os ⟨#[], #[], []⟩
 let put (h : Array Obj) (g : Nat) (cs : Array Value) : Array Obj := h.modify g fun
  | .cells _ t frozen => .cells cs t frozen
  | o => o
 let h1 := put w0.heap 1 (Lib.firstTab.map fun z => Value.int .u8 z).toArray
 let h2 := put h1 2 ((List.range 16).flatMap fun i => [Value.int .u8 (Lib.accLo i), Value.int .u8 (Lib.accHi i)]).toArray
 { w0 with heap := h2 }
theorem zoq (os : Os) (args : Array Value) : laidMet Tryz.prog Rows.fnExactExtractFnRow.laid ((zbC os).forCall (fun _ _ => 0) ⟨#[], args, []⟩).memory :=
 (LaidIn.of_run (l := [("unicode/utf8.acceptRanges", Rows.laid_unicode_utf8_acceptRanges), ("unicode/utf8.first", Rows.laid_unicode_utf8_first)]) [2, 1] 8 (by kernel_rfl) (by kernel_rfl) (by kernel_rfl) (by kernel_rfl)).met
theorem zjg (os : Os) {H : Type} (enc : TypeId × Value -> H) :
 (OpenSpec.ofChange Rows.fnExactExtractFnSpec).preRow enc Tryz.prog Tryz.f8 Rows.fnExactExtractFnRow.domain false Rows.fnExactExtractFnRow.laid ((zbC os).forCall (fun _ _ => 0) ⟨#[], #[.agg #[.slice none 0 0, .slice none 0 0], .int .i64 0, .int .i64 0, .int .i64 0, .int .i64 0, .string ⟨#[]⟩], []⟩).memory #[.agg #[.slice none 0 0, .slice none 0 0], .int .i64 0, .int .i64 0, .int .i64 0, .int .i64 0, .string ⟨#[]⟩] := by
 have hw : (DataW.whole enc Tryz.prog ((zbC os).forCall (fun _ _ => 0) ⟨#[], #[.agg #[.slice none 0 0, .slice none 0 0], .int .i64 0, .int .i64 0, .int .i64 0, .int .i64 0, .string ⟨#[]⟩], []⟩).memory Tryz.f8.params.toList (OpenSpec.ofChange Rows.fnExactExtractFnSpec).vars false #[.agg #[.slice none 0 0, .slice none 0 0], .int .i64 0, .int .i64 0, .int .i64 0, .int .i64 0, .string ⟨#[]⟩].toList 8).map (fun x => (x.1, x.2.1)) =
  some ([.agg [.nil, .nil], .lit (.int .i64 0), .lit (.int .i64 0), .lit (.int .i64 0), .lit (.int .i64 0), .lit (.string [])], []) := by kernel_rfl
 obtain ⟨⟨x1, x2, x3⟩, hx, hx1⟩ := Option.map_eq_some_iff.1 hw
 simp only [Prod.mk.injEq] at hx1
 obtain ⟨rfl, rfl⟩ := hx1
 exact OpenSpec.preRow_of_cond 8 hx (by kernel_rfl) (fun k hk => by cases hk) (by kernel_rfl) (zoq os _)
theorem zqU (os : Os) (started : os.Started) (H : Type) (enc : TypeId × Value -> H) (F : Stop.Interp) :
 ReturnsInHanded {} Tryz.checked os 8 .any ((OpenSpec.ofChange Rows.fnExactExtractFnSpec).preRow enc Tryz.prog Tryz.f8 Rows.fnExactExtractFnRow.domain false Rows.fnExactExtractFnRow.laid) (((OpenSpec.ofChange Rows.fnExactExtractFnSpec).at F).post enc Tryz.prog Tryz.f8 false true false false) := by
 refine returnsInHanded_of_row (C := Tryz.checked) (s := OpenSpec.ofChange Rows.fnExactExtractFnSpec) own started (by kernel_rfl) Tryz.func8
  (witness_row_atRef (enc := enc) (C := Tryz.checked) false (zbC os) #[.agg #[.slice none 0 0, .slice none 0 0], .int .i64 0, .int .i64 0, .int .i64 0, .int .i64 0, .string ⟨#[]⟩] rfl (by kernel_rfl) (by kernel_rfl) (by kernel_rfl) (zjg os enc)) ?_
 intro W base args ds gs before hval0 hW hcnd _ hsz0 _ _ _
 have hsz : (DataW.weightsEach Tryz.prog (Tryz.f8.params.toList ++ (OpenSpec.ofChange Rows.fnExactExtractFnSpec).bare.plain.varTypes Tryz.prog) (ds ++ gs)).all (· <= reachBytes) = true := hsz0
 have hval : ∀ (j : Nat) t v, Tryz.f8.params[j]? = some t -> args[j]? = some v -> Value.okWide Tryz.prog W .any base t v := hval0
 have hW' := hW
 obtain ⟨p, q, hA0, hV, rfl, hfz, hnd⟩ := hW
 have hA : DataW.TrodAll enc Tryz.prog W 0 (fun _ => true) true Tryz.f8.params.toList args.toList ds p := hA0
 rw [Tryz.params8] at hA hval hsz
 obtain ⟨v0, vs0, d0, ds0, p0, q0, hargs, rfl, rfl, h0, r0⟩ := trodAll_cons hA
 obtain ⟨v1, vs1, d1, ds1, p1, q1, rfl, rfl, rfl, h1, r1⟩ := trodAll_cons r0
 obtain ⟨v2, vs2, d2, ds2, p2, q2, rfl, rfl, rfl, h2, r2⟩ := trodAll_cons r1
 obtain ⟨v3, vs3, d3, ds3, p3, q3, rfl, rfl, rfl, h3, r3⟩ := trodAll_cons r2
 obtain ⟨v4, vs4, d4, ds4, p4, q4, rfl, rfl, rfl, h4, r4⟩ := trodAll_cons r3
 obtain ⟨v5, vs5, d5, ds5, p5, q5, rfl, rfl, rfl, h5, r5⟩ := trodAll_cons r4
 obtain ⟨rfl, rfl, rfl⟩ := trodAll_nil r5
 obtain rfl : args = #[v0, v1, v2, v3, v4, v5] := by cases args; simp_all
 obtain ⟨rfl, rfl⟩ := trodVars_none hV
 have hlt0 : ∀ x ∈ p0, x.block < W.heap.size := fun x hx => by have := hW'.lt x (by simp only [List.mem_append]; exact Or.inl (Or.inl hx)); simpa using this
 have hlt1 : ∀ x ∈ p1, x.block < W.heap.size := fun x hx => by have := hW'.lt x (by simp only [List.mem_append]; exact Or.inl (Or.inr (Or.inl hx))); simpa using this
 have hlt2 : ∀ x ∈ p2, x.block < W.heap.size := fun x hx => by have := hW'.lt x (by simp only [List.mem_append]; exact Or.inl (Or.inr (Or.inr (Or.inl hx)))); simpa using this
 have hlt3 : ∀ x ∈ p3, x.block < W.heap.size := fun x hx => by have := hW'.lt x (by simp only [List.mem_append]; exact Or.inl (Or.inr (Or.inr (Or.inr (Or.inl hx))))); simpa using this
 have hlt4 : ∀ x ∈ p4, x.block < W.heap.size := fun x hx => by have := hW'.lt x (by simp only [List.mem_append]; exact Or.inl (Or.inr (Or.inr (Or.inr (Or.inr (Or.inl hx)))))); simpa using this
 have hlt5 : ∀ x ∈ p5, x.block < W.heap.size := fun x hx => by have := hW'.lt x (by simp only [List.mem_append]; exact Or.inl (Or.inr (Or.inr (Or.inr (Or.inr (Or.inr (Or.inl hx))))))); simpa using this
 obtain ⟨y0, hk0, ok0⟩ := YV zoj h0 (yV hsz (j := 0) rfl rfl)
 have hv0 := zqn Tryz.underlying25 (hval 0 25 v0 rfl rfl) hk0 (zhY y0)
 obtain ⟨y1, hk1, ok1⟩ := YV oInt h1 (yV hsz (j := 1) rfl rfl)
 have hv1 := zeV hk1 (zeb Tryz.underlying3 (Or.inr (Or.inr (Or.inl ⟨_, rfl⟩))) (hval 1 3 v1 rfl rfl)) rfl
 obtain ⟨y2, hk2, ok2⟩ := YV oInt h2 (yV hsz (j := 2) rfl rfl)
 have hv2 := zeV hk2 (zeb Tryz.underlying3 (Or.inr (Or.inr (Or.inl ⟨_, rfl⟩))) (hval 2 3 v2 rfl rfl)) rfl
 obtain ⟨y3, hk3, ok3⟩ := YV oInt h3 (yV hsz (j := 3) rfl rfl)
 have hv3 := zeV hk3 (zeb Tryz.underlying3 (Or.inr (Or.inr (Or.inl ⟨_, rfl⟩))) (hval 3 3 v3 rfl rfl)) rfl
 obtain ⟨y4, hk4, ok4⟩ := YV oInt h4 (yV hsz (j := 4) rfl rfl)
 have hv4 := zeV hk4 (zeb Tryz.underlying3 (Or.inr (Or.inr (Or.inl ⟨_, rfl⟩))) (hval 4 3 v4 rfl rfl)) rfl
 obtain ⟨y5, hk5, ok5⟩ := YV oStr h5 (yV hsz (j := 5) rfl rfl)
 have hv5 := zeV hk5 (zeb Tryz.underlying9 (Or.inl rfl) (hval 5 9 v5 rfl rfl)) rfl
 clear hA0 hval0 hsz0 hsz
 refine (zfB (ts := [zE y0, .sc (.int .i64 y1), .sc (.int .i64 y2), .sc (.int .i64 y3), .sc (.int .i64 y4), .sc (.string y5)]) (zne y0 y1 y2 y3 y4 y5 (zdN y0 ok0)) rfl (fun i t hi => ?_)).mono fun e W' ⟨he, bel⟩ => ?_
 · match i, hi with
   | 0, hi => cases hi; exact hv0
   | 1, hi => cases hi; exact hv1
   | 2, hi => cases hi; exact hv2
   | 3, hi => cases hi; exact hv3
   | 4, hi => cases hi; exact hv4
   | 5, hi => cases hi; exact hv5
 subst he
 exact ⟨_, rfl, _, _, _, _, _, [], hW', trodAll_mk1 (shut_bool Tryz.underlying4 _), (trodAll_cons_mk (Xc laid (by kernel_rfl) (of_decide_eq_true (by kernel_rfl)) h0 bel hlt0) (trodAll_cons_mk (Xc laid (by kernel_rfl) (of_decide_eq_true (by kernel_rfl)) h1 bel hlt1) (trodAll_cons_mk (Xc laid (by kernel_rfl) (of_decide_eq_true (by kernel_rfl)) h2 bel hlt2) (trodAll_cons_mk (Xc laid (by kernel_rfl) (of_decide_eq_true (by kernel_rfl)) h3 bel hlt3) (trodAll_cons_mk (Xc laid (by kernel_rfl) (of_decide_eq_true (by kernel_rfl)) h4 bel hlt4) (trodAll_cons_mk (Xc laid (by kernel_rfl) (of_decide_eq_true (by kernel_rfl)) h5 bel hlt5) trodAll_mk0)))))), rfl, zor bel _, fun h => by cases h⟩
theorem over : Rows.fnExactExtractFnRow.holds Tryz.pinned (OpenSpec.ofChange Rows.fnExactExtractFnSpec) :=
 OpenClaim.holds_of_cond 8 Tryz.f8 rfl rfl rfl rfl rfl rfl rfl ⟨rfl, rfl, rfl, rfl, rfl⟩ rfl rfl rfl rfl rfl (by kernel_rfl) Tryz.func8 (by kernel_rfl)
  (of_decide_eq_true (by kernel_rfl)) (by unfold Func.isWrapper; first | (rw [if_pos (by decide +kernel)]; kernel_rfl) | (rw [if_neg (by decide +kernel)]; exact ⟨rfl, rfl⟩))
  (fun os started H enc _ F0 => by rw [OpenClaim.pre_eq_preRow]; exact zqU os started H enc F0)
end Go.Proofs.YtjjigphfjclofaaGreatDoor.fnExactExtractFn
namespace Go.Proofs.YtjjigphfjclofaaGreatDoor
theorem fnExactExtractFn_card : Rows.FnExactExtractFnCardSaid :=
 Claim7.holds_tied_plain_at .later [] [.data, .pinned] true (true, "b030ab10bdf0fa3b43fde3c962dfcb6ef00d5d5018f7df2b571f7c2387c843d1") false
  fnExactExtractFn.over (fun _ h => by cases h) (by kernel_rfl) (fun _ h => by cases h) fnExactExtractFn_row_tie rfl ⟨rfl, rfl⟩ (by kernel_rfl) rfl
  (fun f fn hf hfn => by
   obtain rfl : f = 8 := Option.some.inj ((show Tryz.prog.funcNamed "loop.example/g00423/laws.FnExactExtractFn" = some 8 by kernel_rfl).symm.trans hf) |>.symm
   obtain rfl : fn = Tryz.f8 := (Option.some.inj (Tryz.func8.symm.trans hfn)).symm
   exact ⟨by kernel_rfl, fun j t ht => by
    rw [Tryz.params8] at ht
    have h3 : t = 25 \/ t = 3 \/ t = 3 \/ t = 3 \/ t = 3 \/ t = 9 := by
     rcases j with _ | _ | _ | _ | _ | _ | j
     · left; simpa using ht.symm
     · right; left; simpa using ht.symm
     · right; right; left; simpa using ht.symm
     · right; right; right; left; simpa using ht.symm
     · right; right; right; right; left; simpa using ht.symm
     · right; right; right; right; right; simpa using ht.symm
     · simp at ht
    rcases h3 with rfl | rfl | rfl | rfl | rfl | rfl
    · exact (show Tryz.prog.wantsStandIn 25 = false by kernel_rfl)
    · exact (show Tryz.prog.wantsStandIn 3 = false by kernel_rfl)
    · exact (show Tryz.prog.wantsStandIn 3 = false by kernel_rfl)
    · exact (show Tryz.prog.wantsStandIn 3 = false by kernel_rfl)
    · exact (show Tryz.prog.wantsStandIn 3 = false by kernel_rfl)
    · exact (show Tryz.prog.wantsStandIn 9 = false by kernel_rfl)⟩)
  (by kernel_rfl)
end Go.Proofs.YtjjigphfjclofaaGreatDoor
