/- FnExactExtractVar answers true for every input, and its arguments read behind the call as they read before. No condition beyond the row's own. -/
import Derived.Test.YtjjigphfjclofaaGreatDoorLv9
import Derived.Test.YtjjigphfjclofaaGreatDoorRows
import Derived.Test.YtjjigphfjclofaaGreatDoorCards
import Derived.Test.YtjjigphfjclofaaGreatDoorTie
import Derived.WalkKit
import Derived.ProofKit
import Derived.ShutString
import Derived.Carry
import Derived.Lib.LaidIn
import Derived.Lib.LaidU8
import Derived.Deep.DeepHandedRow
import Derived.Deep.DeepWitnessRowRef
import Derived.SevenTiedAt
namespace Go.Proofs.YtjjigphfjclofaaGreatDoor.AW
open Go.RowKit
open Nat (reduceAdd reduceMul)
set_option maxHeartbeats 8000000
set_option maxRecDepth 100000
set_option linter.unusedSimpArgs false
set_option linter.unusedVariables false
theorem zmv (p : ProgramD) (fn : Int) (k : Int) (name : ByteArray) (hsp : Yt p) : zw Tryz.prog 5 [.ro (zD p), .ro (.sc (.int .i64 fn)), .ro (.sc (.int .i64 k)), .ro (.sc (.string name))] (fun rs st => rs = [(false, [cB true])]) := by
 refine zm (fn := Tryz.f5) (c := Tryz.f5.body.getD .skip) (res := [.tm 8]) (n := 114) zg (by kernel_rfl) (by rfl) (by kernel_rfl) (by rfl) (by rfl) (by simp [zq]) (fun uf ub C hpin hpin2 hfull => ?_)
 simp only [Tryz.f5, Option.getD_some]
 refine Tri.step zg ?_
 simp +decide only [bne_self_eq_false, za, zD, zd, zo, hpin, go_sem, reduceAdd, reduceMul]
 refine Tri.ent ?_ (Ent.frb hfull 4)
 by_cases hz_name : 1048576 < name.size
 · have e1 : ((1048576 : Int) < (name.size : Int)) = True := by simp; omega
   refine Tri.step zg ?_
   simp +decide only [e1, za, zD, zd, hpin, go_sem, reduceAdd, reduceMul]
 have ez_name : ((1048576 : Int) < (name.size : Int)) = False := by simp; omega
 refine Tri.step zg ?_
 simp +decide only [ez_name, za, zD, zd, hpin, go_sem, reduceAdd, reduceMul]
 refine Tri.step zg ?_
 simp +decide only [bne_self_eq_false, za, zD, zd, zo, hpin, go_sem, reduceAdd, reduceMul]
 refine Tri.step zg ?_
 simp +decide only [bne_self_eq_false, za, zD, zd, zo, hpin, go_sem, reduceAdd, reduceMul]
 refine ze (zdc p (1048576) (by decide) (by decide) hsp) hpin ?_
 by_cases h0_ : (1048576 : Int) - ((zG p : Nat) : Int) < 0
 · rw [yO h0_]
   simp +decide only [bne_self_eq_false, za, zD, zd, zo, hpin, go_sem, reduceAdd, reduceMul]
   refine zf zg _ ?_
   simp +decide only [bne_self_eq_false, za, zD, zd, zo, hpin, go_sem, reduceAdd, reduceMul]
 rw [xR h0_]
 have n0_ : ((1048576 : Int) - ((zG p : Nat) : Int) < 0) = False := by simpa using h0_
 simp +decide only [n0_, za, zD, zd, hpin, go_sem, reduceAdd, reduceMul]
 refine Tri.step zg ?_
 simp +decide only [n0_, za, zD, zd, hpin, go_sem, reduceAdd, reduceMul]
 have hcp : zG p <= 1048576 := by omega
 obtain ⟨k1, k2⟩ := zhp hcp
 have k0 : p.fns.length <= 1048576 := by unfold zG at hcp; omega
 have k3 := zeA hcp
 have hm1 := zbN p.nodes
 have hm2 := zgo p.fns
 have hm3 : sumN zF p.nodes <= 1048576 /\ sumN ya p.fns <= 1048576 := by unfold zG at hcp; omega
 have hcQ := zps p fn k name hcp
 have hsS := zbY p fn k name k0 k1 k2 k3
 have hsI := zbZ p fn k name k0 k1 k2 k3
 generalize exP p fn k name = Q at hcQ hsS hsI
 generalize yl p fn k name = cd at hsS hsI
 have hq1 := zbN Q.nodes
 have hq2 := zgo Q.fns
 have hq3 : Q.nodes.length <= 1048576 /\ Q.fns.length <= 1048576 /\ sumN zF Q.nodes <= 1048576 /\ sumN ya Q.fns <= 1048576 := by unfold zG at hcQ; omega
 refine Tri.step zg ?_
 simp +decide only [bne_self_eq_false, hpin, za, zD, zd, zo, go_sem, reduceAdd, reduceMul]
 refine ze (Zh p hcp) hpin ?_
 simp +decide only [bne_self_eq_false, hpin, za, zD, zd, zo, go_sem, reduceAdd, reduceMul]
 refine ze hsS hpin ?_
 simp +decide only [bne_self_eq_false, hpin, za, zD, zd, zo, go_sem, reduceAdd, reduceMul]
 refine Tri.ent ?_ (Ent.frb hfull 10)
 refine Tri.step zg ?_
 simp +decide only [bne_self_eq_false, hpin, za, zD, zd, zo, go_sem, reduceAdd, reduceMul]
 refine ze (Zh p hcp) hpin ?_
 simp +decide only [bne_self_eq_false, hpin, za, zD, zd, zo, go_sem, reduceAdd, reduceMul]
 refine Tri.outN [] (x := .box [.row false 83 (rows (zh false) (p.nodes)), .row false 104 (rows (fnC false) (p.fns))]) (e := 83) (es := rows (zh false) (p.nodes)) 12 [(0, 0)] 1000 (by rfl) (by rfl) (by simp) (by rfl) (by rfl) (by decide) (zrl hpin) (pin3 hpin) hfull (fun z1000 C1000 hz1000 ho1000 hpK1000 hp31000 hfull1000 => ?_)
 have hpK := hpK1000
 have hp3 := hp31000
 have hfullK := hfull1000
 refine Tri.outN [1000] (x := .box [.sc z1000, .row false 104 (rows (fnC false) (p.fns))]) (e := 104) (es := rows (fnC false) (p.fns)) 12 [(0, 1)] 1001 (by rfl) (by rfl) (by simp) (by rfl) (by rfl) (by decide) hpK hp3 hfullK (fun z1001 C1001 hz1001 ho1001 hpK1001 hp31001 hfull1001 => ?_)
 have hz1000 : C1001.pin 1000 = some (z1000, 0, 0) := (ho1001 1000 (by decide)).trans hz1000
 have hpK := hpK1001
 have hp3 := hp31001
 have hfullK := hfull1001
 refine Tri.ent ?_ (Ent.frb hfullK 12)
 refine Tri.step zg ?_
 simp +decide only [bne_self_eq_false, hpK, hz1000, hz1001, za, zD, zd, zo, go_sem, reduceAdd, reduceMul]
 refine yU hsI hp3 ?_
 simp +decide only [bne_self_eq_false, hpK, hz1000, hz1001, za, zD, zd, zo, go_sem, reduceAdd, reduceMul]
 refine Tri.outN [1001, 1000] (x := .box [.row false 83 (rows (zh false) (Q.nodes)), .row false 104 (rows (fnC false) (Q.fns))]) (e := 83) (es := rows (zh false) (Q.nodes)) 13 [(0, 0)] 1002 (by rfl) (by rfl) (by simp) (by rfl) (by rfl) (by decide) hpK hp3 hfullK (fun z1002 C1002 hz1002 ho1002 hpK1002 hp31002 hfull1002 => ?_)
 have hz1000 : C1002.pin 1000 = some (z1000, 0, 0) := (ho1002 1000 (by decide)).trans hz1000
 have hz1001 : C1002.pin 1001 = some (z1001, 0, 0) := (ho1002 1001 (by decide)).trans hz1001
 have hpK := hpK1002
 have hp3 := hp31002
 have hfullK := hfull1002
 refine Tri.outN [1002, 1001, 1000] (x := .box [.sc z1002, .row false 104 (rows (fnC false) (Q.fns))]) (e := 104) (es := rows (fnC false) (Q.fns)) 13 [(0, 1)] 1003 (by rfl) (by rfl) (by simp) (by rfl) (by rfl) (by decide) hpK hp3 hfullK (fun z1003 C1003 hz1003 ho1003 hpK1003 hp31003 hfull1003 => ?_)
 have hz1000 : C1003.pin 1000 = some (z1000, 0, 0) := (ho1003 1000 (by decide)).trans hz1000
 have hz1001 : C1003.pin 1001 = some (z1001, 0, 0) := (ho1003 1001 (by decide)).trans hz1001
 have hz1002 : C1003.pin 1002 = some (z1002, 0, 0) := (ho1003 1002 (by decide)).trans hz1002
 have hpK := hpK1003
 have hp3 := hp31003
 have hfullK := hfull1003
 refine Tri.ent ?_ (Ent.frb hfullK 13)
 refine Tri.step zg ?_
 simp +decide only [bne_self_eq_false, hpK, hz1000, hz1001, hz1002, hz1003, za, zD, zd, zo, go_sem, reduceAdd, reduceMul]
 refine yU (Zo Q hcQ) hp3 ?_
 simp +decide only [bne_self_eq_false, hpK, hz1000, hz1001, hz1002, hz1003, za, zD, zd, zo, go_sem, reduceAdd, reduceMul]
 refine Tri.step zg ?_
 simp +decide only [bne_self_eq_false, hpK, hz1000, hz1001, hz1002, hz1003, za, zD, zd, zo, go_sem, reduceAdd, reduceMul]
 refine Tri.sched zg [(0, true), (1, false), (2, false), (3, false), (4, false)] zT (by kernel_rfl) (fun CX hCX => ?_)
 have hpX : ∀ o, zbs [1003, 1002, 1001, 1000] o = false -> CX.pin o = none := by rw [hCX]; exact hpK
 have hpX3 : ∀ n, 3000 <= n -> CX.pin n = none := by rw [hCX]; exact hp3
 have hzX1000 : CX.pin 1000 = some (z1000, 0, 0) := by rw [hCX]; exact hz1000
 have hzX1001 : CX.pin 1001 = some (z1001, 0, 0) := by rw [hCX]; exact hz1001
 have hzX1002 : CX.pin 1002 = some (z1002, 0, 0) := by rw [hCX]; exact hz1002
 have hzX1003 : CX.pin 1003 = some (z1003, 0, 0) := by rw [hCX]; exact hz1003
 simp +decide only [bne_self_eq_false, hpX, hzX1000, hzX1001, hzX1002, hzX1003, za, zD, zd, zo, go_sem, reduceAdd, reduceMul]
 refine yU (Zh p hcp) hpX3 ?_
 simp +decide only [bne_self_eq_false, hpX, hzX1000, hzX1001, hzX1002, hzX1003, za, zD, zd, zo, go_sem, reduceAdd, reduceMul]
 refine yU (Zo p hcp) hpX3 ?_
 simp +decide only [bne_self_eq_false, hpX, hzX1000, hzX1001, hzX1002, hzX1003, za, zD, zd, zo, go_sem, reduceAdd, reduceMul]
 refine Tri.step zg ?_
 simp +decide only [bne_self_eq_false, hpK, hz1000, hz1001, hz1002, hz1003, za, zD, zd, zo, go_sem, reduceAdd, reduceMul]
 refine Tri.step zg ?_
 simp +decide only [bne_self_eq_false, hpK, hz1000, hz1001, hz1002, hz1003, za, zD, zd, zo, go_sem, reduceAdd, reduceMul]
 refine ZX (YK p (1) (by omega) (by omega)) hp3 [(2000, 1000), (2001, 1001)] ⟨rfl, rfl, rfl⟩ (fun uf => ⟨rfl, rfl⟩) (fun uf => ?_) ?_
 · simp +decide only [bne_self_eq_false, hpK, hz1000, hz1001, hz1002, hz1003, za, zD, zd, zo, go_sem, reduceAdd, reduceMul]
 simp +decide only [bne_self_eq_false, hpK, hz1000, hz1001, hz1002, hz1003, za, zD, zd, zo, go_sem, reduceAdd, reduceMul]
 obtain ⟨q, hq⟩ : ∃ q : Int, q = 1 + (sumN yD p.nodes : Nat) + (sumN fnN p.fns : Nat) := ⟨_, rfl⟩
 rw [<- hq]
 have hk0 : (q < 0) = False := by simp; omega
 refine Tri.step zg ?_
 simp +decide only [bne_self_eq_false, hk0, hpK, hz1000, hz1001, hz1002, hz1003, za, zD, zd, zo, go_sem, reduceAdd, reduceMul]
 refine yU (Zo Q hcQ) hp3 ?_
 simp +decide only [bne_self_eq_false, hpK, hz1000, hz1001, hz1002, hz1003, za, zD, zd, zo, go_sem, reduceAdd, reduceMul]
 refine Tri.step zg ?_
 simp +decide only [bne_self_eq_false, hpK, hz1000, hz1001, hz1002, hz1003, za, zD, zd, zo, go_sem, reduceAdd, reduceMul]
 refine Tri.step zg ?_
 simp +decide only [bne_self_eq_false, hpK, hz1000, hz1001, hz1002, hz1003, za, zD, zd, zo, go_sem, reduceAdd, reduceMul]
 refine ZX (YK Q (1) (by omega) (by omega)) hp3 [(2000, 1002), (2001, 1003)] ⟨rfl, rfl, rfl⟩ (fun uf => ⟨rfl, rfl⟩) (fun uf => ?_) ?_
 · simp +decide only [bne_self_eq_false, hpK, hz1000, hz1001, hz1002, hz1003, za, zD, zd, zo, go_sem, reduceAdd, reduceMul]
 simp +decide only [bne_self_eq_false, hpK, hz1000, hz1001, hz1002, hz1003, za, zD, zd, zo, go_sem, reduceAdd, reduceMul]
 have hhe := zbW Q 1 (by omega) (by omega)
 obtain ⟨M1, hM1⟩ : ∃ M1, M1 = yH 1 Q.nodes := ⟨_, rfl⟩
 obtain ⟨M2, hM2⟩ : ∃ M2, M2 = fnML (1 + (sumN yD Q.nodes : Nat)) Q.fns := ⟨_, rfl⟩
 rw [<- hM1, <- hM2] at hhe |-
 refine Tri.step zg ?_
 simp +decide only [bne_self_eq_false, hpK, hz1000, hz1001, hz1002, hz1003, za, zD, zd, zo, go_sem, reduceAdd, reduceMul]
 refine Tri.step zg ?_
 simp +decide only [bne_self_eq_false, hpK, hz1000, hz1001, hz1002, hz1003, za, zD, zd, zo, go_sem, reduceAdd, reduceMul]
 refine yU hhe hp3 ?_
 simp +decide only [bne_self_eq_false, hpK, hz1000, hz1001, hz1002, hz1003, za, zD, zd, zo, go_sem, reduceAdd, reduceMul]
 obtain ⟨q2, hq2'⟩ : ∃ q : Int, q = 1 + (sumN yD Q.nodes : Nat) + (sumN fnN Q.fns : Nat) := ⟨_, rfl⟩
 rw [<- hq2'] at hhe |-
 have hk2 : (q2 < 0) = False := by simp; omega
 refine Tri.step zg ?_
 simp +decide only [bne_self_eq_false, hk2, hpK, hz1000, hz1001, hz1002, hz1003, za, zD, zd, zo, go_sem, reduceAdd, reduceMul]
 refine Tri.step zg ?_
 simp +decide only [bne_self_eq_false, hpK, hz1000, hz1001, hz1002, hz1003, za, zD, zd, zo, go_sem, reduceAdd, reduceMul]
 refine Tri.step zg ?_
 simp +decide only [bne_self_eq_false, hpK, hz1000, hz1001, hz1002, hz1003, za, zD, zd, zo, go_sem, reduceAdd, reduceMul]
 refine yU (Zh p hcp) hp3 ?_
 simp +decide only [bne_self_eq_false, hpK, hz1000, hz1001, hz1002, hz1003, za, zD, zd, zo, go_sem, reduceAdd, reduceMul]
 refine yU hsI hp3 ?_
 simp +decide only [bne_self_eq_false, hpK, hz1000, hz1001, hz1002, hz1003, za, zD, zd, zo, go_sem, reduceAdd, reduceMul]
 refine Tri.ent ?_ (Ent.frb hfullK 18)
 refine Tri.step zg ?_
 simp +decide only [bne_self_eq_false, hpK, hz1000, hz1001, hz1002, hz1003, za, zD, zd, zo, go_sem, reduceAdd, reduceMul]
 refine yU (Zo Q hcQ) hp3 ?_
 simp +decide only [bne_self_eq_false, hpK, hz1000, hz1001, hz1002, hz1003, za, zD, zd, zo, go_sem, reduceAdd, reduceMul]
 refine Tri.step zg ?_
 simp +decide only [bne_self_eq_false, hpK, hz1000, hz1001, hz1002, hz1003, za, zD, zd, zo, go_sem, reduceAdd, reduceMul]
 refine Tri.step zg ?_
 simp +decide only [bne_self_eq_false, hpK, hz1000, hz1001, hz1002, hz1003, za, zD, zd, zo, go_sem, reduceAdd, reduceMul]
 refine yU hhe hp3 ?_
 simp +decide only [bne_self_eq_false, hpK, hz1000, hz1001, hz1002, hz1003, za, zD, zd, zo, go_sem, reduceAdd, reduceMul]
 refine Tri.step zg ?_
 simp +decide only [bne_self_eq_false, hk2, hpK, hz1000, hz1001, hz1002, hz1003, za, zD, zd, zo, go_sem, reduceAdd, reduceMul]
 refine zf zg _ ?_
 simp +decide only [bne_self_eq_false, hpK, hz1000, hz1001, hz1002, hz1003, za, zD, zd, zo, go_sem, reduceAdd, reduceMul]
end Go.Proofs.YtjjigphfjclofaaGreatDoor.AW
namespace Go.Proofs.YtjjigphfjclofaaGreatDoor.fnExactExtractVar
open Go.ChangeShapes Go.WideShapes Go.ChangeAt Go.RowKit
open Go.Proofs.YtjjigphfjclofaaGreatDoor.AW
open Go.Shelf Go.Lib
open Go.ChangeMaps (open_string shut_string)
set_option linter.unusedVariables false
set_option maxRecDepth 100000
theorem own : ownKnob Tryz.prog.godebug = none := by kernel_rfl
theorem laid : laidOutB Tryz.prog = true := by kernel_rfl
noncomputable def zbo (os : Os) : World :=
 let w0 := World.holding Tryz.prog os ⟨#[], #[], []⟩
 let put (h : Array Obj) (g : Nat) (cs : Array Value) : Array Obj := h.modify g fun
   | .cells _ t frozen => .cells cs t frozen
   | o => o
 let h1 := put w0.heap 1 (Lib.firstTab.map fun z => Value.int .u8 z).toArray
 let h2 := put h1 2 ((List.range 16).flatMap fun i => [Value.int .u8 (Lib.accLo i), Value.int .u8 (Lib.accHi i)]).toArray
 { w0 with heap := h2 }
theorem znJ (os : Os) (args : Array Value) : laidMet Tryz.prog Rows.fnExactExtractVarRow.laid ((zbo os).forCall (fun _ _ => 0) ⟨#[], args, []⟩).memory :=
 (LaidIn.of_run (l := [("unicode/utf8.acceptRanges", Rows.laid_unicode_utf8_acceptRanges), ("unicode/utf8.first", Rows.laid_unicode_utf8_first)]) [2, 1] 8 (by kernel_rfl) (by kernel_rfl) (by kernel_rfl) (by kernel_rfl)).met
theorem zio (os : Os) {H : Type} (enc : TypeId × Value -> H) :
   (OpenSpec.ofChange Rows.fnExactExtractVarSpec).preRow enc Tryz.prog Tryz.f5 Rows.fnExactExtractVarRow.domain false Rows.fnExactExtractVarRow.laid ((zbo os).forCall (fun _ _ => 0) ⟨#[], #[.agg #[.slice none 0 0, .slice none 0 0], .int .i64 0, .int .i64 0, .string ⟨#[]⟩], []⟩).memory #[.agg #[.slice none 0 0, .slice none 0 0], .int .i64 0, .int .i64 0, .string ⟨#[]⟩] := by
 have hw : (DataW.whole enc Tryz.prog ((zbo os).forCall (fun _ _ => 0) ⟨#[], #[.agg #[.slice none 0 0, .slice none 0 0], .int .i64 0, .int .i64 0, .string ⟨#[]⟩], []⟩).memory Tryz.f5.params.toList (OpenSpec.ofChange Rows.fnExactExtractVarSpec).vars false #[.agg #[.slice none 0 0, .slice none 0 0], .int .i64 0, .int .i64 0, .string ⟨#[]⟩].toList 8).map (fun x => (x.1, x.2.1)) =
     some ([.agg [.nil, .nil], .lit (.int .i64 0), .lit (.int .i64 0), .lit (.string [])], []) := by kernel_rfl
 obtain ⟨⟨x1, x2, x3⟩, hx, hx1⟩ := Option.map_eq_some_iff.1 hw
 simp only [Prod.mk.injEq] at hx1
 obtain ⟨rfl, rfl⟩ := hx1
 exact OpenSpec.preRow_of_cond 8 hx (by kernel_rfl) (fun k hk => by cases hk) (by kernel_rfl) (znJ os _)
theorem zql (os : Os) (started : os.Started) (H : Type) (enc : TypeId × Value -> H) (F : Stop.Interp) :
   ReturnsInHanded {} Tryz.checked os 5 .any ((OpenSpec.ofChange Rows.fnExactExtractVarSpec).preRow enc Tryz.prog Tryz.f5 Rows.fnExactExtractVarRow.domain false Rows.fnExactExtractVarRow.laid) (((OpenSpec.ofChange Rows.fnExactExtractVarSpec).at F).post enc Tryz.prog Tryz.f5 false true false false) := by
 refine returnsInHanded_of_row (C := Tryz.checked) (s := OpenSpec.ofChange Rows.fnExactExtractVarSpec) own started (by kernel_rfl) Tryz.func5
   (witness_row_atRef (enc := enc) (C := Tryz.checked) false (zbo os) #[.agg #[.slice none 0 0, .slice none 0 0], .int .i64 0, .int .i64 0, .string ⟨#[]⟩] rfl (by kernel_rfl) (by kernel_rfl) (by kernel_rfl) (zio os enc)) ?_
 intro W base args ds gs before hval0 hW hcnd _ hsz0 _ _ _
 have hsz : (DataW.weightsEach Tryz.prog (Tryz.f5.params.toList ++ (OpenSpec.ofChange Rows.fnExactExtractVarSpec).bare.plain.varTypes Tryz.prog) (ds ++ gs)).all (· <= reachBytes) = true := hsz0
 have hval : ∀ (j : Nat) t v, Tryz.f5.params[j]? = some t -> args[j]? = some v -> Value.okWide Tryz.prog W .any base t v := hval0
 have hW' := hW
 obtain ⟨p, q, hA0, hV, rfl, hfz, hnd⟩ := hW
 have hA : DataW.TrodAll enc Tryz.prog W 0 (fun _ => true) true Tryz.f5.params.toList args.toList ds p := hA0
 rw [Tryz.params5] at hA hval hsz
 obtain ⟨v0, vs0, d0, ds0, p0, q0, hargs, rfl, rfl, h0, r0⟩ := trodAll_cons hA
 obtain ⟨v1, vs1, d1, ds1, p1, q1, rfl, rfl, rfl, h1, r1⟩ := trodAll_cons r0
 obtain ⟨v2, vs2, d2, ds2, p2, q2, rfl, rfl, rfl, h2, r2⟩ := trodAll_cons r1
 obtain ⟨v3, vs3, d3, ds3, p3, q3, rfl, rfl, rfl, h3, r3⟩ := trodAll_cons r2
 obtain ⟨rfl, rfl, rfl⟩ := trodAll_nil r3
 obtain rfl : args = #[v0, v1, v2, v3] := by cases args; simp_all
 obtain ⟨rfl, rfl⟩ := trodVars_none hV
 have hlt0 : ∀ x ∈ p0, x.block < W.heap.size := fun x hx => by have := hW'.lt x (by simp only [List.mem_append]; exact Or.inl (Or.inl hx)); simpa using this
 have hlt1 : ∀ x ∈ p1, x.block < W.heap.size := fun x hx => by have := hW'.lt x (by simp only [List.mem_append]; exact Or.inl (Or.inr (Or.inl hx))); simpa using this
 have hlt2 : ∀ x ∈ p2, x.block < W.heap.size := fun x hx => by have := hW'.lt x (by simp only [List.mem_append]; exact Or.inl (Or.inr (Or.inr (Or.inl hx)))); simpa using this
 have hlt3 : ∀ x ∈ p3, x.block < W.heap.size := fun x hx => by have := hW'.lt x (by simp only [List.mem_append]; exact Or.inl (Or.inr (Or.inr (Or.inr (Or.inl hx))))); simpa using this
 obtain ⟨y0, hk0, ok0⟩ := zbj znC h0 (Zg hsz (j := 0) rfl rfl)
 have hv0 := zpH Tryz.underlying25 (hval 0 25 v0 rfl rfl) hk0 (zhq y0)
 obtain ⟨y1, hk1, ok1⟩ := zbj oInt h1 (Zg hsz (j := 1) rfl rfl)
 have hv1 := zjr hk1 (ziO Tryz.underlying3 (Or.inr (Or.inr (Or.inl ⟨_, rfl⟩))) (hval 1 3 v1 rfl rfl)) rfl
 obtain ⟨y2, hk2, ok2⟩ := zbj oInt h2 (Zg hsz (j := 2) rfl rfl)
 have hv2 := zjr hk2 (ziO Tryz.underlying3 (Or.inr (Or.inr (Or.inl ⟨_, rfl⟩))) (hval 2 3 v2 rfl rfl)) rfl
 obtain ⟨y3, hk3, ok3⟩ := zbj oStr h3 (Zg hsz (j := 3) rfl rfl)
 have hv3 := zjr hk3 (ziO Tryz.underlying9 (Or.inl rfl) (hval 3 9 v3 rfl rfl)) rfl
 clear hA0 hval0 hsz0 hsz
 refine (zeO (ts := [zD y0, .sc (.int .i64 y1), .sc (.int .i64 y2), .sc (.string y3)]) (zmv y0 y1 y2 y3 (zdq y0 ok0)) rfl (fun i t hi => ?_)).mono fun e W' ⟨he, bel⟩ => ?_
 · match i, hi with
   | 0, hi => cases hi; exact hv0
   | 1, hi => cases hi; exact hv1
   | 2, hi => cases hi; exact hv2
   | 3, hi => cases hi; exact hv3
 subst he
 exact ⟨_, rfl, _, _, _, _, _, [], hW', trodAll_mk1 (shut_bool Tryz.underlying4 _), (trodAll_cons_mk (zbr laid (by kernel_rfl) (of_decide_eq_true (by kernel_rfl)) h0 bel hlt0) (trodAll_cons_mk (zbr laid (by kernel_rfl) (of_decide_eq_true (by kernel_rfl)) h1 bel hlt1) (trodAll_cons_mk (zbr laid (by kernel_rfl) (of_decide_eq_true (by kernel_rfl)) h2 bel hlt2) (trodAll_cons_mk (zbr laid (by kernel_rfl) (of_decide_eq_true (by kernel_rfl)) h3 bel hlt3) trodAll_mk0)))), rfl, znL bel _, fun h => by cases h⟩
theorem over : Rows.fnExactExtractVarRow.holds Tryz.pinned (OpenSpec.ofChange Rows.fnExactExtractVarSpec) :=
 OpenClaim.holds_of_cond 5 Tryz.f5 rfl rfl rfl rfl rfl rfl rfl ⟨rfl, rfl, rfl, rfl, rfl⟩ rfl rfl rfl rfl rfl (by kernel_rfl) Tryz.func5 (by kernel_rfl)
   (of_decide_eq_true (by kernel_rfl)) (by unfold Func.isWrapper; first | (rw [if_pos (by decide +kernel)]; kernel_rfl) | (rw [if_neg (by decide +kernel)]; exact ⟨rfl, rfl⟩))
   (fun os started H enc _ F0 => by rw [OpenClaim.pre_eq_preRow]; exact zql os started H enc F0)
end Go.Proofs.YtjjigphfjclofaaGreatDoor.fnExactExtractVar
namespace Go.Proofs.YtjjigphfjclofaaGreatDoor
theorem fnExactExtractVar_card : Rows.FnExactExtractVarCardSaid :=
 Claim7.holds_tied_plain_at .later [] [.data, .pinned] true (true, "b030ab10bdf0fa3b43fde3c962dfcb6ef00d5d5018f7df2b571f7c2387c843d1") false
   fnExactExtractVar.over (fun _ h => by cases h) (by kernel_rfl) (fun _ h => by cases h) fnExactExtractVar_row_tie rfl ⟨rfl, rfl⟩ (by kernel_rfl) rfl
   (fun f fn hf hfn => by
     obtain rfl : f = 5 := Option.some.inj ((show Tryz.prog.funcNamed "loop.example/g00423/laws.FnExactExtractVar" = some 5 by kernel_rfl).symm.trans hf) |>.symm
     obtain rfl : fn = Tryz.f5 := (Option.some.inj (Tryz.func5.symm.trans hfn)).symm
     exact ⟨by kernel_rfl, fun j t ht => by
       rw [Tryz.params5] at ht
       have h3 : t = 25 \/ t = 3 \/ t = 3 \/ t = 9 := by
         rcases j with _ | _ | _ | _ | j
         · left; simpa using ht.symm
         · right; left; simpa using ht.symm
         · right; right; left; simpa using ht.symm
         · right; right; right; simpa using ht.symm
         · simp at ht
       rcases h3 with rfl | rfl | rfl | rfl
       · exact (show Tryz.prog.wantsStandIn 25 = false by kernel_rfl)
       · exact (show Tryz.prog.wantsStandIn 3 = false by kernel_rfl)
       · exact (show Tryz.prog.wantsStandIn 3 = false by kernel_rfl)
       · exact (show Tryz.prog.wantsStandIn 9 = false by kernel_rfl)⟩)
   (by kernel_rfl)
end Go.Proofs.YtjjigphfjclofaaGreatDoor
