/- FnExactInlineVar answers true for every input, and its arguments read behind the call as they read before. No condition beyond the row's own. -/
import Derived.Test.YtjjigphfjclofaaGreatDoorLw9
import Derived.Test.YtjjigphfjclofaaGreatDoorRows
import Derived.Test.YtjjigphfjclofaaGreatDoorCards
import Derived.Test.YtjjigphfjclofaaGreatDoorTie
import Derived.WalkKit
import Derived.ProofKit
import Derived.ShutString
import Derived.Carry
import Derived.Lib.LaidIn
import Derived.Lib.LaidU8
import Derived.Deep.DeepHandedRow
import Derived.Deep.DeepWitnessRowRef
import Derived.SevenTiedAt
namespace Go.Proofs.YtjjigphfjclofaaGreatDoor.AW
open Go.RowKit
open Nat (reduceAdd reduceMul)
set_option maxHeartbeats 8000000
set_option maxRecDepth 100000
set_option linter.unusedSimpArgs false
set_option linter.unusedVariables false
theorem zmn (p : ProgramD) (fn : Int) (name : ByteArray) (hsp : Yg p) : zu Tryz.prog 6 [.ro (zA p), .ro (.sc (.int .i64 fn)), .ro (.sc (.string name))] (fun rs st => rs = [(false, [cB true])]) := by
 refine zm (fn := Tryz.f6) (c := Tryz.f6.body.getD .skip) (res := [.tm 6]) (n := 109) zf (by kernel_rfl) (by rfl) (by kernel_rfl) (by rfl) (by rfl) (by simp [zp]) (fun uf ub C hpin hpin2 hfull => ?_)
 simp only [Tryz.f6, Option.getD_some]
 refine Tri.step zf ?_
 simp +decide only [bne_self_eq_false, za, zA, zb, zn, hpin, go_sem, reduceAdd, reduceMul]
 refine Tri.ent ?_ (Ent.frb hfull 3)
 by_cases hz_name : 1048576 < name.size
 · have e1 : ((1048576 : Int) < (name.size : Int)) = True := by simp; omega
   refine Tri.step zf ?_
   simp +decide only [e1, za, zA, zb, hpin, go_sem, reduceAdd, reduceMul]
 have ez_name : ((1048576 : Int) < (name.size : Int)) = False := by simp; omega
 refine Tri.step zf ?_
 simp +decide only [ez_name, za, zA, zb, hpin, go_sem, reduceAdd, reduceMul]
 refine Tri.step zf ?_
 simp +decide only [bne_self_eq_false, za, zA, zb, zn, hpin, go_sem, reduceAdd, reduceMul]
 refine Tri.step zf ?_
 simp +decide only [bne_self_eq_false, za, zA, zb, zn, hpin, go_sem, reduceAdd, reduceMul]
 refine zd (zcY p (1048576) (by decide) (by decide) hsp) hpin ?_
 by_cases h0_ : (1048576 : Int) - ((zE p : Nat) : Int) < 0
 · rw [yK h0_]
   simp +decide only [bne_self_eq_false, za, zA, zb, zn, hpin, go_sem, reduceAdd, reduceMul]
   refine ze zf _ ?_
   simp +decide only [bne_self_eq_false, za, zA, zb, zn, hpin, go_sem, reduceAdd, reduceMul]
 rw [xJ h0_]
 have n0_ : ((1048576 : Int) - ((zE p : Nat) : Int) < 0) = False := by simpa using h0_
 simp +decide only [n0_, za, zA, zb, hpin, go_sem, reduceAdd, reduceMul]
 refine Tri.step zf ?_
 simp +decide only [n0_, za, zA, zb, hpin, go_sem, reduceAdd, reduceMul]
 have hcp : zE p <= 1048576 := by omega
 obtain ⟨k1, k2⟩ := zhb hcp
 have k0 : p.fns.length <= 1048576 := by unfold zE at hcp; omega
 have k3 := zez hcp
 have hm1 := zbL p.nodes
 have hm2 := zgi p.fns
 have hm3 : sumN zB p.nodes <= 1048576 /\ sumN yb p.fns <= 1048576 := by unfold zE at hcp; omega
 have hcQ := zpg p fn name hcp
 have hsS := zcu p fn name k0 k1 k2 k3
 have hsI := zcv p fn name k0 k1 k2 k3
 generalize ivP p fn name = Q at hcQ hsS hsI
 generalize xp p fn name = cd at hsS hsI
 have hq1 := zbL Q.nodes
 have hq2 := zgi Q.fns
 have hq3 : Q.nodes.length <= 1048576 /\ Q.fns.length <= 1048576 /\ sumN zB Q.nodes <= 1048576 /\ sumN yb Q.fns <= 1048576 := by unfold zE at hcQ; omega
 refine Tri.step zf ?_
 simp +decide only [bne_self_eq_false, hpin, za, zA, zb, zn, go_sem, reduceAdd, reduceMul]
 refine zd (xZ p hcp) hpin ?_
 simp +decide only [bne_self_eq_false, hpin, za, zA, zb, zn, go_sem, reduceAdd, reduceMul]
 refine zd hsS hpin ?_
 simp +decide only [bne_self_eq_false, hpin, za, zA, zb, zn, go_sem, reduceAdd, reduceMul]
 refine Tri.ent ?_ (Ent.frb hfull 8)
 refine Tri.step zf ?_
 simp +decide only [bne_self_eq_false, hpin, za, zA, zb, zn, go_sem, reduceAdd, reduceMul]
 refine zd (xZ p hcp) hpin ?_
 simp +decide only [bne_self_eq_false, hpin, za, zA, zb, zn, go_sem, reduceAdd, reduceMul]
 refine Tri.outN [] (x := .box [.row false 83 (rows (zg false) (p.nodes)), .row false 104 (rows (fnC false) (p.fns))]) (e := 83) (es := rows (zg false) (p.nodes)) 10 [(0, 0)] 1000 (by rfl) (by rfl) (by simp) (by rfl) (by rfl) (by decide) (zrk hpin) (pin3 hpin) hfull (fun z1000 C1000 hz1000 ho1000 hpK1000 hp31000 hfull1000 => ?_)
 have hpK := hpK1000
 have hp3 := hp31000
 have hfullK := hfull1000
 refine Tri.outN [1000] (x := .box [.sc z1000, .row false 104 (rows (fnC false) (p.fns))]) (e := 104) (es := rows (fnC false) (p.fns)) 10 [(0, 1)] 1001 (by rfl) (by rfl) (by simp) (by rfl) (by rfl) (by decide) hpK hp3 hfullK (fun z1001 C1001 hz1001 ho1001 hpK1001 hp31001 hfull1001 => ?_)
 have hz1000 : C1001.pin 1000 = some (z1000, 0, 0) := (ho1001 1000 (by decide)).trans hz1000
 have hpK := hpK1001
 have hp3 := hp31001
 have hfullK := hfull1001
 refine Tri.ent ?_ (Ent.frb hfullK 10)
 refine Tri.step zf ?_
 simp +decide only [bne_self_eq_false, hpK, hz1000, hz1001, za, zA, zb, zn, go_sem, reduceAdd, reduceMul]
 refine yT hsI hp3 ?_
 simp +decide only [bne_self_eq_false, hpK, hz1000, hz1001, za, zA, zb, zn, go_sem, reduceAdd, reduceMul]
 refine Tri.outN [1001, 1000] (x := .box [.row false 83 (rows (zg false) (Q.nodes)), .row false 104 (rows (fnC false) (Q.fns))]) (e := 83) (es := rows (zg false) (Q.nodes)) 11 [(0, 0)] 1002 (by rfl) (by rfl) (by simp) (by rfl) (by rfl) (by decide) hpK hp3 hfullK (fun z1002 C1002 hz1002 ho1002 hpK1002 hp31002 hfull1002 => ?_)
 have hz1000 : C1002.pin 1000 = some (z1000, 0, 0) := (ho1002 1000 (by decide)).trans hz1000
 have hz1001 : C1002.pin 1001 = some (z1001, 0, 0) := (ho1002 1001 (by decide)).trans hz1001
 have hpK := hpK1002
 have hp3 := hp31002
 have hfullK := hfull1002
 refine Tri.outN [1002, 1001, 1000] (x := .box [.sc z1002, .row false 104 (rows (fnC false) (Q.fns))]) (e := 104) (es := rows (fnC false) (Q.fns)) 11 [(0, 1)] 1003 (by rfl) (by rfl) (by simp) (by rfl) (by rfl) (by decide) hpK hp3 hfullK (fun z1003 C1003 hz1003 ho1003 hpK1003 hp31003 hfull1003 => ?_)
 have hz1000 : C1003.pin 1000 = some (z1000, 0, 0) := (ho1003 1000 (by decide)).trans hz1000
 have hz1001 : C1003.pin 1001 = some (z1001, 0, 0) := (ho1003 1001 (by decide)).trans hz1001
 have hz1002 : C1003.pin 1002 = some (z1002, 0, 0) := (ho1003 1002 (by decide)).trans hz1002
 have hpK := hpK1003
 have hp3 := hp31003
 have hfullK := hfull1003
 refine Tri.ent ?_ (Ent.frb hfullK 11)
 refine Tri.step zf ?_
 simp +decide only [bne_self_eq_false, hpK, hz1000, hz1001, hz1002, hz1003, za, zA, zb, zn, go_sem, reduceAdd, reduceMul]
 refine yT (Zd Q hcQ) hp3 ?_
 simp +decide only [bne_self_eq_false, hpK, hz1000, hz1001, hz1002, hz1003, za, zA, zb, zn, go_sem, reduceAdd, reduceMul]
 refine Tri.step zf ?_
 simp +decide only [bne_self_eq_false, hpK, hz1000, hz1001, hz1002, hz1003, za, zA, zb, zn, go_sem, reduceAdd, reduceMul]
 refine Tri.sched zf [(0, true), (1, false), (2, false), (3, false), (4, false)] zV (by kernel_rfl) (fun CX hCX => ?_)
 have hpX : ∀ o, zbk [1003, 1002, 1001, 1000] o = false -> CX.pin o = none := by rw [hCX]; exact hpK
 have hpX3 : ∀ n, 3000 <= n -> CX.pin n = none := by rw [hCX]; exact hp3
 have hzX1000 : CX.pin 1000 = some (z1000, 0, 0) := by rw [hCX]; exact hz1000
 have hzX1001 : CX.pin 1001 = some (z1001, 0, 0) := by rw [hCX]; exact hz1001
 have hzX1002 : CX.pin 1002 = some (z1002, 0, 0) := by rw [hCX]; exact hz1002
 have hzX1003 : CX.pin 1003 = some (z1003, 0, 0) := by rw [hCX]; exact hz1003
 simp +decide only [bne_self_eq_false, hpX, hzX1000, hzX1001, hzX1002, hzX1003, za, zA, zb, zn, go_sem, reduceAdd, reduceMul]
 refine yT (xZ p hcp) hpX3 ?_
 simp +decide only [bne_self_eq_false, hpX, hzX1000, hzX1001, hzX1002, hzX1003, za, zA, zb, zn, go_sem, reduceAdd, reduceMul]
 refine yT (Zd p hcp) hpX3 ?_
 simp +decide only [bne_self_eq_false, hpX, hzX1000, hzX1001, hzX1002, hzX1003, za, zA, zb, zn, go_sem, reduceAdd, reduceMul]
 refine Tri.step zf ?_
 simp +decide only [bne_self_eq_false, hpK, hz1000, hz1001, hz1002, hz1003, za, zA, zb, zn, go_sem, reduceAdd, reduceMul]
 refine Tri.step zf ?_
 simp +decide only [bne_self_eq_false, hpK, hz1000, hz1001, hz1002, hz1003, za, zA, zb, zn, go_sem, reduceAdd, reduceMul]
 refine ZP (Yy p (1) (by omega) (by omega)) hp3 [(2000, 1000), (2001, 1001)] ⟨rfl, rfl, rfl⟩ (fun uf => ⟨rfl, rfl⟩) (fun uf => ?_) ?_
 · simp +decide only [bne_self_eq_false, hpK, hz1000, hz1001, hz1002, hz1003, za, zA, zb, zn, go_sem, reduceAdd, reduceMul]
 simp +decide only [bne_self_eq_false, hpK, hz1000, hz1001, hz1002, hz1003, za, zA, zb, zn, go_sem, reduceAdd, reduceMul]
 obtain ⟨q, hq⟩ : ∃ q : Int, q = 1 + (sumN yz p.nodes : Nat) + (sumN fnN p.fns : Nat) := ⟨_, rfl⟩
 rw [<- hq]
 have hk0 : (q < 0) = False := by simp; omega
 refine Tri.step zf ?_
 simp +decide only [bne_self_eq_false, hk0, hpK, hz1000, hz1001, hz1002, hz1003, za, zA, zb, zn, go_sem, reduceAdd, reduceMul]
 refine yT (Zd Q hcQ) hp3 ?_
 simp +decide only [bne_self_eq_false, hpK, hz1000, hz1001, hz1002, hz1003, za, zA, zb, zn, go_sem, reduceAdd, reduceMul]
 refine Tri.step zf ?_
 simp +decide only [bne_self_eq_false, hpK, hz1000, hz1001, hz1002, hz1003, za, zA, zb, zn, go_sem, reduceAdd, reduceMul]
 refine Tri.step zf ?_
 simp +decide only [bne_self_eq_false, hpK, hz1000, hz1001, hz1002, hz1003, za, zA, zb, zn, go_sem, reduceAdd, reduceMul]
 refine ZP (Yy Q (1) (by omega) (by omega)) hp3 [(2000, 1002), (2001, 1003)] ⟨rfl, rfl, rfl⟩ (fun uf => ⟨rfl, rfl⟩) (fun uf => ?_) ?_
 · simp +decide only [bne_self_eq_false, hpK, hz1000, hz1001, hz1002, hz1003, za, zA, zb, zn, go_sem, reduceAdd, reduceMul]
 simp +decide only [bne_self_eq_false, hpK, hz1000, hz1001, hz1002, hz1003, za, zA, zb, zn, go_sem, reduceAdd, reduceMul]
 have hhe := zbR Q 1 (by omega) (by omega)
 obtain ⟨M1, hM1⟩ : ∃ M1, M1 = yE 1 Q.nodes := ⟨_, rfl⟩
 obtain ⟨M2, hM2⟩ : ∃ M2, M2 = fnML (1 + (sumN yz Q.nodes : Nat)) Q.fns := ⟨_, rfl⟩
 rw [<- hM1, <- hM2] at hhe |-
 refine Tri.step zf ?_
 simp +decide only [bne_self_eq_false, hpK, hz1000, hz1001, hz1002, hz1003, za, zA, zb, zn, go_sem, reduceAdd, reduceMul]
 refine Tri.step zf ?_
 simp +decide only [bne_self_eq_false, hpK, hz1000, hz1001, hz1002, hz1003, za, zA, zb, zn, go_sem, reduceAdd, reduceMul]
 refine yT hhe hp3 ?_
 simp +decide only [bne_self_eq_false, hpK, hz1000, hz1001, hz1002, hz1003, za, zA, zb, zn, go_sem, reduceAdd, reduceMul]
 obtain ⟨q2, hq2'⟩ : ∃ q : Int, q = 1 + (sumN yz Q.nodes : Nat) + (sumN fnN Q.fns : Nat) := ⟨_, rfl⟩
 rw [<- hq2'] at hhe |-
 have hk2 : (q2 < 0) = False := by simp; omega
 refine Tri.step zf ?_
 simp +decide only [bne_self_eq_false, hk2, hpK, hz1000, hz1001, hz1002, hz1003, za, zA, zb, zn, go_sem, reduceAdd, reduceMul]
 refine Tri.step zf ?_
 simp +decide only [bne_self_eq_false, hpK, hz1000, hz1001, hz1002, hz1003, za, zA, zb, zn, go_sem, reduceAdd, reduceMul]
 refine Tri.step zf ?_
 simp +decide only [bne_self_eq_false, hpK, hz1000, hz1001, hz1002, hz1003, za, zA, zb, zn, go_sem, reduceAdd, reduceMul]
 refine yT (xZ p hcp) hp3 ?_
 simp +decide only [bne_self_eq_false, hpK, hz1000, hz1001, hz1002, hz1003, za, zA, zb, zn, go_sem, reduceAdd, reduceMul]
 refine yT hsI hp3 ?_
 simp +decide only [bne_self_eq_false, hpK, hz1000, hz1001, hz1002, hz1003, za, zA, zb, zn, go_sem, reduceAdd, reduceMul]
 refine Tri.ent ?_ (Ent.frb hfullK 16)
 refine Tri.step zf ?_
 simp +decide only [bne_self_eq_false, hpK, hz1000, hz1001, hz1002, hz1003, za, zA, zb, zn, go_sem, reduceAdd, reduceMul]
 refine yT (Zd Q hcQ) hp3 ?_
 simp +decide only [bne_self_eq_false, hpK, hz1000, hz1001, hz1002, hz1003, za, zA, zb, zn, go_sem, reduceAdd, reduceMul]
 refine Tri.step zf ?_
 simp +decide only [bne_self_eq_false, hpK, hz1000, hz1001, hz1002, hz1003, za, zA, zb, zn, go_sem, reduceAdd, reduceMul]
 refine Tri.step zf ?_
 simp +decide only [bne_self_eq_false, hpK, hz1000, hz1001, hz1002, hz1003, za, zA, zb, zn, go_sem, reduceAdd, reduceMul]
 refine yT hhe hp3 ?_
 simp +decide only [bne_self_eq_false, hpK, hz1000, hz1001, hz1002, hz1003, za, zA, zb, zn, go_sem, reduceAdd, reduceMul]
 refine Tri.step zf ?_
 simp +decide only [bne_self_eq_false, hk2, hpK, hz1000, hz1001, hz1002, hz1003, za, zA, zb, zn, go_sem, reduceAdd, reduceMul]
 refine ze zf _ ?_
 simp +decide only [bne_self_eq_false, hpK, hz1000, hz1001, hz1002, hz1003, za, zA, zb, zn, go_sem, reduceAdd, reduceMul]
end Go.Proofs.YtjjigphfjclofaaGreatDoor.AW
namespace Go.Proofs.YtjjigphfjclofaaGreatDoor.fnExactInlineVar
open Go.ChangeShapes Go.WideShapes Go.ChangeAt Go.RowKit
open Go.Proofs.YtjjigphfjclofaaGreatDoor.AW
open Go.Shelf Go.Lib
open Go.ChangeMaps (open_string shut_string)
set_option linter.unusedVariables false
set_option maxRecDepth 100000
theorem own : ownKnob Tryz.prog.godebug = none := by kernel_rfl
theorem laid : laidOutB Tryz.prog = true := by kernel_rfl
noncomputable def zbh (os : Os) : World :=
 let w0 := World.holding Tryz.prog os ⟨#[], #[], []⟩
 let put (h : Array Obj) (g : Nat) (cs : Array Value) : Array Obj := h.modify g fun
   | .cells _ t frozen => .cells cs t frozen
   | o => o
 let h1 := put w0.heap 1 (Lib.firstTab.map fun z => Value.int .u8 z).toArray
 let h2 := put h1 2 ((List.range 16).flatMap fun i => [Value.int .u8 (Lib.accLo i), Value.int .u8 (Lib.accHi i)]).toArray
 { w0 with heap := h2 }
theorem znC (os : Os) (args : Array Value) : laidMet Tryz.prog Rows.fnExactInlineVarRow.laid ((zbh os).forCall (fun _ _ => 0) ⟨#[], args, []⟩).memory :=
 (LaidIn.of_run (l := [("unicode/utf8.acceptRanges", Rows.laid_unicode_utf8_acceptRanges), ("unicode/utf8.first", Rows.laid_unicode_utf8_first)]) [2, 1] 8 (by kernel_rfl) (by kernel_rfl) (by kernel_rfl) (by kernel_rfl)).met
theorem zic (os : Os) {H : Type} (enc : TypeId × Value -> H) :
   (OpenSpec.ofChange Rows.fnExactInlineVarSpec).preRow enc Tryz.prog Tryz.f6 Rows.fnExactInlineVarRow.domain false Rows.fnExactInlineVarRow.laid ((zbh os).forCall (fun _ _ => 0) ⟨#[], #[.agg #[.slice none 0 0, .slice none 0 0], .int .i64 0, .string ⟨#[]⟩], []⟩).memory #[.agg #[.slice none 0 0, .slice none 0 0], .int .i64 0, .string ⟨#[]⟩] := by
 have hw : (DataW.whole enc Tryz.prog ((zbh os).forCall (fun _ _ => 0) ⟨#[], #[.agg #[.slice none 0 0, .slice none 0 0], .int .i64 0, .string ⟨#[]⟩], []⟩).memory Tryz.f6.params.toList (OpenSpec.ofChange Rows.fnExactInlineVarSpec).vars false #[.agg #[.slice none 0 0, .slice none 0 0], .int .i64 0, .string ⟨#[]⟩].toList 8).map (fun x => (x.1, x.2.1)) =
     some ([.agg [.nil, .nil], .lit (.int .i64 0), .lit (.string [])], []) := by kernel_rfl
 obtain ⟨⟨x1, x2, x3⟩, hx, hx1⟩ := Option.map_eq_some_iff.1 hw
 simp only [Prod.mk.injEq] at hx1
 obtain ⟨rfl, rfl⟩ := hx1
 exact OpenSpec.preRow_of_cond 8 hx (by kernel_rfl) (fun k hk => by cases hk) (by kernel_rfl) (znC os _)
theorem zqj (os : Os) (started : os.Started) (H : Type) (enc : TypeId × Value -> H) (F : Stop.Interp) :
   ReturnsInHanded {} Tryz.checked os 6 .any ((OpenSpec.ofChange Rows.fnExactInlineVarSpec).preRow enc Tryz.prog Tryz.f6 Rows.fnExactInlineVarRow.domain false Rows.fnExactInlineVarRow.laid) (((OpenSpec.ofChange Rows.fnExactInlineVarSpec).at F).post enc Tryz.prog Tryz.f6 false true false false) := by
 refine returnsInHanded_of_row (C := Tryz.checked) (s := OpenSpec.ofChange Rows.fnExactInlineVarSpec) own started (by kernel_rfl) Tryz.func6
   (witness_row_atRef (enc := enc) (C := Tryz.checked) false (zbh os) #[.agg #[.slice none 0 0, .slice none 0 0], .int .i64 0, .string ⟨#[]⟩] rfl (by kernel_rfl) (by kernel_rfl) (by kernel_rfl) (zic os enc)) ?_
 intro W base args ds gs before hval0 hW hcnd _ hsz0 _ _ _
 have hsz : (DataW.weightsEach Tryz.prog (Tryz.f6.params.toList ++ (OpenSpec.ofChange Rows.fnExactInlineVarSpec).bare.plain.varTypes Tryz.prog) (ds ++ gs)).all (· <= reachBytes) = true := hsz0
 have hval : ∀ (j : Nat) t v, Tryz.f6.params[j]? = some t -> args[j]? = some v -> Value.okWide Tryz.prog W .any base t v := hval0
 have hW' := hW
 obtain ⟨p, q, hA0, hV, rfl, hfz, hnd⟩ := hW
 have hA : DataW.TrodAll enc Tryz.prog W 0 (fun _ => true) true Tryz.f6.params.toList args.toList ds p := hA0
 rw [Tryz.params6] at hA hval hsz
 obtain ⟨v0, vs0, d0, ds0, p0, q0, hargs, rfl, rfl, h0, r0⟩ := trodAll_cons hA
 obtain ⟨v1, vs1, d1, ds1, p1, q1, rfl, rfl, rfl, h1, r1⟩ := trodAll_cons r0
 obtain ⟨v2, vs2, d2, ds2, p2, q2, rfl, rfl, rfl, h2, r2⟩ := trodAll_cons r1
 obtain ⟨rfl, rfl, rfl⟩ := trodAll_nil r2
 obtain rfl : args = #[v0, v1, v2] := by cases args; simp_all
 obtain ⟨rfl, rfl⟩ := trodVars_none hV
 have hlt0 : ∀ x ∈ p0, x.block < W.heap.size := fun x hx => by have := hW'.lt x (by simp only [List.mem_append]; exact Or.inl (Or.inl hx)); simpa using this
 have hlt1 : ∀ x ∈ p1, x.block < W.heap.size := fun x hx => by have := hW'.lt x (by simp only [List.mem_append]; exact Or.inl (Or.inr (Or.inl hx))); simpa using this
 have hlt2 : ∀ x ∈ p2, x.block < W.heap.size := fun x hx => by have := hW'.lt x (by simp only [List.mem_append]; exact Or.inl (Or.inr (Or.inr (Or.inl hx)))); simpa using this
 obtain ⟨y0, hk0, ok0⟩ := zdA znu h0 (ZQ hsz (j := 0) rfl rfl)
 have hv0 := zpF Tryz.underlying25 (hval 0 25 v0 rfl rfl) hk0 (zhc y0)
 obtain ⟨y1, hk1, ok1⟩ := zdA oInt h1 (ZQ hsz (j := 1) rfl rfl)
 have hv1 := zmN hk1 (zmb Tryz.underlying3 (Or.inr (Or.inr (Or.inl ⟨_, rfl⟩))) (hval 1 3 v1 rfl rfl)) rfl
 obtain ⟨y2, hk2, ok2⟩ := zdA oStr h2 (ZQ hsz (j := 2) rfl rfl)
 have hv2 := zmN hk2 (zmb Tryz.underlying9 (Or.inl rfl) (hval 2 9 v2 rfl rfl)) rfl
 clear hA0 hval0 hsz0 hsz
 refine (zeO (ts := [zA y0, .sc (.int .i64 y1), .sc (.string y2)]) (zmn y0 y1 y2 (zdn y0 ok0)) rfl (fun i t hi => ?_)).mono fun e W' ⟨he, bel⟩ => ?_
 · match i, hi with
   | 0, hi => cases hi; exact hv0
   | 1, hi => cases hi; exact hv1
   | 2, hi => cases hi; exact hv2
 subst he
 exact ⟨_, rfl, _, _, _, _, _, [], hW', trodAll_mk1 (shut_bool Tryz.underlying4 _), (trodAll_cons_mk (zdQ laid (by kernel_rfl) (of_decide_eq_true (by kernel_rfl)) h0 bel hlt0) (trodAll_cons_mk (zdQ laid (by kernel_rfl) (of_decide_eq_true (by kernel_rfl)) h1 bel hlt1) (trodAll_cons_mk (zdQ laid (by kernel_rfl) (of_decide_eq_true (by kernel_rfl)) h2 bel hlt2) trodAll_mk0))), rfl, znD bel _, fun h => by cases h⟩
theorem over : Rows.fnExactInlineVarRow.holds Tryz.pinned (OpenSpec.ofChange Rows.fnExactInlineVarSpec) :=
 OpenClaim.holds_of_cond 6 Tryz.f6 rfl rfl rfl rfl rfl rfl rfl ⟨rfl, rfl, rfl, rfl, rfl⟩ rfl rfl rfl rfl rfl (by kernel_rfl) Tryz.func6 (by kernel_rfl)
   (of_decide_eq_true (by kernel_rfl)) (by unfold Func.isWrapper; first | (rw [if_pos (by decide +kernel)]; kernel_rfl) | (rw [if_neg (by decide +kernel)]; exact ⟨rfl, rfl⟩))
   (fun os started H enc _ F0 => by rw [OpenClaim.pre_eq_preRow]; exact zqj os started H enc F0)
end Go.Proofs.YtjjigphfjclofaaGreatDoor.fnExactInlineVar
namespace Go.Proofs.YtjjigphfjclofaaGreatDoor
theorem fnExactInlineVar_card : Rows.FnExactInlineVarCardSaid :=
 Claim7.holds_tied_plain_at .later [] [.data, .pinned] true (true, "b030ab10bdf0fa3b43fde3c962dfcb6ef00d5d5018f7df2b571f7c2387c843d1") false
   fnExactInlineVar.over (fun _ h => by cases h) (by kernel_rfl) (fun _ h => by cases h) fnExactInlineVar_row_tie rfl ⟨rfl, rfl⟩ (by kernel_rfl) rfl
   (fun f fn hf hfn => by
     obtain rfl : f = 6 := Option.some.inj ((show Tryz.prog.funcNamed "loop.example/g00423/laws.FnExactInlineVar" = some 6 by kernel_rfl).symm.trans hf) |>.symm
     obtain rfl : fn = Tryz.f6 := (Option.some.inj (Tryz.func6.symm.trans hfn)).symm
     exact ⟨by kernel_rfl, fun j t ht => by
       rw [Tryz.params6] at ht
       have h3 : t = 25 \/ t = 3 \/ t = 9 := by
         rcases j with _ | _ | _ | j
         · left; simpa using ht.symm
         · right; left; simpa using ht.symm
         · right; right; simpa using ht.symm
         · simp at ht
       rcases h3 with rfl | rfl | rfl
       · exact (show Tryz.prog.wantsStandIn 25 = false by kernel_rfl)
       · exact (show Tryz.prog.wantsStandIn 3 = false by kernel_rfl)
       · exact (show Tryz.prog.wantsStandIn 9 = false by kernel_rfl)⟩)
   (by kernel_rfl)
end Go.Proofs.YtjjigphfjclofaaGreatDoor
