/- FnExactLower answers true for every input, and its arguments read behind the call as they read before. No condition beyond the row's own. -/
import Derived.Test.YtjjigphfjclofaaGreatDoorLx9
import Derived.Test.YtjjigphfjclofaaGreatDoorRows
import Derived.Test.YtjjigphfjclofaaGreatDoorCards
import Derived.Test.YtjjigphfjclofaaGreatDoorTie
import Derived.WalkKit
import Derived.ProofKit
import Derived.ShutString
import Derived.Carry
import Derived.Lib.LaidIn
import Derived.Lib.LaidU8
import Derived.Deep.DeepHandedRow
import Derived.Deep.DeepWitnessRowRef
import Derived.SevenTiedAt
namespace Go.Proofs.YtjjigphfjclofaaGreatDoor.AW
open Go.RowKit
open Nat (reduceAdd reduceMul)
set_option maxHeartbeats 8000000
set_option maxRecDepth 100000
set_option linter.unusedSimpArgs false
set_option linter.unusedVariables false
theorem law_sound (p : ProgramD) (fn : Int) (hsp : ZI p) : zB Tryz.prog 3 [.ro (zp p), .ro (.sc (.int .i64 fn))] (fun rs st => rs = [(false, [cB true])]) := by
 refine zt (fn := Tryz.f3) (c := Tryz.f3.body.getD .skip) (res := [.tm 4]) (n := 101) ze (by kernel_rfl) (by rfl) (by kernel_rfl) (by rfl) (by rfl) (by simp [zq]) (fun uf ub C hpin hpin2 hfull => ?_)
 simp only [Tryz.f3, Option.getD_some]
 refine Tri.step ze ?_
 simp +decide only [bne_self_eq_false, za, zp, zb, zm, zx, zh, hpin, go_sem, reduceAdd, reduceMul]
 refine Tri.ent ?_ (Ent.frb hfull 2)
 refine Tri.step ze ?_
 simp +decide only [bne_self_eq_false, za, zp, zb, zm, zx, zh, hpin, go_sem, reduceAdd, reduceMul]
 refine Tri.step ze ?_
 simp +decide only [bne_self_eq_false, za, zp, zb, zm, zx, zh, hpin, go_sem, reduceAdd, reduceMul]
 refine zd (XM p (1048576) (by decide) (by decide) hsp) hpin ?_
 by_cases h0_ : (1048576 : Int) - ((zJ p : Nat) : Int) < 0
 · rw [yQ h0_]
   simp +decide only [bne_self_eq_false, za, zp, zb, zm, zx, zh, hpin, go_sem, reduceAdd, reduceMul]
   refine zf ze _ ?_
   simp +decide only [bne_self_eq_false, za, zp, zb, zm, zx, zh, hpin, go_sem, reduceAdd, reduceMul]
 rw [xO h0_]
 have n0_ : ((1048576 : Int) - ((zJ p : Nat) : Int) < 0) = False := by simpa using h0_
 simp +decide only [n0_, za, zp, zb, zm, zx, hpin, go_sem, reduceAdd, reduceMul]
 refine Tri.step ze ?_
 simp +decide only [n0_, za, zp, zb, zm, zx, hpin, go_sem, reduceAdd, reduceMul]
 have hcp : zJ p <= 1048576 := by omega
 obtain ⟨k1, k2⟩ := zcz hcp
 have k0 : p.fns.length <= 1048576 := by unfold zJ at hcp; omega
 have k3 := zaH hcp
 have hm1 := zca p.nodes
 have hm2 := zgK p.fns
 have hm3 : sumN zF p.nodes <= 1048576 /\ sumN yc p.fns <= 1048576 := by unfold zJ at hcp; omega
 have hcQ : yZ (zaL p fn) <= 1048576 := by have := zdW p fn; omega
 have hmQ := zid p fn
 have hsS := zib p fn k0 k1 k2 k3
 have hsI := zic p fn k0 k1 k2 k3
 generalize zaL p fn = Q at hcQ hmQ hsS hsI
 generalize zpo p fn = cd at hsS hsI
 have hq3 : Q.locals.length <= 1048576 /\ Q.words.length <= 1048576 := by unfold yZ at hcQ; omega
 refine Tri.step ze ?_
 simp +decide only [bne_self_eq_false, hpin, za, zp, zb, zm, zx, zh, go_sem, reduceAdd, reduceMul]
 refine zd (yA p hcp) hpin ?_
 simp +decide only [bne_self_eq_false, hpin, za, zp, zb, zm, zx, zh, go_sem, reduceAdd, reduceMul]
 refine zd hsS hpin ?_
 simp +decide only [bne_self_eq_false, hpin, za, zp, zb, zm, zx, zh, go_sem, reduceAdd, reduceMul]
 refine Tri.ent ?_ (Ent.frb hfull 6)
 refine Tri.step ze ?_
 simp +decide only [bne_self_eq_false, hpin, za, zp, zb, zm, zx, zh, go_sem, reduceAdd, reduceMul]
 refine zd (yA p hcp) hpin ?_
 simp +decide only [bne_self_eq_false, hpin, za, zp, zb, zm, zx, zh, go_sem, reduceAdd, reduceMul]
 refine Tri.outN [] (x := .box [.row false 83 (rows (zg false) (p.nodes)), .row false 104 (rows (fnC false) (p.fns))]) (e := 83) (es := rows (zg false) (p.nodes)) 8 [(0, 0)] 1000 (by rfl) (by rfl) (by simp) (by rfl) (by rfl) (by decide) (zqt hpin) (pin3 hpin) hfull (fun z1000 C1000 hz1000 ho1000 hpK1000 hp31000 hfull1000 => ?_)
 have hpK := hpK1000
 have hp3 := hp31000
 have hfullK := hfull1000
 refine Tri.outN [1000] (x := .box [.sc z1000, .row false 104 (rows (fnC false) (p.fns))]) (e := 104) (es := rows (fnC false) (p.fns)) 8 [(0, 1)] 1001 (by rfl) (by rfl) (by simp) (by rfl) (by rfl) (by decide) hpK hp3 hfullK (fun z1001 C1001 hz1001 ho1001 hpK1001 hp31001 hfull1001 => ?_)
 have hz1000 : C1001.pin 1000 = some (z1000, 0, 0) := (ho1001 1000 (by decide)).trans hz1000
 have hpK := hpK1001
 have hp3 := hp31001
 have hfullK := hfull1001
 refine Tri.ent ?_ (Ent.frb hfullK 8)
 refine Tri.step ze ?_
 simp +decide only [bne_self_eq_false, hpK, hz1000, hz1001, za, zp, zb, zm, zx, zh, go_sem, reduceAdd, reduceMul]
 refine zV hsI hp3 ?_
 simp +decide only [bne_self_eq_false, hpK, hz1000, hz1001, za, zp, zb, zm, zx, zh, go_sem, reduceAdd, reduceMul]
 refine Tri.outN [1001, 1000] (x := .box [cS Q.name, cI Q.params, .row false 3 (row1 cI Q.locals), .row false 139 (rows (insC false) Q.words)]) (e := 3) (es := row1 cI Q.locals) 9 [(0, 2)] 1002 (by rfl) (by rfl) (by simp) (by rfl) (by rfl) (by decide) hpK hp3 hfullK (fun z1002 C1002 hz1002 ho1002 hpK1002 hp31002 hfull1002 => ?_)
 have hz1000 : C1002.pin 1000 = some (z1000, 0, 0) := (ho1002 1000 (by decide)).trans hz1000
 have hz1001 : C1002.pin 1001 = some (z1001, 0, 0) := (ho1002 1001 (by decide)).trans hz1001
 have hpK := hpK1002
 have hp3 := hp31002
 have hfullK := hfull1002
 refine Tri.outN [1002, 1001, 1000] (x := .box [cS Q.name, cI Q.params, .sc z1002, .row false 139 (rows (insC false) Q.words)]) (e := 139) (es := rows (insC false) Q.words) 9 [(0, 3)] 1003 (by rfl) (by rfl) (by simp) (by rfl) (by rfl) (by decide) hpK hp3 hfullK (fun z1003 C1003 hz1003 ho1003 hpK1003 hp31003 hfull1003 => ?_)
 have hz1000 : C1003.pin 1000 = some (z1000, 0, 0) := (ho1003 1000 (by decide)).trans hz1000
 have hz1001 : C1003.pin 1001 = some (z1001, 0, 0) := (ho1003 1001 (by decide)).trans hz1001
 have hz1002 : C1003.pin 1002 = some (z1002, 0, 0) := (ho1003 1002 (by decide)).trans hz1002
 have hpK := hpK1003
 have hp3 := hp31003
 have hfullK := hfull1003
 refine Tri.ent ?_ (Ent.frb hfullK 9)
 refine Tri.step ze ?_
 simp +decide only [bne_self_eq_false, hpK, hz1000, hz1001, hz1002, hz1003, za, zp, zb, zm, zx, zh, go_sem, reduceAdd, reduceMul]
 refine zV (YQ Q hcQ) hp3 ?_
 simp +decide only [bne_self_eq_false, hpK, hz1000, hz1001, hz1002, hz1003, za, zp, zb, zm, zx, zh, go_sem, reduceAdd, reduceMul]
 refine Tri.step ze ?_
 simp +decide only [bne_self_eq_false, hpK, hz1000, hz1001, hz1002, hz1003, za, zp, zb, zm, zx, zh, go_sem, reduceAdd, reduceMul]
 refine Tri.sched ze [(0, true), (1, false), (2, false), (3, false), (4, false)] zL (by kernel_rfl) (fun CX hCX => ?_)
 have hpX : ∀ o, zaM [1003, 1002, 1001, 1000] o = false -> CX.pin o = none := by rw [hCX]; exact hpK
 have hpX3 : ∀ n, 3000 <= n -> CX.pin n = none := by rw [hCX]; exact hp3
 have hzX1000 : CX.pin 1000 = some (z1000, 0, 0) := by rw [hCX]; exact hz1000
 have hzX1001 : CX.pin 1001 = some (z1001, 0, 0) := by rw [hCX]; exact hz1001
 have hzX1002 : CX.pin 1002 = some (z1002, 0, 0) := by rw [hCX]; exact hz1002
 have hzX1003 : CX.pin 1003 = some (z1003, 0, 0) := by rw [hCX]; exact hz1003
 simp +decide only [bne_self_eq_false, hpX, hzX1000, hzX1001, hzX1002, hzX1003, za, zp, zb, zm, zx, zh, go_sem, reduceAdd, reduceMul]
 refine zV (yA p hcp) hpX3 ?_
 simp +decide only [bne_self_eq_false, hpX, hzX1000, hzX1001, hzX1002, hzX1003, za, zp, zb, zm, zx, zh, go_sem, reduceAdd, reduceMul]
 refine zV (zac p hcp) hpX3 ?_
 simp +decide only [bne_self_eq_false, hpX, hzX1000, hzX1001, hzX1002, hzX1003, za, zp, zb, zm, zx, zh, go_sem, reduceAdd, reduceMul]
 refine Tri.step ze ?_
 simp +decide only [bne_self_eq_false, hpK, hz1000, hz1001, hz1002, hz1003, za, zp, zb, zm, zx, zh, go_sem, reduceAdd, reduceMul]
 refine Tri.step ze ?_
 simp +decide only [bne_self_eq_false, hpK, hz1000, hz1001, hz1002, hz1003, za, zp, zb, zm, zx, zh, go_sem, reduceAdd, reduceMul]
 refine xr (Xe p (1) (by omega) (by omega)) hp3 [(2000, 1000), (2001, 1001)] ⟨rfl, rfl, rfl⟩ (fun uf => ⟨rfl, rfl⟩) (fun uf => ?_) ?_
 · simp +decide only [bne_self_eq_false, hpK, hz1000, hz1001, hz1002, hz1003, za, zp, zb, zm, zx, zh, go_sem, reduceAdd, reduceMul]
 simp +decide only [bne_self_eq_false, hpK, hz1000, hz1001, hz1002, hz1003, za, zp, zb, zm, zx, zh, go_sem, reduceAdd, reduceMul]
 obtain ⟨q, hq⟩ : ∃ q : Int, q = 1 + (sumN Zw p.nodes : Nat) + (sumN fnN p.fns : Nat) := ⟨_, rfl⟩
 rw [<- hq]
 have hk0 : (q < 0) = False := by simp; omega
 refine Tri.step ze ?_
 simp +decide only [bne_self_eq_false, hk0, hpK, hz1000, hz1001, hz1002, hz1003, za, zp, zb, zm, zx, zh, go_sem, reduceAdd, reduceMul]
 refine zV (YQ Q hcQ) hp3 ?_
 simp +decide only [bne_self_eq_false, hpK, hz1000, hz1001, hz1002, hz1003, za, zp, zb, zm, zx, zh, go_sem, reduceAdd, reduceMul]
 refine Tri.step ze ?_
 simp +decide only [bne_self_eq_false, hpK, hz1000, hz1001, hz1002, hz1003, za, zp, zb, zm, zx, zh, go_sem, reduceAdd, reduceMul]
 refine Tri.step ze ?_
 simp +decide only [bne_self_eq_false, hpK, hz1000, hz1001, hz1002, hz1003, za, zp, zb, zm, zx, zh, go_sem, reduceAdd, reduceMul]
 refine xr (zfa Q (1) (by omega) (by omega)) hp3 [(2000, 1002), (2001, 1003)] ⟨rfl, rfl, rfl⟩ (fun uf => ⟨rfl, rfl⟩) (fun uf => ?_) ?_
 · simp +decide only [bne_self_eq_false, hpK, hz1000, hz1001, hz1002, hz1003, za, zp, zb, zm, zx, zh, go_sem, reduceAdd, reduceMul]
 simp +decide only [bne_self_eq_false, hpK, hz1000, hz1001, hz1002, hz1003, za, zp, zb, zm, zx, zh, go_sem, reduceAdd, reduceMul]
 have hhe := zff Q 1 (by omega) (by omega) (by omega)
 obtain ⟨M1, hM1⟩ : ∃ M1, M1 = Zk 1 Q.locals.length := ⟨_, rfl⟩
 obtain ⟨M2, hM2⟩ : ∃ M2, M2 = Zm (1 + Q.locals.length) Q.words := ⟨_, rfl⟩
 rw [<- hM1, <- hM2] at hhe |-
 refine Tri.step ze ?_
 simp +decide only [bne_self_eq_false, hpK, hz1000, hz1001, hz1002, hz1003, za, zp, zb, zm, zx, zh, go_sem, reduceAdd, reduceMul]
 refine Tri.step ze ?_
 simp +decide only [bne_self_eq_false, hpK, hz1000, hz1001, hz1002, hz1003, za, zp, zb, zm, zx, zh, go_sem, reduceAdd, reduceMul]
 refine zV hhe hp3 ?_
 simp +decide only [bne_self_eq_false, hpK, hz1000, hz1001, hz1002, hz1003, za, zp, zb, zm, zx, zh, go_sem, reduceAdd, reduceMul]
 obtain ⟨q2, hq2'⟩ : ∃ q : Int, q = 1 + (Q.locals.length : Int) + (sumN insN Q.words : Nat) := ⟨_, rfl⟩
 rw [<- hq2'] at hhe |-
 have hk2 : (q2 < 0) = False := by simp; omega
 refine Tri.step ze ?_
 simp +decide only [bne_self_eq_false, hk2, hpK, hz1000, hz1001, hz1002, hz1003, za, zp, zb, zm, zx, zh, go_sem, reduceAdd, reduceMul]
 refine Tri.step ze ?_
 simp +decide only [bne_self_eq_false, hpK, hz1000, hz1001, hz1002, hz1003, za, zp, zb, zm, zx, zh, go_sem, reduceAdd, reduceMul]
 refine Tri.step ze ?_
 simp +decide only [bne_self_eq_false, hpK, hz1000, hz1001, hz1002, hz1003, za, zp, zb, zm, zx, zh, go_sem, reduceAdd, reduceMul]
 refine zV (yA p hcp) hp3 ?_
 simp +decide only [bne_self_eq_false, hpK, hz1000, hz1001, hz1002, hz1003, za, zp, zb, zm, zx, zh, go_sem, reduceAdd, reduceMul]
 refine zV hsI hp3 ?_
 simp +decide only [bne_self_eq_false, hpK, hz1000, hz1001, hz1002, hz1003, za, zp, zb, zm, zx, zh, go_sem, reduceAdd, reduceMul]
 refine Tri.ent ?_ (Ent.frb hfullK 14)
 refine Tri.step ze ?_
 simp +decide only [bne_self_eq_false, hpK, hz1000, hz1001, hz1002, hz1003, za, zp, zb, zm, zx, zh, go_sem, reduceAdd, reduceMul]
 refine zV (YQ Q hcQ) hp3 ?_
 simp +decide only [bne_self_eq_false, hpK, hz1000, hz1001, hz1002, hz1003, za, zp, zb, zm, zx, zh, go_sem, reduceAdd, reduceMul]
 refine Tri.step ze ?_
 simp +decide only [bne_self_eq_false, hpK, hz1000, hz1001, hz1002, hz1003, za, zp, zb, zm, zx, zh, go_sem, reduceAdd, reduceMul]
 refine Tri.step ze ?_
 simp +decide only [bne_self_eq_false, hpK, hz1000, hz1001, hz1002, hz1003, za, zp, zb, zm, zx, zh, go_sem, reduceAdd, reduceMul]
 refine zV hhe hp3 ?_
 simp +decide only [bne_self_eq_false, hpK, hz1000, hz1001, hz1002, hz1003, za, zp, zb, zm, zx, zh, go_sem, reduceAdd, reduceMul]
 refine Tri.step ze ?_
 simp +decide only [bne_self_eq_false, hk2, hpK, hz1000, hz1001, hz1002, hz1003, za, zp, zb, zm, zx, zh, go_sem, reduceAdd, reduceMul]
 refine zf ze _ ?_
 simp +decide only [bne_self_eq_false, hpK, hz1000, hz1001, hz1002, hz1003, za, zp, zb, zm, zx, zh, go_sem, reduceAdd, reduceMul]
end Go.Proofs.YtjjigphfjclofaaGreatDoor.AW
namespace Go.Proofs.YtjjigphfjclofaaGreatDoor.fnExactLower
open Go.ChangeShapes Go.WideShapes Go.ChangeAt Go.RowKit
open Go.Proofs.YtjjigphfjclofaaGreatDoor.AW
open Go.Shelf Go.Lib
open Go.ChangeMaps (open_string shut_string)
set_option linter.unusedVariables false
set_option maxRecDepth 100000
theorem own : ownKnob Tryz.prog.godebug = none := by kernel_rfl
theorem laid : laidOutB Tryz.prog = true := by kernel_rfl
noncomputable def laidWorld (os : Os) : World :=
 let w0 := World.holding Tryz.prog os ⟨#[], #[], []⟩
 let put (h : Array Obj) (g : Nat) (cs : Array Value) : Array Obj := h.modify g fun
   | .cells _ t frozen => .cells cs t frozen
   | o => o
 let h1 := put w0.heap 1 (Lib.firstTab.map fun z => Value.int .u8 z).toArray
 let h2 := put h1 2 ((List.range 16).flatMap fun i => [Value.int .u8 (Lib.accLo i), Value.int .u8 (Lib.accHi i)]).toArray
 { w0 with heap := h2 }
theorem laid_met (os : Os) (args : Array Value) : laidMet Tryz.prog Rows.fnExactLowerRow.laid ((laidWorld os).forCall (fun _ _ => 0) ⟨#[], args, []⟩).memory :=
 (LaidIn.of_run (l := [("unicode/utf8.acceptRanges", Rows.laid_unicode_utf8_acceptRanges), ("unicode/utf8.first", Rows.laid_unicode_utf8_first)]) [2, 1] 8 (by kernel_rfl) (by kernel_rfl) (by kernel_rfl) (by kernel_rfl)).met
theorem witness_row (os : Os) {H : Type} (enc : TypeId × Value -> H) :
   (OpenSpec.ofChange Rows.fnExactLowerSpec).preRow enc Tryz.prog Tryz.f3 Rows.fnExactLowerRow.domain false Rows.fnExactLowerRow.laid ((laidWorld os).forCall (fun _ _ => 0) ⟨#[], #[.agg #[.slice none 0 0, .slice none 0 0], .int .i64 0], []⟩).memory #[.agg #[.slice none 0 0, .slice none 0 0], .int .i64 0] := by
 have hw : (DataW.whole enc Tryz.prog ((laidWorld os).forCall (fun _ _ => 0) ⟨#[], #[.agg #[.slice none 0 0, .slice none 0 0], .int .i64 0], []⟩).memory Tryz.f3.params.toList (OpenSpec.ofChange Rows.fnExactLowerSpec).vars false #[.agg #[.slice none 0 0, .slice none 0 0], .int .i64 0].toList 8).map (fun x => (x.1, x.2.1)) =
     some ([.agg [.nil, .nil], .lit (.int .i64 0)], []) := by kernel_rfl
 obtain ⟨⟨x1, x2, x3⟩, hx, hx1⟩ := Option.map_eq_some_iff.1 hw
 simp only [Prod.mk.injEq] at hx1
 obtain ⟨rfl, rfl⟩ := hx1
 exact OpenSpec.preRow_of_cond 8 hx (by kernel_rfl) (fun k hk => by cases hk) (by kernel_rfl) (laid_met os _)
theorem lifted (os : Os) (started : os.Started) (H : Type) (enc : TypeId × Value -> H) (F : Stop.Interp) :
   ReturnsInHanded {} Tryz.checked os 3 .any ((OpenSpec.ofChange Rows.fnExactLowerSpec).preRow enc Tryz.prog Tryz.f3 Rows.fnExactLowerRow.domain false Rows.fnExactLowerRow.laid) (((OpenSpec.ofChange Rows.fnExactLowerSpec).at F).post enc Tryz.prog Tryz.f3 false true false false) := by
 refine returnsInHanded_of_row (C := Tryz.checked) (s := OpenSpec.ofChange Rows.fnExactLowerSpec) own started (by kernel_rfl) Tryz.func3
   (witness_row_atRef (enc := enc) (C := Tryz.checked) false (laidWorld os) #[.agg #[.slice none 0 0, .slice none 0 0], .int .i64 0] rfl (by kernel_rfl) (by kernel_rfl) (by kernel_rfl) (witness_row os enc)) ?_
 intro W base args ds gs before hval0 hW hcnd _ hsz0 _ _ _
 have hsz : (DataW.weightsEach Tryz.prog (Tryz.f3.params.toList ++ (OpenSpec.ofChange Rows.fnExactLowerSpec).bare.plain.varTypes Tryz.prog) (ds ++ gs)).all (· <= reachBytes) = true := hsz0
 have hval : ∀ (j : Nat) t v, Tryz.f3.params[j]? = some t -> args[j]? = some v -> Value.okWide Tryz.prog W .any base t v := hval0
 have hW' := hW
 obtain ⟨p, q, hA0, hV, rfl, hfz, hnd⟩ := hW
 have hA : DataW.TrodAll enc Tryz.prog W 0 (fun _ => true) true Tryz.f3.params.toList args.toList ds p := hA0
 rw [Tryz.params3] at hA hval hsz
 obtain ⟨v0, vs0, d0, ds0, p0, q0, hargs, rfl, rfl, h0, r0⟩ := trodAll_cons hA
 obtain ⟨v1, vs1, d1, ds1, p1, q1, rfl, rfl, rfl, h1, r1⟩ := trodAll_cons r0
 obtain ⟨rfl, rfl, rfl⟩ := trodAll_nil r1
 obtain rfl : args = #[v0, v1] := by cases args; simp_all
 obtain ⟨rfl, rfl⟩ := trodVars_none hV
 have hlt0 : ∀ x ∈ p0, x.block < W.heap.size := fun x hx => by have := hW'.lt x (by simp only [List.mem_append]; exact Or.inl (Or.inl hx)); simpa using this
 have hlt1 : ∀ x ∈ p1, x.block < W.heap.size := fun x hx => by have := hW'.lt x (by simp only [List.mem_append]; exact Or.inl (Or.inr (Or.inl hx))); simpa using this
 obtain ⟨y0, hk0, ok0⟩ := zdK zkk h0 (Yq hsz (j := 0) rfl rfl)
 have hv0 := znn Tryz.underlying25 (hval 0 25 v0 rfl rfl) hk0 (zcA y0)
 obtain ⟨y1, hk1, ok1⟩ := zdK oInt h1 (Yq hsz (j := 1) rfl rfl)
 have hv1 := zpO hk1 (zpn Tryz.underlying3 (Or.inr (Or.inr (Or.inl ⟨_, rfl⟩))) (hval 1 3 v1 rfl rfl)) rfl
 clear hA0 hval0 hsz0 hsz
 refine (zaQ (ts := [zp y0, .sc (.int .i64 y1)]) (law_sound y0 y1 (XS y0 ok0)) rfl (fun i t hi => ?_)).mono fun e W' ⟨he, bel⟩ => ?_
 · match i, hi with
   | 0, hi => cases hi; exact hv0
   | 1, hi => cases hi; exact hv1
 subst he
 exact ⟨_, rfl, _, _, _, _, _, [], hW', trodAll_mk1 (shut_bool Tryz.underlying4 _), (trodAll_cons_mk (zej laid (by kernel_rfl) (of_decide_eq_true (by kernel_rfl)) h0 bel hlt0) (trodAll_cons_mk (zej laid (by kernel_rfl) (of_decide_eq_true (by kernel_rfl)) h1 bel hlt1) trodAll_mk0)), rfl, zkr bel _, fun h => by cases h⟩
theorem over : Rows.fnExactLowerRow.holds Tryz.pinned (OpenSpec.ofChange Rows.fnExactLowerSpec) :=
 OpenClaim.holds_of_cond 3 Tryz.f3 rfl rfl rfl rfl rfl rfl rfl ⟨rfl, rfl, rfl, rfl, rfl⟩ rfl rfl rfl rfl rfl (by kernel_rfl) Tryz.func3 (by kernel_rfl)
   (of_decide_eq_true (by kernel_rfl)) (by unfold Func.isWrapper; first | (rw [if_pos (by decide +kernel)]; kernel_rfl) | (rw [if_neg (by decide +kernel)]; exact ⟨rfl, rfl⟩))
   (fun os started H enc _ F0 => by rw [OpenClaim.pre_eq_preRow]; exact lifted os started H enc F0)
end Go.Proofs.YtjjigphfjclofaaGreatDoor.fnExactLower
namespace Go.Proofs.YtjjigphfjclofaaGreatDoor
theorem fnExactLower_card : Rows.FnExactLowerCardSaid :=
 Claim7.holds_tied_plain_at .later [] [.data, .pinned] true (true, "b030ab10bdf0fa3b43fde3c962dfcb6ef00d5d5018f7df2b571f7c2387c843d1") false
   fnExactLower.over (fun _ h => by cases h) (by kernel_rfl) (fun _ h => by cases h) fnExactLower_row_tie rfl ⟨rfl, rfl⟩ (by kernel_rfl) rfl
   (fun f fn hf hfn => by
     obtain rfl : f = 3 := Option.some.inj ((show Tryz.prog.funcNamed "loop.example/g00423/laws.FnExactLower" = some 3 by kernel_rfl).symm.trans hf) |>.symm
     obtain rfl : fn = Tryz.f3 := (Option.some.inj (Tryz.func3.symm.trans hfn)).symm
     exact ⟨by kernel_rfl, fun j t ht => by
       rw [Tryz.params3] at ht
       have h3 : t = 25 \/ t = 3 := by
         rcases j with _ | _ | j
         · left; simpa using ht.symm
         · right; simpa using ht.symm
         · simp at ht
       rcases h3 with rfl | rfl
       · exact (show Tryz.prog.wantsStandIn 25 = false by kernel_rfl)
       · exact (show Tryz.prog.wantsStandIn 3 = false by kernel_rfl)⟩)
   (by kernel_rfl)
end Go.Proofs.YtjjigphfjclofaaGreatDoor
