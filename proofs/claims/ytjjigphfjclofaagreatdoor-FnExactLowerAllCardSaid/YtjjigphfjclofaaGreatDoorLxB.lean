/- FnExactLowerAll answers true for every input, and its arguments read behind the call as they read before. No condition beyond the row's own. -/
import Derived.Test.YtjjigphfjclofaaGreatDoorLx9
import Derived.Test.YtjjigphfjclofaaGreatDoorRows
import Derived.Test.YtjjigphfjclofaaGreatDoorCards
import Derived.Test.YtjjigphfjclofaaGreatDoorTie
import Derived.WalkKit
import Derived.ProofKit
import Derived.ShutString
import Derived.Carry
import Derived.Lib.LaidIn
import Derived.Lib.LaidU8
import Derived.Deep.DeepHandedRow
import Derived.Deep.DeepWitnessRowRef
import Derived.SevenTiedAt
namespace Go.Proofs.YtjjigphfjclofaaGreatDoor.AW
open Go.RowKit
open Nat (reduceAdd reduceMul)
set_option maxHeartbeats 8000000
set_option maxRecDepth 100000
set_option linter.unusedSimpArgs false
set_option linter.unusedVariables false
theorem law_sound (p : ProgramD) (hsp : ZI p) : zB Tryz.prog 4 [.ro (zp p)] (fun rs st => rs = [(false, [cB true])]) := by
 refine zt (fn := Tryz.f4) (c := Tryz.f4.body.getD .skip) (res := [.tm 2]) (n := 96) ze (by kernel_rfl) (by rfl) (by kernel_rfl) (by rfl) (by rfl) (by simp [zq]) (fun uf ub C hpin hpin2 hfull => ?_)
 simp only [Tryz.f4, Option.getD_some]
 refine Tri.step ze ?_
 simp +decide only [bne_self_eq_false, za, zp, zb, zm, zh, hpin, go_sem, reduceAdd, reduceMul]
 refine Tri.ent ?_ (Ent.frb hfull 1)
 refine Tri.step ze ?_
 simp +decide only [bne_self_eq_false, za, zp, zb, zm, zh, hpin, go_sem, reduceAdd, reduceMul]
 refine Tri.step ze ?_
 simp +decide only [za, zp, zb, zm, zh, hpin, go_sem, reduceAdd, reduceMul]
 refine zd (XM p (1048576) (by decide) (by decide) hsp) hpin ?_
 by_cases h0_ : (1048576 : Int) - ((zJ p : Nat) : Int) < 0
 · rw [yQ h0_]
   simp +decide only [bne_self_eq_false, za, zp, zb, zm, zh, hpin, go_sem, reduceAdd, reduceMul]
   refine zf ze _ ?_
   simp +decide only [za, zp, zb, zm, zh, hpin, go_sem, reduceAdd, reduceMul]
 rw [xO h0_]
 have n0_ : ((1048576 : Int) - ((zJ p : Nat) : Int) < 0) = False := by simpa using h0_
 simp +decide only [n0_, za, zp, zb, zm, zh, hpin, go_sem, reduceAdd, reduceMul]
 refine Tri.step ze ?_
 simp +decide only [n0_, za, zp, zb, zm, zh, hpin, go_sem, reduceAdd, reduceMul]
 have hcp : zJ p <= 1048576 := by omega
 obtain ⟨k1, k2⟩ := zcz hcp
 have k0 : p.fns.length <= 1048576 := by unfold zJ at hcp; omega
 have k3 := zaH hcp
 have hm1 := zca p.nodes
 have hm2 := zgK p.fns
 have hm3 : sumN zF p.nodes <= 1048576 /\ sumN yc p.fns <= 1048576 := by unfold zJ at hcp; omega
 have hcost : (xC p).length + sumN yZ (xC p) <= 1048576 := by have := zlh p; omega
 have hLn := zjl p
 refine Tri.step ze ?_
 simp +decide only [bne_self_eq_false, hpin, za, zp, zb, zm, zh, go_sem, reduceAdd, reduceMul]
 refine zd (yA p hcp) hpin ?_
 simp +decide only [bne_self_eq_false, hpin, za, zp, zb, zm, zh, go_sem, reduceAdd, reduceMul]
 refine zd (zdX p k0 k1 k2 k3) hpin ?_
 simp +decide only [bne_self_eq_false, hpin, za, zp, zb, zm, zh, go_sem, reduceAdd, reduceMul]
 refine Tri.step ze ?_
 simp +decide only [bne_self_eq_false, hpin, za, zp, zb, zm, zh, go_sem, reduceAdd, reduceMul]
 refine zd (yA p hcp) hpin ?_
 simp +decide only [bne_self_eq_false, hpin, za, zp, zb, zm, zh, go_sem, reduceAdd, reduceMul]
 refine Tri.outN [] (x := .box [.row false 83 (rows (zg false) (p.nodes)), .row false 104 (rows (fnC false) (p.fns))]) (e := 83) (es := rows (zg false) (p.nodes)) 6 [(0, 0)] 1000 (by rfl) (by rfl) (by simp) (by rfl) (by rfl) (by decide) (zqt hpin) (pin3 hpin) hfull (fun z1000 C1000 hz1000 ho1000 hpK1000 hp31000 hfull1000 => ?_)
 have hpK := hpK1000
 have hp3 := hp31000
 have hfullK := hfull1000
 refine Tri.outN [1000] (x := .box [.sc z1000, .row false 104 (rows (fnC false) (p.fns))]) (e := 104) (es := rows (fnC false) (p.fns)) 6 [(0, 1)] 1001 (by rfl) (by rfl) (by simp) (by rfl) (by rfl) (by decide) hpK hp3 hfullK (fun z1001 C1001 hz1001 ho1001 hpK1001 hp31001 hfull1001 => ?_)
 have hz1000 : C1001.pin 1000 = some (z1000, 0, 0) := (ho1001 1000 (by decide)).trans hz1000
 have hpK := hpK1001
 have hp3 := hp31001
 have hfullK := hfull1001
 refine Tri.ent ?_ (Ent.frb hfullK 6)
 refine Tri.step ze ?_
 simp +decide only [bne_self_eq_false, hpK, hz1000, hz1001, za, zp, zb, zm, zh, go_sem, reduceAdd, reduceMul]
 refine zV (XW p k0 k1 k2 k3) hp3 ?_
 simp +decide only [bne_self_eq_false, hpK, hz1000, hz1001, za, zp, zb, zm, zh, go_sem, reduceAdd, reduceMul]
 refine Tri.step ze ?_
 simp +decide only [bne_self_eq_false, hpK, hz1000, hz1001, za, zp, zb, zm, zh, go_sem, reduceAdd, reduceMul]
 refine zV (XC (xC p) hcost) hp3 ?_
 simp +decide only [bne_self_eq_false, hpK, hz1000, hz1001, za, zp, zb, zm, zh, go_sem, reduceAdd, reduceMul]
 refine Tri.step ze ?_
 simp +decide only [bne_self_eq_false, hpK, hz1000, hz1001, za, zp, zb, zm, zh, go_sem, reduceAdd, reduceMul]
 refine Tri.sched ze [(0, true), (1, true), (2, false), (3, false), (4, false)] zL (by kernel_rfl) (fun CX hCX => ?_)
 have hpX : ∀ o, zaM [1001, 1000] o = false -> CX.pin o = none := by rw [hCX]; exact hpK
 have hpX3 : ∀ n, 3000 <= n -> CX.pin n = none := by rw [hCX]; exact hp3
 have hzX1000 : CX.pin 1000 = some (z1000, 0, 0) := by rw [hCX]; exact hz1000
 have hzX1001 : CX.pin 1001 = some (z1001, 0, 0) := by rw [hCX]; exact hz1001
 simp +decide only [bne_self_eq_false, hpX, hzX1000, hzX1001, za, zp, zb, zm, zh, go_sem, reduceAdd, reduceMul]
 refine zV (yA p hcp) hpX3 ?_
 simp +decide only [bne_self_eq_false, hpX, hzX1000, hzX1001, za, zp, zb, zm, zh, go_sem, reduceAdd, reduceMul]
 refine zV (zac p hcp) hpX3 ?_
 simp +decide only [bne_self_eq_false, hpX, hzX1000, hzX1001, za, zp, zb, zm, zh, go_sem, reduceAdd, reduceMul]
 refine Tri.step ze ?_
 simp +decide only [bne_self_eq_false, hpK, hz1000, hz1001, za, zp, zb, zm, zh, go_sem, reduceAdd, reduceMul]
 refine Tri.step ze ?_
 simp +decide only [bne_self_eq_false, hpK, hz1000, hz1001, za, zp, zb, zm, zh, go_sem, reduceAdd, reduceMul]
 refine xr (Xe p (1) (by omega) (by omega)) hp3 [(2000, 1000), (2001, 1001)] ⟨rfl, rfl, rfl⟩ (fun uf => ⟨rfl, rfl⟩) (fun uf => ?_) ?_
 · simp +decide only [bne_self_eq_false, hpK, hz1000, hz1001, za, zp, zb, zm, zh, go_sem, reduceAdd, reduceMul]
 simp +decide only [bne_self_eq_false, hpK, hz1000, hz1001, za, zp, zb, zm, zh, go_sem, reduceAdd, reduceMul]
 have hk0 : ((1 + (sumN Zw p.nodes : Nat) + (sumN fnN p.fns : Nat) : Int) < 0) = False := by simp; omega
 refine Tri.step ze ?_
 simp +decide only [bne_self_eq_false, hk0, hpK, hz1000, hz1001, za, zp, zb, zm, zh, go_sem, reduceAdd, reduceMul]
 refine zV (XC (xC p) hcost) hp3 ?_
 simp +decide only [bne_self_eq_false, hpK, hz1000, hz1001, za, zp, zb, zm, zh, go_sem, reduceAdd, reduceMul]
 refine Tri.step ze ?_
 simp +decide only [bne_self_eq_false, hpK, hz1000, hz1001, za, zp, zb, zm, zh, go_sem, reduceAdd, reduceMul]
 refine Tri.step ze ?_
 simp +decide only [bne_self_eq_false, hpK, hz1000, hz1001, za, zp, zb, zm, zh, go_sem, reduceAdd, reduceMul]
 refine xr (zdV (xC p) (1) (by omega) (by omega)) hp3 [(2000, 7)] ⟨rfl, rfl, rfl⟩ (fun uf => ⟨rfl, rfl⟩) (fun uf => ?_) ?_
 · simp +decide only [bne_self_eq_false, hpK, hz1000, hz1001, za, zp, zb, zm, zh, go_sem, reduceAdd, reduceMul]
 simp +decide only [bne_self_eq_false, hpK, hz1000, hz1001, za, zp, zb, zm, zh, go_sem, reduceAdd, reduceMul]
 have hTK : List.take (xC p).length (rows (zm false) (yS 1 (xC p))) = rows (zm false) (yS 1 (xC p)) := by
   have := yq (zm false) (yS 1 (xC p))
   rwa [xK] at this
 refine Tri.step ze ?_
 simp +decide only [bne_self_eq_false, hpK, hz1000, hz1001, za, zp, zb, zm, zh, go_sem, reduceAdd, reduceMul]
 refine Tri.step ze ?_
 simp +decide only [bne_self_eq_false, hpK, hz1000, hz1001, za, zp, zb, zm, zh, go_sem, reduceAdd, reduceMul]
 refine zV (zab (xC p) 1 (by omega) (by omega)) hp3 ?_
 simp +decide only [bne_self_eq_false, hTK, hpK, hz1000, hz1001, za, zp, zb, zm, zh, go_sem, reduceAdd, reduceMul]
 have hq0 : ((1 + (sumN xP (xC p) : Nat) : Int) < 0) = False := by simp; omega
 refine Tri.step ze ?_
 simp +decide only [bne_self_eq_false, hq0, hpK, hz1000, hz1001, za, zp, zb, zm, zh, go_sem, reduceAdd, reduceMul]
 refine Tri.step ze ?_
 simp +decide only [bne_self_eq_false, hpK, hz1000, hz1001, za, zp, zb, zm, zh, go_sem, reduceAdd, reduceMul]
 refine Tri.step ze ?_
 simp +decide only [bne_self_eq_false, hpK, hz1000, hz1001, za, zp, zb, zm, zh, go_sem, reduceAdd, reduceMul]
 refine zV (yA p hcp) hp3 ?_
 simp +decide only [bne_self_eq_false, hpK, hz1000, hz1001, za, zp, zb, zm, zh, go_sem, reduceAdd, reduceMul]
 refine zV (XW p k0 k1 k2 k3) hp3 ?_
 simp +decide only [bne_self_eq_false, hpK, hz1000, hz1001, za, zp, zb, zm, zh, go_sem, reduceAdd, reduceMul]
 refine Tri.step ze ?_
 simp +decide only [bne_self_eq_false, hpK, hz1000, hz1001, za, zp, zb, zm, zh, go_sem, reduceAdd, reduceMul]
 refine zV (XC (xC p) hcost) hp3 ?_
 simp +decide only [bne_self_eq_false, hpK, hz1000, hz1001, za, zp, zb, zm, zh, go_sem, reduceAdd, reduceMul]
 refine Tri.step ze ?_
 simp +decide only [bne_self_eq_false, hpK, hz1000, hz1001, za, zp, zb, zm, zh, go_sem, reduceAdd, reduceMul]
 refine Tri.step ze ?_
 simp +decide only [bne_self_eq_false, hpK, hz1000, hz1001, za, zp, zb, zm, zh, go_sem, reduceAdd, reduceMul]
 refine zV (zab (xC p) 1 (by omega) (by omega)) hp3 ?_
 simp +decide only [bne_self_eq_false, hTK, hpK, hz1000, hz1001, za, zp, zb, zm, zh, go_sem, reduceAdd, reduceMul]
 refine Tri.step ze ?_
 simp +decide only [bne_self_eq_false, hq0, hpK, hz1000, hz1001, za, zp, zb, zm, zh, go_sem, reduceAdd, reduceMul]
 refine zf ze _ ?_
 simp +decide only [bne_self_eq_false, hpK, hz1000, hz1001, za, zp, zb, zm, zh, go_sem, reduceAdd, reduceMul]
end Go.Proofs.YtjjigphfjclofaaGreatDoor.AW
namespace Go.Proofs.YtjjigphfjclofaaGreatDoor.fnExactLowerAll
open Go.ChangeShapes Go.WideShapes Go.ChangeAt Go.RowKit
open Go.Proofs.YtjjigphfjclofaaGreatDoor.AW
open Go.Shelf Go.Lib
open Go.ChangeMaps (open_string shut_string)
set_option linter.unusedVariables false
set_option maxRecDepth 100000
theorem own : ownKnob Tryz.prog.godebug = none := by kernel_rfl
theorem laid : laidOutB Tryz.prog = true := by kernel_rfl
noncomputable def laidWorld (os : Os) : World :=
 let w0 := World.holding Tryz.prog os ⟨#[], #[], []⟩
 let put (h : Array Obj) (g : Nat) (cs : Array Value) : Array Obj := h.modify g fun
   | .cells _ t frozen => .cells cs t frozen
   | o => o
 let h1 := put w0.heap 1 (Lib.firstTab.map fun z => Value.int .u8 z).toArray
 let h2 := put h1 2 ((List.range 16).flatMap fun i => [Value.int .u8 (Lib.accLo i), Value.int .u8 (Lib.accHi i)]).toArray
 { w0 with heap := h2 }
theorem laid_met (os : Os) (args : Array Value) : laidMet Tryz.prog Rows.fnExactLowerAllRow.laid ((laidWorld os).forCall (fun _ _ => 0) ⟨#[], args, []⟩).memory :=
 (LaidIn.of_run (l := [("unicode/utf8.acceptRanges", Rows.laid_unicode_utf8_acceptRanges), ("unicode/utf8.first", Rows.laid_unicode_utf8_first)]) [2, 1] 8 (by kernel_rfl) (by kernel_rfl) (by kernel_rfl) (by kernel_rfl)).met
theorem witness_row (os : Os) {H : Type} (enc : TypeId × Value -> H) :
   (OpenSpec.ofChange Rows.fnExactLowerAllSpec).preRow enc Tryz.prog Tryz.f4 Rows.fnExactLowerAllRow.domain false Rows.fnExactLowerAllRow.laid ((laidWorld os).forCall (fun _ _ => 0) ⟨#[], #[.agg #[.slice none 0 0, .slice none 0 0]], []⟩).memory #[.agg #[.slice none 0 0, .slice none 0 0]] := by
 have hw : (DataW.whole enc Tryz.prog ((laidWorld os).forCall (fun _ _ => 0) ⟨#[], #[.agg #[.slice none 0 0, .slice none 0 0]], []⟩).memory Tryz.f4.params.toList (OpenSpec.ofChange Rows.fnExactLowerAllSpec).vars false #[.agg #[.slice none 0 0, .slice none 0 0]].toList 8).map (fun x => (x.1, x.2.1)) =
     some ([.agg [.nil, .nil]], []) := by kernel_rfl
 obtain ⟨⟨x1, x2, x3⟩, hx, hx1⟩ := Option.map_eq_some_iff.1 hw
 simp only [Prod.mk.injEq] at hx1
 obtain ⟨rfl, rfl⟩ := hx1
 exact OpenSpec.preRow_of_cond 8 hx (by kernel_rfl) (fun k hk => by cases hk) (by kernel_rfl) (laid_met os _)
theorem lifted (os : Os) (started : os.Started) (H : Type) (enc : TypeId × Value -> H) (F : Stop.Interp) :
   ReturnsInHanded {} Tryz.checked os 4 .any ((OpenSpec.ofChange Rows.fnExactLowerAllSpec).preRow enc Tryz.prog Tryz.f4 Rows.fnExactLowerAllRow.domain false Rows.fnExactLowerAllRow.laid) (((OpenSpec.ofChange Rows.fnExactLowerAllSpec).at F).post enc Tryz.prog Tryz.f4 false true false false) := by
 refine returnsInHanded_of_row (C := Tryz.checked) (s := OpenSpec.ofChange Rows.fnExactLowerAllSpec) own started (by kernel_rfl) Tryz.func4
   (witness_row_atRef (enc := enc) (C := Tryz.checked) false (laidWorld os) #[.agg #[.slice none 0 0, .slice none 0 0]] rfl (by kernel_rfl) (by kernel_rfl) (by kernel_rfl) (witness_row os enc)) ?_
 intro W base args ds gs before hval0 hW hcnd _ hsz0 _ _ _
 have hsz : (DataW.weightsEach Tryz.prog (Tryz.f4.params.toList ++ (OpenSpec.ofChange Rows.fnExactLowerAllSpec).bare.plain.varTypes Tryz.prog) (ds ++ gs)).all (· <= reachBytes) = true := hsz0
 have hval : ∀ (j : Nat) t v, Tryz.f4.params[j]? = some t -> args[j]? = some v -> Value.okWide Tryz.prog W .any base t v := hval0
 have hW' := hW
 obtain ⟨p, q, hA0, hV, rfl, hfz, hnd⟩ := hW
 have hA : DataW.TrodAll enc Tryz.prog W 0 (fun _ => true) true Tryz.f4.params.toList args.toList ds p := hA0
 rw [Tryz.params4] at hA hval hsz
 obtain ⟨v0, vs0, d0, ds0, p0, q0, hargs, rfl, rfl, h0, r0⟩ := trodAll_cons hA
 obtain ⟨rfl, rfl, rfl⟩ := trodAll_nil r0
 obtain rfl : args = #[v0] := by cases args; simp_all
 obtain ⟨rfl, rfl⟩ := trodVars_none hV
 have hlt0 : ∀ x ∈ p0, x.block < W.heap.size := fun x hx => by have := hW'.lt x (by simp only [List.mem_append]; exact Or.inl (Or.inl hx)); simpa using this
 obtain ⟨y0, hk0, ok0⟩ := zdK zkk h0 (Yq hsz (j := 0) rfl rfl)
 have hv0 := znn Tryz.underlying25 (hval 0 25 v0 rfl rfl) hk0 (zcA y0)
 clear hA0 hval0 hsz0 hsz
 refine (zaQ (ts := [zp y0]) (law_sound y0 (XS y0 ok0)) rfl (fun i t hi => ?_)).mono fun e W' ⟨he, bel⟩ => ?_
 · match i, hi with
   | 0, hi => cases hi; exact hv0
 subst he
 exact ⟨_, rfl, _, _, _, _, _, [], hW', trodAll_mk1 (shut_bool Tryz.underlying4 _), (trodAll_cons_mk (zej laid (by kernel_rfl) (of_decide_eq_true (by kernel_rfl)) h0 bel hlt0) trodAll_mk0), rfl, zkr bel _, fun h => by cases h⟩
theorem over : Rows.fnExactLowerAllRow.holds Tryz.pinned (OpenSpec.ofChange Rows.fnExactLowerAllSpec) :=
 OpenClaim.holds_of_cond 4 Tryz.f4 rfl rfl rfl rfl rfl rfl rfl ⟨rfl, rfl, rfl, rfl, rfl⟩ rfl rfl rfl rfl rfl (by kernel_rfl) Tryz.func4 (by kernel_rfl)
   (of_decide_eq_true (by kernel_rfl)) (by unfold Func.isWrapper; first | (rw [if_pos (by decide +kernel)]; kernel_rfl) | (rw [if_neg (by decide +kernel)]; exact ⟨rfl, rfl⟩))
   (fun os started H enc _ F0 => by rw [OpenClaim.pre_eq_preRow]; exact lifted os started H enc F0)
end Go.Proofs.YtjjigphfjclofaaGreatDoor.fnExactLowerAll
namespace Go.Proofs.YtjjigphfjclofaaGreatDoor
theorem fnExactLowerAll_card : Rows.FnExactLowerAllCardSaid :=
 Claim7.holds_tied_plain_at .later [] [.data, .pinned] true (true, "b030ab10bdf0fa3b43fde3c962dfcb6ef00d5d5018f7df2b571f7c2387c843d1") false
   fnExactLowerAll.over (fun _ h => by cases h) (by kernel_rfl) (fun _ h => by cases h) fnExactLowerAll_row_tie rfl ⟨rfl, rfl⟩ (by kernel_rfl) rfl
   (fun f fn hf hfn => by
     obtain rfl : f = 4 := Option.some.inj ((show Tryz.prog.funcNamed "loop.example/g00423/laws.FnExactLowerAll" = some 4 by kernel_rfl).symm.trans hf) |>.symm
     obtain rfl : fn = Tryz.f4 := (Option.some.inj (Tryz.func4.symm.trans hfn)).symm
     exact ⟨by kernel_rfl, fun j t ht => by
       rw [Tryz.params4] at ht
       have h3 : t = 25 := by
         rcases j with _ | j
         · simpa using ht.symm
         · simp at ht
       subst h3
       exact (show Tryz.prog.wantsStandIn 25 = false by kernel_rfl)⟩)
   (by kernel_rfl)
end Go.Proofs.YtjjigphfjclofaaGreatDoor
