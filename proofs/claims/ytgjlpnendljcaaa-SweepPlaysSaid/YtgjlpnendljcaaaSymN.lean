/- Two rows handed back; a slice and a slice of slices handed over. No condition. -/
import Derived.Test.YtgjlpnendljcaaaSymM
namespace Go.Proofs.Ytgjlpnendljcaaa
open Go.RowKit
set_option maxRecDepth 100000
variable {C : Ctx} {ops : Array Oper} {S : St} {o : Oper}
theorem res_cells2 {fn : Func} {t1 t2 : Tmp} {ty1 ty2 : TypeId} {n1 n2 m1 m2 : Nat} {T1 T2 : TypeId} {A1 A2 : Array Value} {wr1 wr2 : Bool} {d1 d2 : TypeDesc} (h : fn.results = #[.cell t1 ty1, .cell t2 ty2]) (hv1 : S.tmp t1 = some (.p n1 0)) (hr1 : S.res n1 = some (.blk n1 T1 (.c A1) wr1)) (hv2 : S.tmp t2 = some (.p n2 0)) (hr2 : S.res n2 = some (.blk n2 T2 (.c A2) wr2))
    (hu1 : tabLook undT ty1 = some d1) (hda1 : d1.isRow = true) (hi1 : tabLook sizT ty1 = some m1) (hm1 : A1.size = m1) (hu2 : tabLook undT ty2 = some d2) (hda2 : d2.isRow = true) (hi2 : tabLook sizT ty2 = some m2) (hm2 : A2.size = m2) :
    ∀ e a w, Holds C S e a w → (results fn a.tmps).run Try.prog w = .ok ((SV.c (.tuple #[.agg A1, .agg A2])).den e) w := fun e a w hS => by
  have hu1 := tabAll_look undT_ok hu1
  have hi1 := tabAll_look sizT_ok hi1
  have hu2 := tabAll_look undT_ok hu2
  have hi2 := tabAll_look sizT_ok hi2
  obtain ⟨fr1, hb1, _⟩ := res_blk hS hr1
  obtain ⟨fr2, hb2, _⟩ := res_blk hS hr2
  have hp1 : a.tmps.getD t1 undef = .pointer (some ⟨(e n1).b, 0, none⟩) := getD_of (hS.tmp t1 _ hv1)
  have hp2 : a.tmps.getD t2 undef = .pointer (some ⟨(e n2).b, 0, none⟩) := getD_of (hS.tmp t2 _ hv2)
  have hp1' : a.tmps[t1]?.getD undef = .pointer (some ⟨(e n1).b, 0, none⟩) := by simpa using hp1
  have hp2' : a.tmps[t2]?.getD undef = .pointer (some ⟨(e n2).b, 0, none⟩) := by simpa using hp2
  have k1 := run_loadVar_row (P := Try.prog) w (e n1).b T1 ty1 A1 fr1 d1 hb1 hu1 (by cases d1 <;> simp_all) (by rw [hi1, hm1])
  have k2 := run_loadVar_row (P := Try.prog) w (e n2).b T2 ty2 A2 fr2 d2 hb2 hu2 (by cases d2 <;> simp_all) (by rw [hi2, hm2])
  simp [results, h, hp1', hp2', asAddr, k1, k2]
  rfl
theorem op_ext0 {x : Operand} {a b : Value} (ho : o.op = .extract x 0) (hg : o.guard = none) (hd : dstB o.dst C.nt = true) (hx : S.ev x = some (.c (.tuple #[a, b]))) : OpG C Try.prog ops o S ⟨opT x, [], dw o.dst (.c a), [], []⟩ := op_extractC ho hg hd hx rfl
theorem op_ext1 {x : Operand} {a b : Value} (ho : o.op = .extract x 1) (hg : o.guard = none) (hd : dstB o.dst C.nt = true) (hx : S.ev x = some (.c (.tuple #[a, b]))) : OpG C Try.prog ops o S ⟨opT x, [], dw o.dst (.c b), [], []⟩ := op_extractC ho hg hd hx rfl
theorem callM_rs {j : FuncId} {vs vs' : List SV} {u : Value} {d : List (BitVec 8)} {ns1 ns2 : List Nat} {v1 v2 : SV} {ds : List (List (BitVec 8))} (_h0 : vs = v1 :: v2 :: vs') (h1 : FSQ C S ns1 v1 d) (h2 : SlcQ C S ns2 v2 ds) (h : ∀ (e : Env) w, FS w 1 (v1.den e) d.length (valsL .u8 d) → SlcL w (v2.den e) ds → Calls Try.prog j (vs.map (·.den e)).toArray w fun r w' => r = .returned u ∧ Below w.heap.size w w') : CallM C S (ns1 ++ ns2) j vs u := fun S' e a w hS hq =>
  h e w (h1 S' e a w (fun q hq' => hq q (List.mem_append_left _ hq')) hS) (h2.at (fun q hq' => hq q (List.mem_append_right _ hq')) hS)
theorem callM_f {j : FuncId} {vs vs' : List SV} {u : Value} {d : List (BitVec 8)} {ns1 : List Nat} {v1 : SV} (_h0 : vs = v1 :: vs') (h1 : FSQ C S ns1 v1 d) (h : ∀ (e : Env) w, FS w 1 (v1.den e) d.length (valsL .u8 d) → Calls Try.prog j (vs.map (·.den e)).toArray w fun r w' => r = .returned u ∧ Below w.heap.size w w') : CallM C S ns1 j vs u := fun S' e a w hS hq => h e w (h1 S' e a w hq hS)
end Go.Proofs.Ytgjlpnendljcaaa
