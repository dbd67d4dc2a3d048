/- Slices of slices handed over beside an object; slices built of many values; slices made. No condition. -/
import Derived.Test.YtgjlpnendljcaaaSymJ
namespace Go.Proofs.Ytgjlpnendljcaaa
open Go.RowKit
set_option maxRecDepth 100000
variable {C : Ctx} {ops : Array Oper} {S : St} {o : Oper}
/-! ### slices built of many values -/
theorem fill_ones : ∀ (us : List Value) (k : Nat) (B : Array Value), (∀ u ∈ us, u.cells = #[u]) → B.size = k + us.length →
    Instr.fill (fun i => some (i * 1, 1)) B ((us.zipIdx k).map fun p => (p.2, p.1)) = some (B.toList.take k ++ us).toArray
  | [], k, B, _, hB => by
    simp at hB
    simp [Instr.fill, List.take_of_length_le (show B.toList.length ≤ k by simp; omega)]
  | u :: us, k, B, h, hB => by
    have hu := h u (by simp)
    simp at hB
    rw [List.zipIdx_cons, List.map_cons, Instr.fill]
    dsimp only
    have h3 : (u.cells.zipIdx.foldl (fun cs x => cs.setIfInBounds (k * 1 + x.2) x.1) B) = B.setIfInBounds k u := by rw [hu]; simp
    split
    · rename_i hc
      exfalso
      rw [hu] at hc
      simp at hc
      omega
    · refine (congrArg (fun c => Instr.fill (fun i => some (i * 1, 1)) c ((us.zipIdx (k + 1)).map fun p => (p.2, p.1))) h3).trans ((fill_ones us (k + 1) _ (fun x hx => h x (by simp [hx])) (by simp; omega)).trans ?_)
      simp only [Array.toList_setIfInBounds]
      rw [List.take_succ_eq_append_getElem (by simp; omega)]
      simp [List.take_set_of_le]
def EvL1 (S : St) : List (Nat × Operand) → Nat → List SV → Prop
  | [], _, [] => True
  | p :: ps, k, v :: vs => p.1 = k ∧ S.ev p.2 = some v ∧ EvL1 S ps (k + 1) vs
  | _, _, _ => False
theorem evl1_nil {k : Nat} : EvL1 S [] k [] := trivial
theorem evl1_cons {k : Nat} {x : Operand} {v : SV} {ps : List (Nat × Operand)} {vs : List SV} (hx : S.ev x = some v) (h : EvL1 S ps (k + 1) vs) : EvL1 S ((k, x) :: ps) k (v :: vs) := ⟨rfl, hx, h⟩
theorem evl1_len : ∀ {ps : List (Nat × Operand)} {k : Nat} {vs : List SV}, EvL1 S ps k vs → ps.length = vs.length
  | [], _, [], _ => rfl
  | _ :: _, _, _ :: _, h => by simp [evl1_len h.2.2]
/-- Values that take one cell each. -/
def OneS (C : Ctx) (S : St) (rb : List Nat) (vs : List SV) : Prop := ∀ (S' : St) e a w, Holds C S' e a w → (∀ q ∈ rb, S'.res q = S.res q) → ∀ v ∈ vs, (v.den e).cells = #[v.den e]
theorem ones_nil : OneS C S [] [] := fun _ _ _ _ _ _ v hv => by cases hv
theorem ones_one {v : SV} {rb : List Nat} {vs : List SV} (h : ∀ e, (v.den e).cells = #[v.den e]) (h2 : OneS C S rb vs) : OneS C S rb (v :: vs) := fun S' e a w hS hq u hu => by
  rcases List.mem_cons.1 hu with rfl | hu
  · exact h e
  · exact h2 S' e a w hS hq u hu
theorem own_cells {w : World} {T size len : Nat} {xs : List Value} {v : Value} (h : w.ownsRow 0 T size v len xs) : v.cells = #[v] := by
  rcases h.2 with ⟨h3, _⟩ | ⟨g, cap, cur, h3, _⟩ <;> rw [h3] <;> rfl
theorem ones_own {q T0 size len : Nat} {xs : List Value} {rb : List Nat} {vs : List SV} (hr : S.res q = some (.own q T0 size len xs)) (h2 : OneS C S rb vs) : OneS C S (q :: rb) (.v q :: vs) := fun S' e a w hS hq u hu => by
  rcases List.mem_cons.1 hu with rfl | hu
  · exact own_cells (hS.res q _ ((hq q (by simp)).trans hr))
  · exact h2 S' e a w hS (fun x hx => hq x (List.mem_cons_of_mem _ hx)) u hu
theorem ones_sub {q T0 size len lo cnt : Nat} {xs : List Value} {rb : List Nat} {vs : List SV} (hr : S.res q = some (.own q T0 size len xs)) (h2 : OneS C S rb vs) : OneS C S (q :: rb) (.sub q lo cnt :: vs) := fun S' e a w hS hq u hu => by
  rcases List.mem_cons.1 hu with rfl | hu
  · have h : w.ownsRow 0 T0 size (e q).v len xs := hS.res q _ ((hq q (by simp)).trans hr)
    show (cutV (e q).v lo cnt).cells = #[cutV (e q).v lo cnt]
    rcases h.2 with ⟨h3, _⟩ | ⟨g, cap, cur, h3, _⟩ <;> rw [h3] <;> rfl
  · exact h2 S' e a w hS (fun x hx => hq x (List.mem_cons_of_mem _ hx)) u hu
theorem op_bsliceL {t T n len : Nat} {parts : Array (Nat × Operand)} {vs : List SV} {Z : Array Value} {rb : List Nat} (ho : o.op = .buildSlice t len parts) (hl : EvL1 S parts.toList 0 vs) (hlen : vs.length = len) (hdn : o.dst = some n) (hg : o.guard = none) (hd : dstB o.dst C.nt = true) (hu' : tabLook undT t = some (.slice T)) (hs' : tabLook sizT T = some 1) (hz' : tabLook zerT T = some Z) (hZ : Z.size = 1) (hsz : (decide (0 < len) && decide (len < 10000)) = true) (hA : OneS C S rb vs) (hn : ((SA.l vs).sup.any fun y => Nat.beq n y) = false) :
    OpG C Try.prog ops o S ⟨parts.toList.flatMap fun p => opT p.2, rb ++ (SA.l vs).sup, [(n, .s n 0 len len)], [(n, some (.blk n T (.l vs)))], [n]⟩ := by
  refine opG_mk hg fun S' h1 h2 h3 e a w hS => ?_
  have hns : n ∉ (SA.l vs).sup := fun h => by have := List.any_eq_false.1 hn n h; simp at this
  simp only [Bool.and_eq_true, decide_eq_true_eq] at hsz
  have hN := hS.newBlk (h3 n (by simp)) T (.l vs) hns
  have hone := hA S' e a w hS fun q hq => h2 q (List.mem_append_left _ hq)
  have hu := tabAll_look undT_ok hu'
  have hz := tabAll_look zerT_ok hz'
  obtain ⟨zv, hz3, hzc⟩ : ∃ zv, (zeroValue T).run Try.prog w = .ok zv w ∧ zv.cells = Z := by
    cases hb : (Try.prog.info? T) with
    | none => simp [hb] at hz
    | some i =>
      cases hc : i.zero with
      | none => simp [hb, hc] at hz
      | some zz => exact ⟨zz, by simp [zeroValue, typeInfo, hb, hc], by simpa [hb, hc] using hz⟩
  have hp : ∀ (ps : List (Nat × Operand)) (k : Nat) (vs : List SV), EvL1 S ps k vs → (∀ p ∈ ps, S'.ev p.2 = S.ev p.2) → ps.map (fun p => (p.1, a.eval p.2)) = ((vs.map (·.den e)).zipIdx k).map fun p => (p.2, p.1) := by
    intro ps
    induction ps with
    | nil =>
      intro k vs h _
      cases vs with
      | nil => rfl
      | cons v vs => exact h.elim
    | cons p ps ih =>
      intro k vs h hq
      cases vs with
      | nil => exact h.elim
      | cons v vs =>
        have he := hS.ev ((hq p (by simp)).trans h.2.1)
        simp only [List.map_cons, List.zipIdx_cons]
        rw [ih (k + 1) vs h.2.2 fun x hx => hq x (List.mem_cons_of_mem _ hx), he, h.1]
  have hparts := hp parts.toList 0 vs hl fun p hp => ev_like h1 fun i hi => List.mem_flatMap.2 ⟨p, hp, hi⟩
  have hpa : parts.map (fun p => (p.1, a.eval p.2)) = (((vs.map (·.den e)).zipIdx 0).map fun p => (p.2, p.1)).toArray := by
    rw [← hparts, ← Array.toList_map, Array.toArray_toList]
  refine wp_value (v := .slice (some ⟨w.heap.size, 0, none⟩) len len) (w' := w.alloc (.cells ((SA.l vs).den e) T)) ?_ ⟨e.set n ⟨w.heap.size, 0, undef⟩, ?_⟩
  · have hne : ¬ len = 0 := by omega
    have hfill := fill_ones (vs.map (·.den e)) 0 ((Array.range len).map fun x => Z[x % Z.size]!) (fun u hu => by
      obtain ⟨v, hv, rfl⟩ := List.mem_map.1 hu
      exact hone v hv) (by simp [hlen])
    simp only [execOp, ho, Instr.buildSlice, Sem.run_bind, run_underlying hu w, Result.andThen_ok, run_sizeT hs' w, Nat.mul_one, Sem.run_ite]
    simp only [show ¬ (len > 2 ^ 24) from by omega, if_false, hne, Sem.run_bind, hz3, Result.andThen_ok, Sem.run_pure, hzc, hpa]
    simp only [Nat.mul_one] at hfill ⊢
    rw [hfill]
    simp [newRow, SA.l]
  · rw [hdn]
    have hd' : dstB (some n) C.nt = true := by rw [← hdn]; exact hd
    have := hN.put hd' (.s n 0 len len)
    simp only [SV.s, Env.set_self] at this
    exact this
/-! ### slices of slices, told of a state -/
def FSQ (C : Ctx) (S : St) (ns : List Nat) (v : SV) (d : List (BitVec 8)) : Prop := ∀ (S' : St) e a w, (∀ x ∈ ns, S'.res x = S.res x) → Holds C S' e a w → FS w 1 (v.den e) d.length (valsL .u8 d)
def FSQs (C : Ctx) (S : St) (ns : List Nat) (vs : List SV) (ds : List (List (BitVec 8))) : Prop := vs.length = ds.length ∧ ∀ (i : Nat) d, ds[i]? = some d → ∃ v, vs[i]? = some v ∧ FSQ C S ns v d
def SlcQ (C : Ctx) (S : St) (ns : List Nat) (v : SV) (ds : List (List (BitVec 8))) : Prop := ∀ e, ∃ ps, (∀ (S' : St) a w, (∀ x ∈ ns, S'.res x = S.res x) → Holds C S' e a w → RdV w 1 (v.den e) ds.length ps) ∧ ∀ (i : Nat) d, ds[i]? = some d → ∃ p, ps[i]? = some p ∧ ∀ (S' : St) a w, (∀ x ∈ ns, S'.res x = S.res x) → Holds C S' e a w → FS w 1 p d.length (valsL .u8 d)
theorem FSQ.more {ns ns' : List Nat} {v : SV} {d : List (BitVec 8)} (h : FSQ C S ns v d) (hs : ∀ x ∈ ns, x ∈ ns') : FSQ C S ns' v d := fun S' e a w hq hS => h S' e a w (fun x hx => hq x (hs x hx)) hS
theorem fsqs_nil : FSQs C S [] [] [] := ⟨rfl, fun i d h => by simp at h⟩
theorem fsqs_cons {ns1 ns2 : List Nat} {v : SV} {d : List (BitVec 8)} {vs : List SV} {ds : List (List (BitVec 8))} (h : FSQ C S ns1 v d) (h2 : FSQs C S ns2 vs ds) : FSQs C S (ns1 ++ ns2) (v :: vs) (d :: ds) := by
  refine ⟨by simp [h2.1], fun i x hx => ?_⟩
  cases i with
  | zero => simp at hx; subst hx; exact ⟨v, rfl, h.more fun x hx => List.mem_append_left _ hx⟩
  | succ i =>
    obtain ⟨u, h3, h4⟩ := h2.2 i x (by simpa using hx)
    exact ⟨u, by simpa using h3, h4.more fun x hx => List.mem_append_right _ hx⟩
theorem fsq_own {n : Nat} {T k : Nat} {d : List (BitVec 8)} (hr : S.res n = some (.own n T 1 k (valsL .u8 d))) : FSQ C S [n] (.v n) d := fun S' e a w hq hS => by
  have h := fs_own ((hq n (by simp)).trans hr) hS
  have hk : k = d.length := by have := h.1.1; rw [valsL_length] at this; omega
  subst hk; exact h
theorem fsq_whole {n : Nat} {T : TypeId} {wr : Bool} {l : List (BitVec 8)} {len cap : Nat} (hr : S.res n = some (.blk n T (.c (vals .u8 l)) wr)) (hc : l.length = len) (hcap : len ≤ cap) : FSQ C S [n] (.s n 0 len cap) l := fun S' e a w hq hS => by
  subst hc
  exact ⟨rdn_whole hr rfl S' e a w hq hS, _, _, rfl, hcap⟩
theorem fsq_ones {n : Nat} {T : TypeId} {wr : Bool} {z : Int} {cap : Nat} (hr : S.res n = some (.blk n T (.l [SV.c (.int .u8 z)]) wr)) (hz : (decide (0 ≤ z) && decide (z < 2 ^ 8)) = true) (hcap : 1 ≤ cap) : FSQ C S [n] (.s n 0 1 cap) [BitVec.ofInt 8 z] := fun S' e a w hq hS => ⟨rdn_ones hr hz S' e a w hq hS, _, _, rfl, hcap⟩
theorem fsq_one {n : Nat} {T : TypeId} {wr : Bool} {x : BitVec 8} {cap : Nat} (hr : S.res n = some (.blk n T (.l [SV.c (.int .u8 (bvi x))]) wr)) (hcap : 1 ≤ cap) : FSQ C S [n] (.s n 0 1 cap) [x] := fun S' e a w hq hS => ⟨rdn_one hr S' e a w hq hS, _, _, rfl, hcap⟩
theorem fsq_nil : FSQ C S [] (.c (.slice none 0 0)) [] := fun _ _ _ _ _ _ => ⟨⟨by simp [valsL], none, 0, rfl, .inl rfl⟩, none, 0, rfl, Nat.le_refl _⟩
theorem fsq_old {v : Value} {d : List (BitVec 8)} {k : Nat} (h : FSX C.w0 C.m 1 v k (valsL .u8 d)) : FSQ C S [] (.c v) d := fun S' e a w hq hS => by
  have hk : k = d.length := by have := h.fs.1.1; rw [valsL_length] at this; omega
  subst hk; exact h w hS.frame.belowX
theorem slcq_list {n : Nat} {T : TypeId} {vs : List SV} {wr : Bool} {ns : List Nat} {ds : List (List (BitVec 8))} {k cap : Nat} (hr : S.res n = some (.blk n T (.l vs) wr)) (h : FSQs C S ns vs ds) (hk : k = ds.length) : SlcQ C S (n :: ns) (.s n 0 k cap) ds := by
  subst hk
  refine fun e => ⟨vs.map (·.den e), fun S' a w hq hS => ?_, fun i d hd => ?_⟩
  · obtain ⟨fr, hb, _⟩ := res_blk hS ((hq n (by simp)).trans hr)
    refine ⟨by simp [h.1], some ⟨(e n).b, 0, none⟩, cap, rfl, .inr ⟨(e n).b, 0, rfl, fun j u hu => ?_⟩⟩
    rw [cell_of_row w _ _ _ _ _ hb, Nat.zero_add]
    simpa [SA.l] using hu
  · obtain ⟨v, h1, h2⟩ := h.2 i d hd
    exact ⟨v.den e, by simp [h1], fun S' a w hq hS => h2 S' e a w (fun x hx => hq x (List.mem_cons_of_mem _ hx)) hS⟩
theorem slcq_row {n : Nat} {T : TypeId} {ps : List Value} {ds : List (List (BitVec 8))} {k : Nat} (hr : S.res n = some (.own n T 1 k ps)) (hk : k = ds.length) (hp : ∀ (i : Nat) d, ds[i]? = some d → ∃ p, ps[i]? = some p ∧ FSX C.w0 C.m 1 p d.length (valsL .u8 d)) : SlcQ C S [n] (.v n) ds := by
  subst hk
  refine fun e => ⟨ps, fun S' a w hq hS => (fs_own ((hq n (by simp)).trans hr) hS).1, fun i d hd => ?_⟩
  obtain ⟨p, h1, h2⟩ := hp i d hd
  exact ⟨p, h1, fun S' a w _ hS => h2 w hS.frame.belowX⟩
theorem slcq_old {v : Value} {ds : List (List (BitVec 8))} (h : SlcX C.w0 C.m v ds) : SlcQ C S [] (.c v) ds := by
  obtain ⟨ps, h1, h2⟩ := h
  refine fun e => ⟨ps, fun S' a w _ hS => h1 w hS.frame.belowX, fun i d hd => ?_⟩
  obtain ⟨p, h3, h4⟩ := h2 i d hd
  exact ⟨p, h3, fun S' a w _ hS => h4 w hS.frame.belowX⟩
theorem SlcQ.at {ns : List Nat} {v : SV} {ds : List (List (BitVec 8))} (h : SlcQ C S ns v ds) {S' : St} {e : Env} {a : Act} {w : World} (hq : ∀ x ∈ ns, S'.res x = S.res x) (hS : Holds C S' e a w) : SlcL w (v.den e) ds := by
  obtain ⟨ps, h1, h2⟩ := h e
  refine ⟨ps, h1 S' a w hq hS, fun i d hd => ?_⟩
  obtain ⟨p, h3, h4⟩ := h2 i d hd
  exact ⟨p, h3, h4 S' a w hq hS⟩
/-! ### ... beside an object -/
theorem Holds.loseX {e : Env} {a : Act} {w w' : World} (hS : Holds C S e a w) {n : Nat} {T : TypeId} {A : SA} (hr : S.res n = some (.blk n T A)) (hx : BelowX w w' [(e n).b]) : Holds C ⟨S.t, (n, none) :: S.h⟩ e a w' := by
  have hm : ∀ b, b = (e n).b → C.mine b := fun b hb => hS.mine n _ hr rfl b hb
  refine ⟨hS.defers, hS.size, hS.tmp, fun m r h => ?_, fun m r h hw b hb => ?_, fun m k r r' h h' hne hw b hb => ?_, ⟨hx.os.trans hS.frame.os, hx.tape.trans hS.frame.tape, hx.output.trans hS.frame.output, Nat.le_trans hS.frame.size hx.size, fun k hk hkm => ?_⟩⟩
  · rw [St.res_cons] at h
    split at h
    · cases h
    · rename_i hne
      refine r.loc e w w' (fun b hb => hx.block b (r.lt e w b (hS.res m r h) hb) fun he => ?_) (hS.res m r h)
      have he : b = (e n).b := by simpa using he
      exact hS.sep n m _ r hr h hne rfl (e n).b rfl (he ▸ hb)
  · rw [St.res_cons] at h
    split at h
    · cases h
    · exact hS.mine m r h hw b hb
  · rw [St.res_cons] at h h'
    split at h
    · cases h
    · split at h'
      · cases h'
      · exact hS.sep m k r r' h h' hne hw b hb
  · rw [hx.block k (Nat.lt_of_lt_of_le hk hS.frame.size) ?_]
    · exact hS.frame.block k hk hkm
    · intro he
      have he : k = (e n).b := by simpa using he
      rcases hm k he with h | h
      · exact absurd hk (by omega)
      · exact hkm h
theorem callP_s {n T j : Nat} {vs : List SV} {A : SA} {cells0 cells : Array Value} {u : Value} {ns : List Nat} {v : SV} {ds : List (List (BitVec 8))} (hr : S.res n = some (.blk n T A)) (hA : ∀ e, A.den e = cells0) (h1 : SlcQ C S ns v ds) (hn : (ns.any fun y => Nat.beq n y) = false)
    (h : ∀ (e : Env) w, Blk w (e n).b cells0 T → SlcX w [(e n).b] (v.den e) ds → Calls Try.prog j (vs.map (·.den e)).toArray w (RetP w (e n).b T cells u)) : CallP C S (n :: ns) n T j vs cells u := fun S' e a w hS hq => by
  have hr' := (hq n (by simp)).trans hr
  obtain ⟨fr, hb, hfr⟩ := res_blk hS hr'
  rw [hfr rfl, hA] at hb
  refine h e w hb ?_
  have hns : ∀ x ∈ ns, n ≠ x := fun x hx he => by have := List.any_eq_false.1 hn x hx; rw [he] at this; simp at this
  have key : ∀ w', BelowX w w' [(e n).b] → ∃ S'' : St, Holds C S'' e a w' ∧ ∀ x ∈ ns, S''.res x = S.res x := fun w' hw => ⟨_, hS.loseX hr' hw, fun x hx => by
    rw [St.res_cons, if_neg (hns x hx)]
    exact hq x (List.mem_cons_of_mem _ hx)⟩
  obtain ⟨ps, g1, g2⟩ := h1 e
  refine ⟨ps, fun w' hw => ?_, fun i d hd => ?_⟩
  · obtain ⟨S'', k1, k2⟩ := key w' hw
    exact g1 S'' a w' k2 k1
  · obtain ⟨p, h3, h4⟩ := g2 i d hd
    exact ⟨p, h3, fun w' hw => by
      obtain ⟨S'', k1, k2⟩ := key w' hw
      exact h4 S'' a w' k2 k1⟩
theorem callP_1 {n T j : Nat} {vs : List SV} {A : SA} {cells0 cells : Array Value} {u : Value} {ns : List Nat} {v : SV} {size k : Nat} {xs : List Value} (hr : S.res n = some (.blk n T A)) (hA : ∀ e, A.den e = cells0) (h1 : RdN C S ns size v k xs) (hn : (ns.any fun y => Nat.beq n y) = false)
    (h : ∀ (e : Env) w, Blk w (e n).b cells0 T → RdX w [(e n).b] size (v.den e) k xs → Calls Try.prog j (vs.map (·.den e)).toArray w (RetP w (e n).b T cells u)) : CallP C S (n :: ns) n T j vs cells u := fun S' e a w hS hq => by
  have hr' := (hq n (by simp)).trans hr
  obtain ⟨fr, hb, hfr⟩ := res_blk hS hr'
  rw [hfr rfl, hA] at hb
  refine h e w hb fun w' hw => ?_
  have hns : ∀ x ∈ ns, n ≠ x := fun x hx he => by have := List.any_eq_false.1 hn x hx; rw [he] at this; simp at this
  exact h1 ⟨S'.t, (n, none) :: S'.h⟩ e a w' (fun x hx => by
    rw [St.res_cons, if_neg (hns x hx)]
    exact hq x (List.mem_cons_of_mem _ hx)) (hS.loseX hr' hw)
theorem callM_s {ns : List Nat} {j : FuncId} {vs : List SV} {v : SV} {ds : List (List (BitVec 8))} {u : Value} (h1 : SlcQ C S ns v ds) (h : ∀ (e : Env) w, SlcL w (v.den e) ds → Calls Try.prog j (vs.map (·.den e)).toArray w fun r w' => r = .returned u ∧ Below w.heap.size w w') : CallM C S ns j vs u := fun S' e a w hS hq => h e w (h1.at hq hS)
theorem callO_s {ns : List Nat} {j : FuncId} {vs : List SV} {v : SV} {T size len : Nat} {xs : List Value} {ds : List (List (BitVec 8))} (h1 : SlcQ C S ns v ds) (h : ∀ (e : Env) w, SlcL w (v.den e) ds → Calls Try.prog j (vs.map (·.den e)).toArray w (RetOwn w T size len xs)) : CallO C S ns j vs T size len xs := fun S' e a w hS hq => h e w (h1.at hq hS)
section
variable {P : Program} {l : List Oper} {acc : List OS} {t : List (Nat × SV)} {h : List (Nat × Option Res)} {rt rb x : List Nat} {d n : Nat} {v : SV} {r : Option Res}
theorem walk_tb {K : St → List OS → Prop} (ho : OpG C P ops o ⟨t, h⟩ ⟨rt, rb, [(d, v)], [(n, r)], []⟩) (ht : WalkTo C P ops [] l ⟨(d, v) :: t, (n, r) :: h⟩ (⟨x ++ rt, rb, [(d, v)], [(n, r)], []⟩ :: acc) K) : WalkTo C P ops x (o :: l) ⟨t, h⟩ acc K := ⟨⟨rt, rb, [(d, v)], [(n, r)], []⟩, opG_more x ho, rfl, ht⟩
theorem walk1_tb {K : St → Prop} (ho : OpG C P ops o ⟨t, h⟩ ⟨rt, rb, [(d, v)], [(n, r)], []⟩) (ht : Walk1 C P ops l ⟨(d, v) :: t, (n, r) :: h⟩ K) : Walk1 C P ops (o :: l) ⟨t, h⟩ K := ⟨_, ho, rfl, ht⟩
theorem op_cutP2 {x : Operand} {t T : TypeId} {n off len lo hi : Nat} {ol oh : Option Operand} (ho : o.op = .slice t x ol oh none) (hg : o.guard = none) (hd : dstB o.dst C.nt = true) (hx : S.ev x = some (.p n off)) (hu' : tabLook undT t = some (.array len T)) (hs' : tabLook sizT T = some 1) (hl : EvO S ol 0 lo := by first | exact evO_none | exact evO_some (by first | exact evK_const rfl | exact evK_tmp rfl)) (hh : EvO S oh len hi := by first | exact evO_none | exact evO_some (by first | exact evK_const rfl | exact evK_tmp rfl)) (h1 : lo ≤ hi := by first | omega | decide) (h2 : hi ≤ len := by first | omega | decide) (h3 : lo < len := by first | omega | decide) :
    OpG C Try.prog ops o S ⟨opT x ++ (opO ol ++ opO oh), [n], dw o.dst (.s n (off + lo) (hi - lo) (len - lo)), [], []⟩ :=
  op_cutP ho hg hd hx hu' hs' hl hh h1 h2 (by rw [if_neg (by omega)]; omega)
end
/-! ### slices made -/
theorem op_makeB {t T n len by_ : Nat} {x y : Operand} {k : IntKind} {m : Nat} (ho : o.op = .makeSlice t x y) (hdn : o.dst = some n) (hg : o.guard = none) (hd : dstB o.dst C.nt = true) (hx : EvN S x len) (hy : EvN S y len) (hu' : tabLook undT t = some (.slice T)) (hs' : tabLook sizT T = some 1) (hy' : tabLook bytT T = some by_) (hz' : tabLook zerT T = some #[.int k 0]) (hlen : len * by_ ≤ 281474976710656 ∧ len ≤ 1099511627776) :
    OpG C Try.prog ops o S ⟨opT x ++ opT y, [], [(n, .v n)], [(n, some (.own n T 1 len (valsL k (List.replicate len (0#m)))))], [n]⟩ := by
  refine opG_mk hg fun S' h1 h2 h3 e a w hS => ?_
  have hevx : a.eval x = .int .i64 ((len : Nat) : Int) := hS.ev ((ev_like h1 fun _ h => List.mem_append_left _ h).trans hx)
  have hevy : a.eval y = .int .i64 ((len : Nat) : Int) := hS.ev ((ev_like h1 fun _ h => List.mem_append_right _ h).trans hy)
  have hu := tabAll_look undT_ok hu'
  have hs := tabAll_look sizT_ok hs'
  have hz := tabAll_look zerT_ok hz'
  have hby := tabAll_look bytT_ok hy'
  cases hb : (Try.prog.info? T) with
  | none => simp [hb] at hz
  | some i =>
    cases hc : i.zero with
    | none => simp [hb, hc] at hz
    | some zz =>
      have hzc : zz.cells = #[.int k 0] := by simpa [hb, hc] using hz
      have his : i.size = 1 := by simpa [hb] using hs
      have hib : i.bytes = by_ := by simpa [hb] using hby
      have hr := run_make (P := Try.prog) w t T i zz hu hb hc .i64 .i64 (len : Int) (len : Int) (by omega) (Int.le_refl _) (by rw [hib, ← Int.natCast_mul, Nat.mul_comm]; omega) (by omega)
      simp only [Int.toNat_natCast, his, Nat.mul_one, hzc] at hr
      have hmc : (madeCells #[Value.int k 0] len).toList = valsL k (List.replicate len (0#m)) := by
        simp only [madeCells, valsL, List.map_replicate, Array.toList_map, Array.toList_range]
        apply List.ext_getElem (by simp)
        intro j h1 h2
        have h0 : j % 1 = 0 := Nat.mod_one j
        simp [h0, bvi]
      have hrun : (execOp a.eval o).run Try.prog w = .ok (.value (.slice (some ⟨w.heap.size, 0, none⟩) len len)) (w.alloc (.cells (madeCells #[.int k 0] len) T)) := by
        simp only [execOp, ho, hevx, hevy, Sem.run_bind, hr, Result.andThen_ok, Sem.run_pure]
      have hown := World.ownsRow_lit (base := w.heap.size) (e := T) (size := 1) w (madeCells #[.int k 0] len) len (Nat.le_refl _) (by simp only [maxLen]; omega) (by rw [size_madeCells, Nat.mul_one])
      rw [hmc] at hown
      have hH := hS.ownNew (n := n) (h3 n (by simp)) ((Below.refl _ _).alloc (Nat.le_refl _) _) hown
      refine wp_value hrun ⟨e.set n ⟨0, 0, .slice (some ⟨w.heap.size, 0, none⟩) len len⟩, ?_⟩
      rw [hdn]
      have hd' : dstB (some n) C.nt = true := by rw [← hdn]; exact hd
      have := hH.put hd' (.v n)
      simp only [SV.v, Env.set_self] at this
      exact this
end Go.Proofs.Ytgjlpnendljcaaa
