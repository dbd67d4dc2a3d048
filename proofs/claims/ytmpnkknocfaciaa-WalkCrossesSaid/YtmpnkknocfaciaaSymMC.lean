/- Own slices of rows: cut, written, sorted in parts by a call; slices built of two rows. No condition. What a walk's question needs besides: ratios none below 0 held against each other; a call beside an object; two numbers in a slice. No condition. -/
import Derived.Test.YtmpnkknocfaciaaSymALW
import Derived.Test.YtmpnkknocfaciaaSymSX
import Derived.Test.YtmpnkknocfaciaaWkAB
import Derived.Test.YtmpnkknocfaciaaSwpGH
namespace Go.Proofs.Ytmpnkknocfaciaa
open Go.RowKit
set_option maxRecDepth 100000
set_option maxHeartbeats 1000000
variable {C : Ctx} {ops : Array Oper} {S : St} {o : Oper}
theorem own_cutR {w : World} {base T sz len m : Nat} {xs : List Value} {v : Value} (h : w.ownsRow base T sz v len xs) (hm : m ≤ len) : w.ownsRow base T sz (cutV v 0 m) m (xs.take (m * sz)) ∧ (cutV v 0 m).ownBlock = v.ownBlock := by
  obtain ⟨h1, h2⟩ := h
  have hms := Nat.mul_le_mul_right sz hm
  rcases h2 with ⟨h3, h4⟩ | ⟨g, cap, cur, h3, h4, h5, h6, h7, h8, h9⟩
  · subst h3
    obtain rfl : m = 0 := by omega
    exact ⟨⟨by simp, .inl ⟨rfl, rfl⟩⟩, rfl⟩
  · subst h3
    have hv : cutV (.slice (some ⟨g, 0, none⟩) len cap) 0 m = .slice (some ⟨g, 0, none⟩) m cap := by
      show Value.slice (if cap = 0 then some ⟨g, 0, none⟩ else (some ⟨g, 0, none⟩ : Option Addr).map (·.add 0)) m (cap - 0) = _
      split <;> simp [Addr.add]
    rw [hv]
    refine ⟨⟨by rw [List.length_take]; omega, .inr ⟨g, cap, cur, rfl, h4, h5, by omega, h7, h8, ?_⟩⟩, rfl⟩
    rw [← h9, List.take_take, Nat.min_eq_left hms]
theorem ent_cutR {t : List (Nat × SV)} {h : List (Nat × Option Res)} {i n m len sz : Nat} {T : TypeId} {xs : List Value} (q : Nat) (hv : look t i = some (.sub n 0 m)) (hr : (St.mk t h).res n = some (.own n T sz len xs)) (hm : m ≤ len) (hnq : Nat.beq n q = false) (hf : freshB ⟨t, h⟩ q = true) :
    Ents C ⟨t, h⟩ ⟨(i, .v q) :: t, (n, none) :: (q, some (.own q T sz m (xs.take (m * sz)))) :: h⟩ := fun e a w hS => by
  have hok : w.ownsRow 0 T sz (e n).v len xs := hS.res n _ hr
  obtain ⟨h1, h2⟩ := own_cutR hok hm
  have hne : n ≠ q := fun he => by subst he; simp at hnq
  have hH := hS.own (m := n) (n := q) hne (freshB_spec hf) (.inr ⟨_, _, _, _, hr, rfl⟩) ⟨rfl, rfl, rfl, Nat.le_refl _, fun _ _ _ => rfl⟩ h1 (fun b hb => .inl (h2 ▸ hb))
  refine ⟨_, hH.defers, hH.size, fun j v hj => ?_, hH.res, hH.mine, hH.sep, hH.frame⟩
  have hj2 : look ((i, SV.v q) :: t) j = some v := hj
  rw [look_cons] at hj2
  by_cases e0 : i = j
  · rw [if_pos e0] at hj2
    have hj3 : SV.v q = v := by simpa using hj2
    subst hj3
    subst e0
    show a.tmps[i]? = some ((e.set q ⟨0, 0, cutV (e n).v 0 m⟩) q).v
    rw [Env.set_self]
    exact hS.tmp i _ hv
  · rw [if_neg e0] at hj2
    exact hH.tmp j v hj2
theorem op_cutV0 {t T : TypeId} {x : Operand} {n hi sz len : Nat} {T0 : TypeId} {xs : List Value} {oh : Option Operand} (ho : o.op = .slice t x none oh none) (hg : o.guard = none) (hd : dstB o.dst C.nt = true) (hx : S.ev x = some (.v n)) (hr : S.res n = some (.own n T0 sz len xs)) (hu' : tabLook undT t = some (.slice T)) (hs' : tabLook sizT T = some sz) (hh : EvO S oh len hi) (h2 : hi ≤ len) :
    OpG C Try.prog ops o S ⟨opT x ++ (opO none ++ opO oh), [n], dw o.dst (.sub n 0 hi), [], []⟩ := by
  refine op_cut (sz := sz) ho hg hd hx hu' hs' evO_none hh (Nat.zero_le _) (fun S' e a w hq hS => ?_) rfl
  have hok : w.ownsRow 0 T0 sz (e n).v len xs := hS.res n _ ((hq n (by simp)).trans hr)
  rcases hok.2 with ⟨h3, h4⟩ | ⟨g, cap, cur, h3, _, _, h5, _⟩
  · refine ⟨none, 0, by rw [show (SV.v n).den e = (e n).v from rfl, h3, h4], by omega, ?_⟩
    show cutV (e n).v 0 hi = _
    rw [h3]; simp [cutV]
  · refine ⟨some ⟨g, 0, none⟩, cap, h3, by omega, ?_⟩
    show cutV (e n).v 0 hi = _
    rw [h3]; simp [cutV]
/-- A part of an own slice of numbers, read. -/
theorem rdn_subG {n : Nat} {T : TypeId} {len lo cnt : Nat} {xs : List Value} (hr : S.res n = some (.own n T 1 len xs)) (hc : lo + cnt ≤ len) : RdN C S [n] 1 (.sub n lo cnt) cnt ((xs.drop lo).take cnt) := by
  intro S' e a w h hS
  have hok : w.ownsRow 0 T 1 (e n).v len xs := hS.res n _ ((h n (by simp)).trans hr)
  refine ⟨by rw [List.length_take, List.length_drop, hok.1]; omega, ?_⟩
  show ∃ a c, cutV (e n).v lo cnt = .slice a cnt c ∧ _
  rcases hok.2 with ⟨h1, h2⟩ | ⟨g, cap, cur, h1, _, h3, _, _, _, h4⟩
  · rw [h1]; exact ⟨_, _, rfl, .inl (by omega)⟩
  · rw [h1]
    refine ⟨_, _, rfl, ?_⟩
    by_cases hcl : cap = lo
    · left; omega
    · right
      refine ⟨g, lo, by rw [if_neg hcl]; simp [add_place], fun j u hu => ?_⟩
      rw [List.getElem?_take] at hu
      split at hu
      · rw [List.getElem?_drop] at hu
        have := hok.cells (g := g) (by rw [h1]; rfl) (lo + j) u hu
        rwa [add_place, Nat.zero_add] at this
      · cases hu
/-- What an own slice holds has been changed where it lies. -/
theorem Holds.ownChg {e : Env} {a : Act} {w w' : World} (hS : Holds C S e a w) {n T sz len g : Nat} {xs ys : List Value} (hr : S.res n = some (.own n T sz len xs)) (hg : (e n).v.ownBlock = some g) (hx : BelowX w w' [g]) (hok : w'.ownsRow 0 T sz (e n).v len ys) : Holds C ⟨S.t, (n, some (.own n T sz len ys)) :: S.h⟩ e a w' := by
  have hmine : ∀ b, (e n).v.ownBlock = some b → C.mine b := fun b hb => hS.mine n _ hr rfl b hb
  refine ⟨hS.defers, hS.size, hS.tmp, fun m r h => ?_, fun m r h hw b hb => ?_, fun m k r r' h h' hne hw b hb => ?_, ⟨hx.os.trans hS.frame.os, hx.tape.trans hS.frame.tape, hx.output.trans hS.frame.output, Nat.le_trans hS.frame.size hx.size, fun k hk hkm => ?_⟩⟩
  · rw [St.res_cons] at h
    split at h
    · cases h; exact hok
    · rename_i hne
      refine r.loc e w w' (fun b hfb => hx.block b (r.lt e w b (hS.res m r h) hfb) fun he => ?_) (hS.res m r h)
      have he : b = g := by simpa using he
      subst he
      exact hS.sep n m _ r hr h hne rfl b hg hfb
  · rw [St.res_cons] at h
    split at h
    · cases h; exact hmine b hb
    · exact hS.mine m r h hw b hb
  · rw [St.res_cons] at h h'
    split at h
    · rename_i h1; cases h; subst h1
      split at h'
      · rename_i h2; exact absurd h2 hne
      · exact hS.sep n k _ r' hr h' hne rfl b hb
    · split at h'
      · rename_i h2; cases h'; subst h2
        exact hS.sep m n r _ h hr hne hw b hb
      · exact hS.sep m k r r' h h' hne hw b hb
  · refine (hx.block k (Nat.lt_of_lt_of_le hk hS.frame.size) fun he => ?_).trans (hS.frame.block k hk hkm)
    have he : k = g := by simpa using he
    subst he
    rcases hmine k hg with h | h
    · omega
    · exact hkm h
theorem take_mid {α : Type} (L B : List α) (off m k : Nat) (hB : B.length = m) (h : off + m ≤ k) (hk : k ≤ L.length) : (L.take off ++ B ++ L.drop (off + m)).take k = (L.take k).take off ++ B ++ (L.take k).drop (off + m) := by
  have l1 : (L.take off ++ B).length = off + m := by rw [List.length_append, List.length_take, hB]; omega
  rw [List.take_append, List.take_of_length_le (by omega), l1, List.take_take, Nat.min_eq_left (by omega), List.drop_take]
/-- A row written into an own slice of rows. -/
theorem op_storesU {ty : TypeId} {x y : Operand} {n off sz len m : Nat} {T : TypeId} {xs ys : List Value} {B : Array Value} (ho : o.op = .store ty x y) (hg : o.guard = none) (hdst : o.dst = none) (hx : S.ev x = some (.vp n off)) (hy : S.ev y = some (.c (.agg B))) (hr : S.res n = some (.own n T sz len xs))
    (hi' : tabLook sizT ty = some m) (hB : B.size = m) (h1c : B.all (·.oneCell') = true) (hoff : off + m ≤ len * sz) (h0 : 0 < len) (hys : xs.take off ++ B.toList ++ xs.drop (off + m) = ys) :
    OpG C Try.prog ops o S ⟨opT x ++ opT y, [n], [], [(n, some (.own n T sz len ys))], []⟩ := by
  have hi := tabAll_look sizT_ok hi'
  subst hys
  refine opG_mk hg fun S' h1 h2 h3 e a w hS => ?_
  have hr' := (h2 n (by simp)).trans hr
  have hok : w.ownsRow 0 T sz (e n).v len xs := hS.res n _ hr'
  have hxl : xs.length = len * sz := hok.1
  rcases hok.2 with ⟨_, h0'⟩ | ⟨g, cap, cur, hev, _, hb, hnc, hcm, hcs, htk⟩
  · omega
  have hmul := Nat.mul_le_mul_right sz hnc
  have hevx : a.eval x = .pointer (some ⟨g, off, none⟩) := by
    rw [hS.ev ((ev_like h1 fun _ h => List.mem_append_left _ h).trans hx)]
    show (match (e n).v with | .slice (some a) _ _ => Value.pointer (some ⟨a.block, off, none⟩) | _ => undef) = _
    rw [hev]
  have hevy : a.eval y = .agg B := hS.ev ((ev_like h1 fun _ h => List.mem_append_right _ h).trans hy)
  have hBl : B.toList.length = m := by simpa using hB
  have hst := run_storeCells_at Try.prog g off T B.toList 0 cur w hb (by simp only [Array.length_toList]; omega) (fun u hu => Array.all_eq_true_iff_forall_mem.1 h1c u (by simpa using hu))
  rw [Nat.add_zero, hBl] at hst
  have hsz : (cur.toList.take off ++ B.toList ++ cur.toList.drop (off + m)).length = cur.size := by
    simp only [List.length_append, List.length_take, List.length_drop, Array.length_toList, hB]; omega
  generalize hnc2 : (cur.toList.take off ++ B.toList ++ cur.toList.drop (off + m)).toArray = cur2 at hst
  have hc2 : cur2.toList = cur.toList.take off ++ B.toList ++ cur.toList.drop (off + m) := by rw [← hnc2]
  have hg0 : (e n).v.ownBlock = some g := by rw [hev]; rfl
  have hnew : (w.setRow g cur2).ownsRow 0 T sz (e n).v len (xs.take off ++ B.toList ++ xs.drop (off + m)) := by
    refine ⟨by simp only [List.length_append, List.length_take, List.length_drop, Array.length_toList, hB]; omega, .inr ⟨g, cap, cur2, hev, Nat.zero_le _, setRow_heap w g cur _ T (0, 0) hb, hnc, hcm, ?_, ?_⟩⟩
    · rw [← Array.length_toList, hc2, hsz]; exact hcs
    · rw [hc2, ← htk]
      exact take_mid _ _ _ _ _ hBl hoff (by rw [Array.length_toList]; omega)
  refine wp_skip' (w' := w.setRow g cur2) ?_ ⟨e, ?_⟩
  · cases hq : Try.prog.info? ty with
    | none => simp [hq] at hi
    | some i =>
      have hs : i.size = m := by simpa [hq] using hi
      have hcs : (Value.agg B).cells = B := rfl
      simp only [execOp, ho, hevx, hevy, Instr.storeAt, Instr.sureAddr, storeVar, sizeOf, typeInfo, Sem.run_bind, Sem.run_pure, Result.andThen_ok, hcs]
      simp [hq, hs, hB, hst]
  · rw [hdst]
    exact hS.ownChg hr' hg0 ⟨rfl, rfl, rfl, by simp [World.setRow], fun k hk hkm => setRow_other w g k _ (by simpa using hkm)⟩ hnew
end Go.Proofs.Ytmpnkknocfaciaa
namespace Go.Proofs.Ytmpnkknocfaciaa
open Go.RowKit
set_option maxRecDepth 100000
set_option maxHeartbeats 2000000
theorem FSX.cutZ {w : World} {m : List Nat} {sz : Nat} {v : Value} {n : Nat} {xs : List Value} (h : FSX w m sz v n xs) {lo len : Nat} (hl : lo + len ≤ n) : FSX w m sz (Go.Proofs.Ytmpnkknocfaciaa.cutZ sz v lo len) len ((xs.drop (lo * sz)).take (len * sz)) := fun w' hw => (h w' hw).cutZ hl
section
variable {C : Ctx} {ops : Array Oper} {S : St} {o : Oper}
theorem op_callPX {f : FuncId} {xs : Array Operand} {ats : Array TypeId} {vs : List SV} {j b : Nat} {T : TypeId} {A A' : SA} {cells0 cells : Array Value} {v : Value} {args : Array Value} (ho : o.op = .call { callee := .value (.func f), args := xs, argTypes := ats }) (hg : o.guard = none) (hd : dstB o.dst C.nt = true) (hxs : EvS S xs.toList vs) (hc' : tabLook calT f = some j) (hr : S.res 1000 = some (.blk 1000 T A)) (hi : S.res 1001 = some (.is 1000 b))
    (hA : ∀ e, A.den e = cells0) (hA' : ∀ e, A'.den e = cells) (hargs : ∀ e : Env, (e 1000).b = b → (vs.map (·.den e)).toArray = args) (hcon : ∀ w, BelowX C.w0 w C.m → Blk w b cells0 T → Calls Try.prog j args w (RetP w b T cells v)) :
    OpG C Try.prog ops o S ⟨xs.toList.flatMap opT, [1000, 1001], dw o.dst (.c v), [(1000, some (.blk 1000 T A'))], []⟩ := by
  refine opG_mk hg fun S' h1 h2 h3 e a w hS => ?_
  unfold Oper.wp
  have hr' := (h2 1000 (by simp)).trans hr
  have hbb : (e 1000).b = b := hS.res 1001 _ ((h2 1001 (by simp)).trans hi)
  obtain ⟨fr, hb, hfr⟩ := res_blk hS hr'
  rw [hfr rfl, hbb, hA e] at hb
  rw [call_hop ho hxs hc' h1 hS, hargs e hbb]
  refine Calls.mono (hcon w hS.frame.belowX hb) ?_
  rintro r w' ⟨rfl, hb2, hx⟩
  have hH := hS.writeX (A' := A') hr' (by rw [hbb]; exact hx) (by rw [hbb, hA' e]; exact hb2)
  exact ⟨e, hH.put hd (.c v)⟩
end
attribute [local irreducible] Calls Walk1 WalkTo Tri EndA
theorem less22P_any (a b : Int × Int) (h1 : 0 ≤ a.1 ∧ a.1 < 9223372036854775808) (h2 : 0 ≤ a.2 ∧ a.2 < 9223372036854775808) (h3 : 0 ≤ b.1 ∧ b.1 < 9223372036854775808) (h4 : 0 ≤ b.2 ∧ b.2 < 9223372036854775808) (w : World) : Calls Try.prog 62 #[.agg (ratC a), .agg (ratC b)] w fun e w' => e = .returned (.bool (decide (rlt a b))) ∧ Below w.heap.size w w' := by
  obtain ⟨n, det⟩ := a
  obtain ⟨n', det'⟩ := b
  unfold ratC
  dsimp only at *
  obtain ⟨p, rfl⟩ := Int.eq_ofNat_of_zero_le h1.1
  obtain ⟨q, rfl⟩ := Int.eq_ofNat_of_zero_le h2.1
  obtain ⟨p', rfl⟩ := Int.eq_ofNat_of_zero_le h3.1
  obtain ⟨q', rfl⟩ := Int.eq_ofNat_of_zero_le h4.1
  have c1 := fun w => mulW_any p q' (by omega) (by omega) w
  have c2 := fun w => mulW_any p' q (by omega) (by omega) w
  have e1 := prod_nat (p := p) (q := q') (by omega) (by omega)
  have e2 := prod_nat (p := p') (q := q) (by omega) (by omega)
  generalize BitVec.ofNat 64 p * BitVec.ofNat 64 q' = L1 at *
  generalize BitVec.ofNat 64 p' * BitVec.ofNat 64 q = L2 at *
  generalize (mulHi (BitVec.ofNat 64 p) (BitVec.ofNat 64 q')).toNat = H1 at *
  generalize (mulHi (BitVec.ofNat 64 p') (BitVec.ofNat 64 q)).toNat = H2 at *
  have c3 := fun w => cmpW_any H1 L1 H2 L2 w
  have hr : decide (rlt ((p : Int), (q : Int)) ((p' : Int), (q' : Int))) = decide (cmpZ H1 L1 H2 L2 < 0) := by
    rw [cmpZ_lt e1 e2]
    refine decide_eq_decide.2 ?_
    unfold rlt
    dsimp only
    rw [← Int.natCast_mul, ← Int.natCast_mul, Int.ofNat_lt]
  rw [hr]
  clear e1 e2 hr
  generalize cmpZ H1 L1 H2 L2 = Z at *
  generalize wideC H1 L1 = W1 at *
  generalize wideC H2 L2 = W2 at *
  refine calls_tri Try.func62 rfl Try.ntmps62 rfl ?_
  repeat (first | (show Walk1 _ _ _ (_ :: _) _ _; first | (show Walk1 _ _ _ (⟨_, .assign _, _, _, _, _⟩ :: _) _ _; first | refine walk1_t (op_assignN rfl rfl rfl rfl) ?_ | refine walk1_t (op_assign rfl rfl rfl rfl) ?_) | (show Walk1 _ _ _ (⟨_, .box _ _, _, _, _, _⟩ :: _) _ _; refine walk1_n (op_box rfl rfl rfl rfl rfl) (by kernel_rfl) ?_)) | (show WalkTo _ _ _ _ (_ :: _) _ _ _; first | (show WalkTo _ _ _ _ (⟨_, .assign _, _, _, _, _⟩ :: _) _ _ _; first | refine walk_t (op_assignN rfl rfl rfl rfl) ?_ | refine walk_t (op_assign rfl rfl rfl rfl) ?_) | (show WalkTo _ _ _ _ (⟨_, .binOp .lss _ _ _ _, _, _, _, _⟩ :: _) _ _ _; first | refine walk_t (op_ltN rfl rfl rfl (by first | exact evN_const rfl | exact rfl) (by first | exact evN_const rfl | exact rfl)) ?_ | refine walk_t (op_ltI rfl rfl rfl rfl rfl) ?_) | (show WalkTo _ _ _ _ (⟨_, .load _ _, _, _, _, _⟩ :: _) _ _ _; first | refine walk_t (op_load rfl rfl rfl rfl rfl rfl rfl) ?_ | refine walk_t (op_loadV rfl rfl rfl rfl rfl rfl rfl (getV (by first | omega | (simp; omega) | (simp <;> fail) | omega))) ?_ | refine walk_t (op_loadV rfl rfl rfl rfl rfl rfl rfl (by assumption)) ?_ | refine walk_t (op_loadF rfl rfl rfl rfl rfl rfl rfl (by first | assumption | exact FS.rd (by first | assumption | exact FSX.fs (by assumption) | (refine FS.cutB (by assumption) ?_; omega) | (refine FS.cut (by assumption) ?_; omega))) (by omega) (getV (by first | omega | (simp; omega) | (simp <;> fail) | omega))) ?_ | refine walk_t (op_loadF rfl rfl rfl rfl rfl rfl rfl (by first | assumption | exact FS.rd (by first | assumption | exact FSX.fs (by assumption) | (refine FS.cutB (by assumption) ?_; omega) | (refine FS.cut (by assumption) ?_; omega))) (by omega) (by assumption)) ?_ | refine walk_t (op_loads rfl rfl rfl rfl rfl rfl rfl rfl) ?_ | refine walk_t (op_loadsM rfl rfl rfl rfl rfl rfl rfl rfl) ?_ | refine walk_t (op_load rfl rfl rfl rfl rfl rfl rfl (ld_any (by with_reducible assumption))) ?_ | refine walk_t (op_loadX rfl rfl rfl rfl rfl rfl (by first | assumption | exact FSX.rdx (by assumption) | exact FSX.rdx (FSX.cutB (by assumption) (by omega))) (by omega) (getV (by first | omega | (simp; omega) | (simp <;> fail) | omega))) ?_ | refine walk_t (op_loadX rfl rfl rfl rfl rfl rfl (by first | assumption | exact FSX.rdx (by assumption) | exact FSX.rdx (FSX.cutB (by assumption) (by omega))) (by omega) (by assumption)) ?_ | refine walk_t (op_loadsC rfl rfl rfl rfl rfl rfl rfl rfl (sm_c (by assumption)) ag_c) ?_ | refine walk_t (op_loadsR rfl rfl rfl rfl rfl rfl rfl rfl (by decide) (by first | omega | (simp; omega))) ?_ | refine walk_t (op_loadsV rfl rfl rfl rfl rfl rfl rfl rfl (by decide) (by first | omega | (simp; omega)) rfl) ?_) | (show WalkTo _ _ _ _ (⟨_, .fieldAddr _ _ _, _, _, _, _⟩ :: _) _ _ _; first | refine walk_t (op_fldT rfl rfl rfl rfl rfl rfl off_zero) ?_ | refine walk_t (op_fldT rfl rfl rfl rfl rfl rfl rfl) ?_) | (show WalkTo _ _ _ _ (⟨_, .call ⟨.value (.func 65), _, _⟩, _, _, _, _⟩ :: _) _ _ _; ((first | refine walk_call rfl rfl rfl rfl (by repeat (first | exact evs_nil | apply evs_cons rfl)) rfl ?_ | refine walk_call0 rfl rfl rfl (by repeat (first | exact evs_nil | apply evs_cons rfl)) rfl ?_); refine ⟨_, fun e w => c1 w, ?_⟩)) | (show WalkTo _ _ _ _ (⟨_, .call ⟨.value (.func 65), _, _⟩, _, _, _, _⟩ :: _) _ _ _; ((first | refine walk_call rfl rfl rfl rfl (by repeat (first | exact evs_nil | apply evs_cons rfl)) rfl ?_ | refine walk_call0 rfl rfl rfl (by repeat (first | exact evs_nil | apply evs_cons rfl)) rfl ?_); refine ⟨_, fun e w => c2 w, ?_⟩)) | (show WalkTo _ _ _ _ (⟨_, .call ⟨.value (.func 64), _, _⟩, _, _, _, _⟩ :: _) _ _ _; ((first | refine walk_call rfl rfl rfl rfl (by repeat (first | exact evs_nil | apply evs_cons rfl)) rfl ?_ | refine walk_call0 rfl rfl rfl (by repeat (first | exact evs_nil | apply evs_cons rfl)) rfl ?_); refine ⟨_, fun e w => c3 w, ?_⟩))) | refine go1 ?_ | refine end_block_other rfl ?_ | refine end_scope (fun _ h => by cases h) ?_ | (refine walk_endD ?_ ?_; (· kernel_rfl)) | refine tri_yesA rfl ?_ | refine tri_noA rfl ?_ | refine tri_trueA rfl ?_ | refine tri_falseA rfl ?_)
  refine end_ret (.c (.bool (decide (Z < 0)))) (res_tmp rfl rfl) ?_
  exact fin_below fun _ => rfl
end Go.Proofs.Ytmpnkknocfaciaa
