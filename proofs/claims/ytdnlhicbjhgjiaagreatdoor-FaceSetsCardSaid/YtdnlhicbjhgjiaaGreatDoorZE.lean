/- What is wrong with labels. No condition. -/
import Derived.Test.YtdnlhicbjhgjiaaGreatDoorZD
namespace Go.Proofs.YtdnlhicbjhgjiaaGreatDoor
open Go Go.Vx
set_option maxRecDepth 100000

variable {S : BS} {K : Value → Heap → Prop} {X : List PanicEntry → Heap → Prop} {h : Heap}

theorem labels_spec {p : Nat} {tc mc : List Value} {l : Value} {ds : List Diag} {m : Module} {t : Lattice}
    (hf : FSt eDiag S h p (.string m.name :: tc) l ds) (ht : eLattice.rep S h tc t) (hm : eModule.rep S h mc m) (hS : ∀ b, S b → b < h.size)
    (hn : m.vars.length ≤ 10000 ∧ m.procs.length ≤ 10000 ∧ ∀ q ∈ m.procs, q.params.length ≤ 10000) (hd : ds.length ≤ 200000000) (htn : t.names.length ≤ 1000000)
    (hK : ∀ l' h', Ext S h h' → FSt eDiag S h' p (.string m.name :: tc) l' (ds ++ unknowns m t) → K (.tuple #[]) h') :
    CallK Tryz.prog 30 [.pointer (some ⟨p, 0, none⟩), .agg mc.toArray] h K X := by
  obtain ⟨vi, vv, vp, rfl, hi, hv, hp⟩ := hm
  obtain ⟨a1, c1, rfl, _⟩ := hi.form
  obtain ⟨a2, c2, rfl, _⟩ := hv.form
  obtain ⟨a3, c3, rfl, _⟩ := hp.form
  refine callK_of_vc fc30 mixed Tryz.func30 ok30 (Nat.le_of_ble_eq_true rfl) ?_
  refine kmp (B := ∀ (b : Nat) (h' : Array Obj), b = Array.size h → h' = Array.push h (Obj.cells #[Value.string (Module.name m), Value.int IntKind.i64 (Module.at_ m), Value.slice a1 (List.length (Module.imports m)) c1, Value.slice a2 (List.length (Module.vars m)) c2, Value.slice a3 (List.length (Module.procs m)) c3] 31) → ∃ (a : Option Addr), ∃ (n : Nat), ∃ (c : Nat), cellAt h' b 3 = some (Value.slice a n c) ∧ VSem Tryz.prog fc30 (cd Tryz.f30 6) [(0, Value.pointer (some (Addr.mk p 0 none))), (1, Value.agg #[Value.string (Module.name m), Value.int IntKind.i64 (Module.at_ m), Value.slice a1 (List.length (Module.imports m)) c1, Value.slice a2 (List.length (Module.vars m)) c2, Value.slice a3 (List.length (Module.procs m)) c3]), (3, Value.pointer (some (Addr.mk b 0 none))), (11, Value.slice a n c), (12, Value.int IntKind.i64 (↑n : Int)), (13, Value.int IntKind.i64 0)] h' (vcBlock 0 (vcThen (fun (r : Regs) (h : Heap) => vcCode Tryz.prog fc30 (cd Tryz.f30 19) r h (vcPost Tryz.prog (Array.toList (Func.results Tryz.f30)) K X)) (vcPost Tryz.prog (Array.toList (Func.results Tryz.f30)) K X)))) (by kernel_rfl) ?_ -- ENTERED
  rintro q h1 rfl rfl
  have hplt := hf.blk.lt
  generalize hh1 : h.push (.cells #[Value.string m.name, .int .i64 m.at_, .slice a1 m.imports.length c1, .slice a2 m.vars.length c2, .slice a3 m.procs.length c3] 31 (0, 0)) = h1
  have e1 : Ext (Al h) h h1 := by subst hh1; exact Ext.pushA
  have hsz : h1.size = h.size + 1 := by subst hh1; simp
  have hq : Blk h1 h.size [.string m.name, .int .i64 m.at_, .slice a1 m.imports.length c1, .slice a2 m.vars.length c2, .slice a3 m.procs.length c3] := by subst hh1; exact Blk.push
  clear hh1
  generalize hS' : (fun b => S b ∨ b = h.size) = S'
  have hSS : ∀ b, S b → S' b := fun b hb => hS' ▸ .inl hb
  have hSq : S' h.size := hS' ▸ .inr rfl
  have hSl : ∀ b, S' b → b < h1.size := by
    subst hS'
    rintro b (hb | rfl)
    · have := hS b hb; omega
    · omega
  have hf1 : FSt eDiag S' h1 p (.string m.name :: tc) l ds := hS' ▸ (hf.ext (e1.mono (hf.lt hS))).more (by omega) fun e => by have := (hf.own.fresh e).2; omega
  clear hS'
  have hv1 := ((hv.ext (e1.mono hS)).mono hSS)
  have hp1 := ((hp.ext (e1.mono hS)).mono hSS)
  have ht1 := eLattice.mono (eLattice.ext ht (e1.mono hS)) hSS
  clear hf hi hv hp ht
  have hSl2 : ∀ {h' : Heap}, Ext S' h1 h' → ∀ b, S' b → b < h'.size := fun e b hb => Nat.lt_of_lt_of_le (hSl b hb) e.size
  refine ⟨a2, _, c2, blk_cell hq rfl, ?_⟩
  refine loop_sem mixed (α := Nat) (fun x => [(0, .pointer (some ⟨p, 0, none⟩)), (3, .pointer (some ⟨h.size, 0, none⟩)), (11, .slice a2 m.vars.length c2), (12, .int .i64 m.vars.length), (13, .int .i64 x)])
    (fun x h' => x ≤ m.vars.length ∧ Ext S' h1 h' ∧ ∃ l, FSt eDiag S' h' p (.string m.name :: tc) l (ds ++ (m.vars.take x).flatMap fun v => unk1 m.name t v.label v.at_))
    (fun x _ => m.vars.length - x) 0 (by kernel_rfl) ⟨rfl, rfl, rfl, rfl, rfl, trivial⟩ ⟨Nat.zero_le _, Ext.rfl, l, by simpa using hf1⟩ ?_
  rintro i h' ⟨hi, he, l, hf⟩
  refine Wrap.mk ?_; refine kmp (B := iteB (decide ((↑i : Int) < (↑(List.length (Module.vars m)) : Int))) (∃ (b : Nat), ∃ (o : Nat), ∃ (j : Nat), a2 = some (Addr.mk b o none) ∧ (↑i : Int) = (↑j : Int) ∧ j < List.length (Module.vars m) ∧ ∃ (x : ByteArray), cellAt h' b (o + j * 4) = some (Value.string x) ∧ ∃ (x_1 : ByteArray), cellAt h' b (o + j * 4 + 1) = some (Value.string x_1) ∧ ∃ (x_2 : Int), cellAt h' b (o + j * 4 + 1 + 1) = some (Value.int IntKind.i64 x_2) ∧ ∃ (x_3 : Int), cellAt h' b (o + j * 4 + 1 + 1 + 1) = some (Value.int IntKind.i64 x_3) ∧ ∀ (b : Nat) (h'_1 : Array Obj), b = Array.size h' → h'_1 = Array.push h' (Obj.cells #[Value.string (ByteArray.mk #[]), Value.string (ByteArray.mk #[]), Value.int IntKind.i64 0, Value.int IntKind.i64 0] 80) → Writable h'_1 b 0 4 ∧ ∀ (h' : Heap), h' = setCells h'_1 b 0 [Value.string x, Value.string x_1, Value.int IntKind.i64 x_2, Value.int IntKind.i64 x_3] → ∃ (x : ByteArray), cellAt h' b 1 = some (Value.string x) ∧ ∃ (x_4 : Int), cellAt h' b 3 = some (Value.int IntKind.i64 x_4) ∧ CallK Tryz.prog 63 [Value.pointer (some (Addr.mk p 0 none)), Value.string x, Value.int IntKind.i64 x_4] h' (fun (v : Value) (h_1 : Heap) => v = Value.tuple #[] ∧ ∃ (n : Int), Wr IntKind.i64 ((↑i : Int) + 1) n ∧ ∃ (x' : Nat), (Value.pointer (some (Addr.mk p 0 none)) = Value.pointer (some (Addr.mk p 0 none)) ∧ Value.pointer (some (Addr.mk (Array.size h) 0 none)) = Value.pointer (some (Addr.mk (Array.size h) 0 none)) ∧ Value.slice a2 (List.length (Module.vars m)) c2 = Value.slice a2 (List.length (Module.vars m)) c2 ∧ Value.int IntKind.i64 (↑(List.length (Module.vars m)) : Int) = Value.int IntKind.i64 (↑(List.length (Module.vars m)) : Int) ∧ Value.int IntKind.i64 n = Value.int IntKind.i64 (↑x' : Int) ∧ True) ∧ (x' ≤ List.length (Module.vars m) ∧ Ext S' h1 h_1 ∧ ∃ (l : Value), FSt eDiag S' h_1 p (Value.string (Module.name m) :: tc) l (ds ++ List.flatMap (fun (v : Var) => unk1 (Module.name m) t (Var.label v) (Var.at_ v)) (List.take x' (Module.vars m)))) ∧ List.length (Module.vars m) - x' < List.length (Module.vars m) - i) fun (ch : List PanicEntry) (h : Heap) => X ch h) (∃ (a : Option Addr), ∃ (n : Nat), ∃ (c : Nat), cellAt h' (Array.size h) 4 = some (Value.slice a n c) ∧ VSem Tryz.prog fc30 (cd Tryz.f30 22) [(0, Value.pointer (some (Addr.mk p 0 none))), (3, Value.pointer (some (Addr.mk (Array.size h) 0 none))), (11, Value.slice a2 (List.length (Module.vars m)) c2), (12, Value.int IntKind.i64 (↑(List.length (Module.vars m)) : Int)), (13, Value.int IntKind.i64 (↑i : Int)), (14, Value.bool (decide ((↑i : Int) < (↑(List.length (Module.vars m)) : Int)))), (25, Value.slice a n c), (26, Value.int IntKind.i64 (↑n : Int)), (27, Value.int IntKind.i64 0)] h' (vcBlock 2 (vcPost Tryz.prog (Array.toList (Func.results Tryz.f30)) K X)))) (by kernel_rfl) ?_
  refine iteB_in (fun hlt => ?_) (fun hge => ?_)
  · have hlt : i < m.vars.length := by simpa using hlt
    obtain ⟨b, o, rfl, hb, k0, k1, k2, k3⟩ := (hv1.ext he).atVar hlt
    refine ⟨b, o, i, rfl, rfl, hlt, _, k0, _, k1, _, k2, _, k3, box_then rfl rfl fun h3 hb3 e3 hs3 => ⟨_, blk_cell hb3 rfl, _, blk_cell hb3 rfl, ?_⟩⟩
    have e3' := e3.mono (hSl2 he)
    refine label_spec (hf.ext (e3.mono (hf.lt (hSl2 he)))) (eLattice.ext ht1 (he.trans e3')) (hSl2 (he.trans e3')) htn (by
      have := flatMap_len (fun v : Var => unk1 m.name t v.label v.at_) 1 (m.vars.take i) (fun x _ => unk1_len ..)
      rw [List.length_take] at this
      simp only [List.length_append]; omega) fun l4 h4 e4 hf4 => ?_
    refine ⟨rfl, _, wrI (by omega) (by omega), i + 1, ⟨rfl, rfl, rfl, rfl, rfl, trivial⟩, ⟨hlt, (he.trans e3').trans e4, l4, ?_⟩, by omega⟩
    rw [flatMap_take_succ _ _ _ hlt, ← List.append_assoc]
    exact hf4
  obtain rfl : i = m.vars.length := by simp at hge; omega
  clear hge hf1
  rw [List.take_length] at hf
  have hD1l : (ds ++ m.vars.flatMap fun v => unk1 m.name t v.label v.at_).length ≤ 200010000 := by
    have := flatMap_len (fun v : Var => unk1 m.name t v.label v.at_) 1 m.vars (fun x _ => unk1_len ..)
    simp only [List.length_append]; omega
  generalize hD1 : (ds ++ m.vars.flatMap fun v => unk1 m.name t v.label v.at_) = D1 at hf hD1l
  have hpl : ∀ pr ∈ m.procs, (unkP m.name t pr).length ≤ 10002 := by
    intro pr hpr
    have h1 := flatMap_len (fun x : Param => unk1 m.name t x.label x.at_) 1 pr.params (fun x _ => unk1_len ..)
    have h2 := unk1_len m.name t pr.result pr.at_
    have h3 := unk1_len m.name t pr.pc pr.at_
    have h4 := hn.2.2 pr hpr
    unfold unkP
    simp only [List.length_append]
    split
    · omega
    · simp only [List.length_nil]; omega
  refine ⟨a3, _, c3, blk_cell (hq.ext he hSq) rfl, ?_⟩
  refine loop_sem mixed (α := Nat) (fun x => [(0, .pointer (some ⟨p, 0, none⟩)), (3, .pointer (some ⟨h.size, 0, none⟩)), (25, .slice a3 m.procs.length c3), (26, .int .i64 m.procs.length), (27, .int .i64 x)])
    (fun x h' => x ≤ m.procs.length ∧ Ext S' h1 h' ∧ ∃ l, FSt eDiag S' h' p (.string m.name :: tc) l (D1 ++ (m.procs.take x).flatMap (unkP m.name t)))
    (fun x _ => m.procs.length - x) 0 (by kernel_rfl) ⟨rfl, rfl, rfl, rfl, rfl, trivial⟩ ⟨Nat.zero_le _, he, l, by simpa using hf⟩ ?_
  clear he hf
  rintro i h' ⟨hi, he, l, hf⟩
  refine Wrap.mk ?_; refine kmp (B := iteB (decide ((↑i : Int) < (↑(List.length (Module.procs m)) : Int))) (∃ (b : Nat), ∃ (o : Nat), ∃ (j : Nat), a3 = some (Addr.mk b o none) ∧ (↑i : Int) = (↑j : Int) ∧ j < List.length (Module.procs m) ∧ ∃ (x : ByteArray), cellAt h' b (o + j * 8) = some (Value.string x) ∧ ∃ (a : Option Addr), ∃ (n : Nat), ∃ (c : Nat), cellAt h' b (o + j * 8 + 1) = some (Value.slice a n c) ∧ ∃ (x_1 : Bool), cellAt h' b (o + j * 8 + 1 + 1) = some (Value.bool x_1) ∧ ∃ (x_2 : ByteArray), cellAt h' b (o + j * 8 + 1 + 1 + 1) = some (Value.string x_2) ∧ ∃ (x_3 : ByteArray), cellAt h' b (o + j * 8 + 1 + 1 + 1 + 1) = some (Value.string x_3) ∧ ∃ (a_1 : Option Addr), ∃ (n_1 : Nat), ∃ (c_1 : Nat), cellAt h' b (o + j * 8 + 1 + 1 + 1 + 1 + 1) = some (Value.slice a_1 n_1 c_1) ∧ ∃ (a_2 : Option Addr), ∃ (n_2 : Nat), ∃ (c_2 : Nat), cellAt h' b (o + j * 8 + 1 + 1 + 1 + 1 + 1 + 1) = some (Value.slice a_2 n_2 c_2) ∧ ∃ (x_4 : Int), cellAt h' b (o + j * 8 + 1 + 1 + 1 + 1 + 1 + 1 + 1) = some (Value.int IntKind.i64 x_4) ∧ ∀ (b : Nat) (h'_1 : Array Obj), b = Array.size h' → h'_1 = Array.push h' (Obj.cells #[Value.string (ByteArray.mk #[]), Value.slice none 0 0, Value.bool false, Value.string (ByteArray.mk #[]), Value.string (ByteArray.mk #[]), Value.slice none 0 0, Value.slice none 0 0, Value.int IntKind.i64 0] 52) → Writable h'_1 b 0 8 ∧ ∀ (h' : Heap), h' = setCells h'_1 b 0 [Value.string x, Value.slice a n c, Value.bool x_1, Value.string x_2, Value.string x_3, Value.slice a_1 n_1 c_1, Value.slice a_2 n_2 c_2, Value.int IntKind.i64 x_4] → ∃ (a : Option Addr), ∃ (n : Nat), ∃ (c : Nat), cellAt h' b 1 = some (Value.slice a n c) ∧ VSem Tryz.prog fc30 (cd Tryz.f30 37) [(0, Value.pointer (some (Addr.mk p 0 none))), (3, Value.pointer (some (Addr.mk (Array.size h) 0 none))), (7, Value.pointer (some (Addr.mk b 0 none))), (25, Value.slice a3 (List.length (Module.procs m)) c3), (26, Value.int IntKind.i64 (↑(List.length (Module.procs m)) : Int)), (27, Value.int IntKind.i64 (↑i : Int)), (28, Value.bool (decide ((↑i : Int) < (↑(List.length (Module.procs m)) : Int)))), (32, Value.slice a n c), (33, Value.int IntKind.i64 (↑n : Int)), (34, Value.int IntKind.i64 0)] h' (vcBlock 4 (vcThen (fun (r : Regs) (h_1 : Heap) => vcCode Tryz.prog fc30 (cd Tryz.f30 50) r h_1 (vcBlock 3 (vcThen (fun (r : Regs) (h_2 : Heap) => vcCode Tryz.prog fc30 (cd Tryz.f30 57) r h_2 (vcThen (fun (r' : Regs) (h' : Heap) => ∃ (x' : Nat), cov r' [(0, Value.pointer (some (Addr.mk p 0 none))), (3, Value.pointer (some (Addr.mk (Array.size h) 0 none))), (25, Value.slice a3 (List.length (Module.procs m)) c3), (26, Value.int IntKind.i64 (↑(List.length (Module.procs m)) : Int)), (27, Value.int IntKind.i64 (↑x' : Int))] ∧ (x' ≤ List.length (Module.procs m) ∧ Ext S' h1 h' ∧ ∃ (l : Value), FSt eDiag S' h' p (Value.string (Module.name m) :: tc) l (D1 ++ List.flatMap (unkP (Module.name m) t) (List.take x' (Module.procs m)))) ∧ List.length (Module.procs m) - x' < List.length (Module.procs m) - i) (vcBlock 2 (vcPost Tryz.prog (Array.toList (Func.results Tryz.f30)) K X)))) (vcThen (fun (r' : Regs) (h' : Heap) => ∃ (x' : Nat), cov r' [(0, Value.pointer (some (Addr.mk p 0 none))), (3, Value.pointer (some (Addr.mk (Array.size h) 0 none))), (25, Value.slice a3 (List.length (Module.procs m)) c3), (26, Value.int IntKind.i64 (↑(List.length (Module.procs m)) : Int)), (27, Value.int IntKind.i64 (↑x' : Int))] ∧ (x' ≤ List.length (Module.procs m) ∧ Ext S' h1 h' ∧ ∃ (l : Value), FSt eDiag S' h' p (Value.string (Module.name m) :: tc) l (D1 ++ List.flatMap (unkP (Module.name m) t) (List.take x' (Module.procs m)))) ∧ List.length (Module.procs m) - x' < List.length (Module.procs m) - i) (vcBlock 2 (vcPost Tryz.prog (Array.toList (Func.results Tryz.f30)) K X)))))) (vcBlock 3 (vcThen (fun (r : Regs) (h_1 : Heap) => vcCode Tryz.prog fc30 (cd Tryz.f30 57) r h_1 (vcThen (fun (r' : Regs) (h' : Heap) => ∃ (x' : Nat), cov r' [(0, Value.pointer (some (Addr.mk p 0 none))), (3, Value.pointer (some (Addr.mk (Array.size h) 0 none))), (25, Value.slice a3 (List.length (Module.procs m)) c3), (26, Value.int IntKind.i64 (↑(List.length (Module.procs m)) : Int)), (27, Value.int IntKind.i64 (↑x' : Int))] ∧ (x' ≤ List.length (Module.procs m) ∧ Ext S' h1 h' ∧ ∃ (l : Value), FSt eDiag S' h' p (Value.string (Module.name m) :: tc) l (D1 ++ List.flatMap (unkP (Module.name m) t) (List.take x' (Module.procs m)))) ∧ List.length (Module.procs m) - x' < List.length (Module.procs m) - i) (vcBlock 2 (vcPost Tryz.prog (Array.toList (Func.results Tryz.f30)) K X)))) (vcThen (fun (r' : Regs) (h' : Heap) => ∃ (x' : Nat), cov r' [(0, Value.pointer (some (Addr.mk p 0 none))), (3, Value.pointer (some (Addr.mk (Array.size h) 0 none))), (25, Value.slice a3 (List.length (Module.procs m)) c3), (26, Value.int IntKind.i64 (↑(List.length (Module.procs m)) : Int)), (27, Value.int IntKind.i64 (↑x' : Int))] ∧ (x' ≤ List.length (Module.procs m) ∧ Ext S' h1 h' ∧ ∃ (l : Value), FSt eDiag S' h' p (Value.string (Module.name m) :: tc) l (D1 ++ List.flatMap (unkP (Module.name m) t) (List.take x' (Module.procs m)))) ∧ List.length (Module.procs m) - x' < List.length (Module.procs m) - i) (vcBlock 2 (vcPost Tryz.prog (Array.toList (Func.results Tryz.f30)) K X)))))))) (K (Value.tuple #[]) h')) (by kernel_rfl) ?_
  refine iteB_in (fun hlt => ?_) (fun hge => ?_)
  · have hlt : i < m.procs.length := by simpa using hlt
    obtain ⟨b, o, rfl, hb, a7, n7, c7, a8, n8, c8, a9, n9, c9, k0, k1, k2, k3, k4, k5, k6, k7, hps, _, _⟩ := (hp1.ext he).atProc hlt
    refine ⟨b, o, i, rfl, rfl, hlt, _, k0, _, _, _, k1, _, k2, _, k3, _, k4, _, _, _, k5, _, _, _, k6, _, k7, box_then rfl rfl fun h3 hb3 e3 hs3 => ⟨_, _, _, blk_cell hb3 rfl, ?_⟩⟩
    have e3' := e3.mono (hSl2 he)
    have hS3 := hSl2 (he.trans e3')
    have hf3 := hf.ext (e3.mono (hf.lt (hSl2 he)))
    have hflt := hf.lt (hSl2 he)
    obtain ⟨_, _, hv7, _⟩ := hps.form
    cases hv7
    have hprl : m.procs[i].params.length ≤ 10000 := hn.2.2 _ (List.getElem_mem hlt)
    have hDl : (D1 ++ (m.procs.take i).flatMap (unkP m.name t)).length ≤ 200010000 + 10000 * 10002 := by
      have h1 := flatMap_len (unkP m.name t) 10002 (m.procs.take i) (fun x hx => hpl x (List.mem_of_mem_take hx))
      have h2 : (m.procs.take i).length * 10002 ≤ 10000 * 10002 := Nat.mul_le_mul_right _ (by rw [List.length_take]; omega)
      simp only [List.length_append]; omega
    generalize hD : D1 ++ (m.procs.take i).flatMap (unkP m.name t) = D at *
    -- the box of the procedure stays too
    generalize hr : h'.size = r at *
    generalize hT : (fun b => S' b ∨ b = r) = T
    have hTS : ∀ b, S' b → T b := fun b hb => hT ▸ .inl hb
    have hTr : T r := hT ▸ .inr rfl
    have hTl : ∀ b, T b → b < h3.size := by
      subst hT
      rintro b (hb | rfl)
      · exact hS3 b hb
      · omega
    have hf4 : FSt eDiag T h3 p (.string m.name :: tc) l D := hT ▸ hf3.more (by have := hflt p (.inr (.inl rfl)); omega) fun e => by have := hflt r (.inr (.inr e)); omega
    clear hT hf3
    have hps3 := (hps.ext e3').mono hTS
    have ht3 := eLattice.mono (eLattice.ext ht1 (he.trans e3')) hTS
    have he3 := he.trans e3'
    have hTl2 : ∀ {h' : Heap}, Ext T h3 h' → ∀ b, T b → b < h'.size := fun e b hb => Nat.lt_of_lt_of_le (hTl b hb) e.size
    refine loop_sem mixed (α := Nat) (fun x => [(0, .pointer (some ⟨p, 0, none⟩)), (3, .pointer (some ⟨h.size, 0, none⟩)), (7, .pointer (some ⟨r, 0, none⟩)), (25, .slice (some ⟨b, o, none⟩) m.procs.length c3), (26, .int .i64 m.procs.length), (27, .int .i64 i), (32, .slice a7 m.procs[i].params.length c7), (33, .int .i64 m.procs[i].params.length), (34, .int .i64 x)])
      (fun x h' => x ≤ m.procs[i].params.length ∧ Ext T h3 h' ∧ ∃ l, FSt eDiag T h' p (.string m.name :: tc) l (D ++ (m.procs[i].params.take x).flatMap fun v => unk1 m.name t v.label v.at_))
      (fun x _ => m.procs[i].params.length - x) 0 (by kernel_rfl) ⟨rfl, rfl, rfl, rfl, rfl, rfl, rfl, rfl, rfl, trivial⟩ ⟨Nat.zero_le _, Ext.rfl, l, by simpa using hf4⟩ ?_
    clear hf4 hf e3' e3 k0 k1 k2 k3 k4 k5 k6 k7 hps he
    rintro j h' ⟨hj, he, l, hf⟩
    refine Wrap.mk ?_; refine kmp (B := iteB (decide ((↑j : Int) < (↑(List.length (Proc.params (Module.procs m)[i])) : Int))) (∃ (b_1 : Nat), ∃ (o_1 : Nat), ∃ (j_1 : Nat), a7 = some (Addr.mk b_1 o_1 none) ∧ (↑j : Int) = (↑j_1 : Int) ∧ j_1 < List.length (Proc.params (Module.procs m)[i]) ∧ ∃ (x : ByteArray), cellAt h' b_1 (o_1 + j_1 * 3) = some (Value.string x) ∧ ∃ (x_1 : ByteArray), cellAt h' b_1 (o_1 + j_1 * 3 + 1) = some (Value.string x_1) ∧ ∃ (x_2 : Int), cellAt h' b_1 (o_1 + j_1 * 3 + 1 + 1) = some (Value.int IntKind.i64 x_2) ∧ ∀ (b_2 : Nat) (h'_1 : Array Obj), b_2 = Array.size h' → h'_1 = Array.push h' (Obj.cells #[Value.string (ByteArray.mk #[]), Value.string (ByteArray.mk #[]), Value.int IntKind.i64 0] 120) → Writable h'_1 b_2 0 3 ∧ ∀ (h' : Heap), h' = setCells h'_1 b_2 0 [Value.string x, Value.string x_1, Value.int IntKind.i64 x_2] → ∃ (x : ByteArray), cellAt h' b_2 1 = some (Value.string x) ∧ ∃ (x_3 : Int), cellAt h' b_2 2 = some (Value.int IntKind.i64 x_3) ∧ CallK Tryz.prog 63 [Value.pointer (some (Addr.mk p 0 none)), Value.string x, Value.int IntKind.i64 x_3] h' (fun (v : Value) (h_1 : Heap) => v = Value.tuple #[] ∧ ∃ (n : Int), Wr IntKind.i64 ((↑j : Int) + 1) n ∧ ∃ (x' : Nat), (Value.pointer (some (Addr.mk p 0 none)) = Value.pointer (some (Addr.mk p 0 none)) ∧ Value.pointer (some (Addr.mk (Array.size h) 0 none)) = Value.pointer (some (Addr.mk (Array.size h) 0 none)) ∧ Value.pointer (some (Addr.mk r 0 none)) = Value.pointer (some (Addr.mk r 0 none)) ∧ Value.slice (some (Addr.mk b o none)) (List.length (Module.procs m)) c3 = Value.slice (some (Addr.mk b o none)) (List.length (Module.procs m)) c3 ∧ Value.int IntKind.i64 (↑(List.length (Module.procs m)) : Int) = Value.int IntKind.i64 (↑(List.length (Module.procs m)) : Int) ∧ Value.int IntKind.i64 (↑i : Int) = Value.int IntKind.i64 (↑i : Int) ∧ Value.slice a7 (List.length (Proc.params (Module.procs m)[i])) c7 = Value.slice a7 (List.length (Proc.params (Module.procs m)[i])) c7 ∧ Value.int IntKind.i64 (↑(List.length (Proc.params (Module.procs m)[i])) : Int) = Value.int IntKind.i64 (↑(List.length (Proc.params (Module.procs m)[i])) : Int) ∧ Value.int IntKind.i64 n = Value.int IntKind.i64 (↑x' : Int) ∧ True) ∧ (x' ≤ List.length (Proc.params (Module.procs m)[i]) ∧ Ext T h3 h_1 ∧ ∃ (l : Value), FSt eDiag T h_1 p (Value.string (Module.name m) :: tc) l (D ++ List.flatMap (fun (v : Param) => unk1 (Module.name m) t (Param.label v) (Param.at_ v)) (List.take x' (Proc.params (Module.procs m)[i])))) ∧ List.length (Proc.params (Module.procs m)[i]) - x' < List.length (Proc.params (Module.procs m)[i]) - j) fun (ch : List PanicEntry) (h : Heap) => X ch h) (∃ (x : Bool), cellAt h' r 2 = some (Value.bool x) ∧ iteB x (∃ (x : ByteArray), cellAt h' r 3 = some (Value.string x) ∧ ∃ (x_1 : Int), cellAt h' r 7 = some (Value.int IntKind.i64 x_1) ∧ CallK Tryz.prog 63 [Value.pointer (some (Addr.mk p 0 none)), Value.string x, Value.int IntKind.i64 x_1] h' (fun (v : Value) (h_1 : Heap) => v = Value.tuple #[] ∧ ∃ (x : ByteArray), cellAt h_1 r 4 = some (Value.string x) ∧ ∃ (x_2 : Int), cellAt h_1 r 7 = some (Value.int IntKind.i64 x_2) ∧ CallK Tryz.prog 63 [Value.pointer (some (Addr.mk p 0 none)), Value.string x, Value.int IntKind.i64 x_2] h_1 (fun (v : Value) (h_2 : Heap) => v = Value.tuple #[] ∧ ∃ (n : Int), Wr IntKind.i64 ((↑i : Int) + 1) n ∧ ∃ (x' : Nat), (Value.pointer (some (Addr.mk p 0 none)) = Value.pointer (some (Addr.mk p 0 none)) ∧ Value.pointer (some (Addr.mk (Array.size h) 0 none)) = Value.pointer (some (Addr.mk (Array.size h) 0 none)) ∧ Value.slice (some (Addr.mk b o none)) (List.length (Module.procs m)) c3 = Value.slice (some (Addr.mk b o none)) (List.length (Module.procs m)) c3 ∧ Value.int IntKind.i64 (↑(List.length (Module.procs m)) : Int) = Value.int IntKind.i64 (↑(List.length (Module.procs m)) : Int) ∧ Value.int IntKind.i64 n = Value.int IntKind.i64 (↑x' : Int) ∧ True) ∧ (x' ≤ List.length (Module.procs m) ∧ Ext S' h1 h_2 ∧ ∃ (l : Value), FSt eDiag S' h_2 p (Value.string (Module.name m) :: tc) l (D1 ++ List.flatMap (unkP (Module.name m) t) (List.take x' (Module.procs m)))) ∧ List.length (Module.procs m) - x' < List.length (Module.procs m) - i) fun (ch : List PanicEntry) (h : Heap) => X ch h) fun (ch : List PanicEntry) (h : Heap) => X ch h) (∃ (x : ByteArray), cellAt h' r 4 = some (Value.string x) ∧ ∃ (x_1 : Int), cellAt h' r 7 = some (Value.int IntKind.i64 x_1) ∧ CallK Tryz.prog 63 [Value.pointer (some (Addr.mk p 0 none)), Value.string x, Value.int IntKind.i64 x_1] h' (fun (v : Value) (h_1 : Heap) => v = Value.tuple #[] ∧ ∃ (n : Int), Wr IntKind.i64 ((↑i : Int) + 1) n ∧ ∃ (x' : Nat), (Value.pointer (some (Addr.mk p 0 none)) = Value.pointer (some (Addr.mk p 0 none)) ∧ Value.pointer (some (Addr.mk (Array.size h) 0 none)) = Value.pointer (some (Addr.mk (Array.size h) 0 none)) ∧ Value.slice (some (Addr.mk b o none)) (List.length (Module.procs m)) c3 = Value.slice (some (Addr.mk b o none)) (List.length (Module.procs m)) c3 ∧ Value.int IntKind.i64 (↑(List.length (Module.procs m)) : Int) = Value.int IntKind.i64 (↑(List.length (Module.procs m)) : Int) ∧ Value.int IntKind.i64 n = Value.int IntKind.i64 (↑x' : Int) ∧ True) ∧ (x' ≤ List.length (Module.procs m) ∧ Ext S' h1 h_1 ∧ ∃ (l : Value), FSt eDiag S' h_1 p (Value.string (Module.name m) :: tc) l (D1 ++ List.flatMap (unkP (Module.name m) t) (List.take x' (Module.procs m)))) ∧ List.length (Module.procs m) - x' < List.length (Module.procs m) - i) fun (ch : List PanicEntry) (h : Heap) => X ch h))) (by kernel_rfl) ?_
    refine iteB_in (fun hlt2 => ?_) (fun hge => ?_)
    · have hlt2 : j < m.procs[i].params.length := by simpa using hlt2
      obtain ⟨b, o, rfl, hb, k0, k1, k2⟩ := (hps3.ext he).atParam hlt2
      refine ⟨b, o, j, rfl, rfl, hlt2, _, k0, _, k1, _, k2, box_then rfl rfl fun h4 hb4 e4 hs4 => ⟨_, blk_cell hb4 rfl, _, blk_cell hb4 rfl, ?_⟩⟩
      have e4' := e4.mono (hTl2 he)
      refine label_spec (hf.ext (e4.mono (hf.lt (hTl2 he)))) (eLattice.ext ht3 (he.trans e4')) (hTl2 (he.trans e4')) htn (by
        have := flatMap_len (fun v : Param => unk1 m.name t v.label v.at_) 1 (m.procs[i].params.take j) (fun x _ => unk1_len ..)
        rw [List.length_take] at this
        simp only [List.length_append]; omega) fun l5 h5 e5 hf5 => ?_
      refine ⟨rfl, _, wrI (by omega) (by omega), j + 1, ⟨rfl, rfl, rfl, rfl, rfl, rfl, rfl, rfl, rfl, trivial⟩, ⟨hlt2, (he.trans e4').trans e5, l5, ?_⟩, by omega⟩
      rw [flatMap_take_succ _ _ _ hlt2, ← List.append_assoc]
      exact hf5
    · obtain rfl : j = m.procs[i].params.length := by simp at hge; omega
      rw [List.take_length] at hf
      have hD2l : (D ++ m.procs[i].params.flatMap fun v => unk1 m.name t v.label v.at_).length ≤ 500000000 := by
        have := flatMap_len (fun v : Param => unk1 m.name t v.label v.at_) 1 m.procs[i].params (fun x _ => unk1_len ..)
        simp only [List.length_append]; omega
      have hend : ∀ {h6 : Heap} {l6 : Value} {A : List Diag}, Ext T h3 h6 → FSt eDiag T h6 p (.string m.name :: tc) l6 (D ++ (m.procs[i].params.flatMap fun v => unk1 m.name t v.label v.at_) ++ A) → A = (if m.procs[i].has then unk1 m.name t m.procs[i].result m.procs[i].at_ else []) ++ unk1 m.name t m.procs[i].pc m.procs[i].at_ →
          FSt eDiag S' h6 p (.string m.name :: tc) l6 (D1 ++ (m.procs.take (i + 1)).flatMap (unkP m.name t)) := by
        rintro h6 l6 A e6 hf6 rfl
        rw [flatMap_take_succ _ _ _ hlt, ← List.append_assoc, hD, unkP]
        rw [List.append_assoc] at hf6
        exact ⟨hf6.blk, hf6.own.less hTS fun css => repsDiag, fun hh => hf6.np (hTS _ hh), hf6.nl⟩
      have hpc : ∀ {h6 : Heap} {l6 : Value} {A : List Diag}, Ext T h3 h6 → FSt eDiag T h6 p (.string m.name :: tc) l6 (D ++ (m.procs[i].params.flatMap fun v => unk1 m.name t v.label v.at_) ++ A) → A = (if m.procs[i].has then unk1 m.name t m.procs[i].result m.procs[i].at_ else []) →
          ∀ K', (∀ l7 h7, Ext S' h1 h7 → FSt eDiag S' h7 p (.string m.name :: tc) l7 (D1 ++ (m.procs.take (i + 1)).flatMap (unkP m.name t)) → K' (.tuple #[]) h7) →
          CallK Tryz.prog 63 [.pointer (some ⟨p, 0, none⟩), .string m.procs[i].pc, .int .i64 m.procs[i].at_] h6 K' X := by
        rintro h6 l6 A e6 hf6 rfl K' hK'
        refine label_spec hf6 (eLattice.ext ht3 e6) (hTl2 e6) htn (by
          have := unk1_len m.name t m.procs[i].result m.procs[i].at_
          simp only [List.length_append] at hD2l ⊢
          split
          · omega
          · simp only [List.length_nil]; omega) fun l7 h7 e7 hf7 => hK' l7 h7 (he3.trans ((e6.trans e7).mono hTS)) (hend (e6.trans e7) (by rw [← List.append_assoc]; exact hf7) rfl)
      have hb6 := hb3.ext he hTr
      refine ⟨_, blk_cell hb6 rfl, iteB_in (fun hhas => ?_) (fun hhas => ?_)⟩
      · refine ⟨_, blk_cell hb6 rfl, _, blk_cell hb6 rfl, ?_⟩
        refine label_spec hf (eLattice.ext ht3 he) (hTl2 he) htn (by omega) fun l6 h6 e6 hf6 => ?_
        have hb7 := hb6.ext e6 hTr
        refine ⟨rfl, _, blk_cell hb7 rfl, _, blk_cell hb7 rfl, hpc (he.trans e6) hf6 (by rw [if_pos hhas]) _ fun l7 h7 e7 hf7 => ?_⟩
        exact ⟨rfl, _, wrI (by omega) (by omega), i + 1, ⟨rfl, rfl, rfl, rfl, rfl, trivial⟩, ⟨hlt, e7, l7, hf7⟩, by omega⟩
      · refine ⟨_, blk_cell hb6 rfl, _, blk_cell hb6 rfl, hpc he (A := []) (by rw [List.append_nil]; exact hf) (by rw [if_neg (by rw [hhas]; decide)]) _ fun l7 h7 e7 hf7 => ?_⟩
        exact ⟨rfl, _, wrI (by omega) (by omega), i + 1, ⟨rfl, rfl, rfl, rfl, rfl, trivial⟩, ⟨hlt, e7, l7, hf7⟩, by omega⟩
  · obtain rfl : i = m.procs.length := by simp at hge; omega
    rw [List.take_length] at hf
    have e : D1 ++ m.procs.flatMap (unkP m.name t) = ds ++ unknowns m t := by
      rw [unknowns, ← hD1, List.append_assoc]
    rw [e] at hf
    exact hK l h' ((e1.mono hS).trans (he.mono hSS)) ⟨hf.blk, hf.own.less hSS fun css => repsDiag, fun hh => hf.np (hSS _ hh), hf.nl⟩

end Go.Proofs.YtdnlhicbjhgjiaaGreatDoor
