/- What is wrong with names and labels. No condition. -/
import Derived.Test.YtdnlhicbjhgjiaaGreatDoorZC
import Derived.Test.YtdnlhicbjhgjiaaGreatDoorVxT
namespace Go.Proofs.YtdnlhicbjhgjiaaGreatDoor
open Go Go.Vx
set_option maxRecDepth 100000

variable {S : BS} {K : Value → Heap → Prop} {X : List PanicEntry → Heap → Prop} {h : Heap}

theorem lplace_spec {cs : List Value} {t : Lattice} {s : ByteArray} (hr : eLattice.rep S h cs t) (hS : ∀ b, S b → b < h.size) (hn : t.names.length ≤ 1000000)
    (hK : ∀ h', Ext (Al h) h h' → K (.int .i64 (posOf t.names s)) h') : CallK Tryz.prog 79 [.agg cs.toArray, .string s] h K X := by
  obtain ⟨vn, vl, vj, vm, rfl, h1, h2, h3, h4⟩ := hr
  obtain ⟨a, c, rfl, _⟩ := h1.form
  refine callK_of_vc fc79 mixed Tryz.func79 ok79 (Nat.le_of_ble_eq_true rfl) ?_
  refine kmp (B := ∀ (b : Nat) (h' : Array Obj), b = Array.size h → h' = Array.push h (Obj.cells #[Value.slice a (List.length (Lattice.names t)) c, vl, vj, vm, Value.int IntKind.i64 (Lattice.low t), Value.int IntKind.i64 (Lattice.high t)] 43) → ∃ (a : Option Addr), ∃ (n : Nat), ∃ (c : Nat), cellAt h' b 0 = some (Value.slice a n c) ∧ CallK Tryz.prog 50 [Value.slice a n c, Value.string s] h' (fun (v : Value) (h : Heap) => ∃ (x : Int), v = Value.int IntKind.i64 x ∧ K (Value.int IntKind.i64 x) h) fun (ch : List PanicEntry) (h : Heap) => X ch h) (by kernel_rfl) ?_ -- ENTERED
  rintro b h' rfl rfl
  refine ⟨a, _, c, blk_cell Blk.push rfl, index_spec (h1.ext (Ext.push hS)) (by omega) ⟨_, rfl, hK _ Ext.pushA⟩⟩

/-- A finder and a row of texts beside it. -/
structure Tw (S : BS) (h : Heap) (p : Nat) (cs : List Value) (l : Value) (ds : List Diag) (v : Value) (xs : List ByteArray) : Prop where
  f : FSt eDiag S h p cs l ds
  own : Own eStr S h v xs
  ap : Apart l v
  np : blkOf v ≠ some p

theorem twice_spec {p : Nat} {mod nm : ByteArray} {tc : List Value} {l : Value} {ds : List Diag} {a : Option Addr} {n c : Nat} {xs : List ByteArray} {at_ : Int}
    (hw : Tw S h p (.string mod :: tc) l ds (.slice a n c) xs) (htc : tc.length = 6) (hS : ∀ b, S b → b < h.size) (hn : xs.length ≤ 1000000) (hd : ds.length ≤ 1000000000)
    (hK : ∀ a n c l' h', Ext S h h' → Tw S h' p (.string mod :: tc) l' (ds ++ dup1 mod xs nm at_) (.slice a n c) (xs ++ [nm]) → K (.slice a n c) h') :
    CallK Tryz.prog 62 [.pointer (some ⟨p, 0, none⟩), .slice a n c, .string nm, .int .i64 at_] h K X := by
  have hs := hw.own.slA hS
  refine callK_of_vc fc62 mixed Tryz.func62 ok62 (Nat.le_of_ble_eq_true rfl) ?_
  refine kmp (B := CallK Tryz.prog 26 [Value.slice a n c, Value.string nm] h (fun (v : Value) (h : Heap) => ∃ (x : Bool), v = Value.bool x ∧ iteB x (∃ (a_1 : Option Addr), ∃ (n_1 : Nat), ∃ (c_1 : Nat), cellAt h p 7 = some (Value.slice a_1 n_1 c_1) ∧ ∃ (x : ByteArray), cellAt h p 0 = some (Value.string x) ∧ ∀ (b : Nat) (h' : Array Obj), b = Array.size h → h' = Array.push h (Obj.cells #[Value.string x, Value.int IntKind.i64 at_, Value.int IntKind.i64 6, Value.string nm] 92) → (∃ (a : Option Addr), ∃ (n : Nat), ∃ (c : Nat), cellAt h' p 7 = some (Value.slice a n c) ∧ Value.slice a n c = Value.slice a_1 n_1 c_1) ∧ AppK 92 4 48 [Value.string (ByteArray.mk #[]), Value.int IntKind.i64 0, Value.int IntKind.i64 0, Value.string (ByteArray.mk #[])] (Value.slice a_1 n_1 c_1) (Value.slice (some (Addr.mk b 0 none)) 1 1) h' fun (a_4 : Option Addr) (n_2 c_2 : Nat) (h : Heap) => Writable h p 7 1 ∧ ∀ (h' : Heap), h' = setCells h p 7 [Value.slice a_4 n_2 c_2] → ∀ (b : Nat) (h'_1 : Array Obj), b = Array.size h' → h'_1 = Array.push h' (Obj.cells #[Value.string nm] 9) → AppK 9 1 16 [Value.string (ByteArray.mk #[])] (Value.slice a n c) (Value.slice (some (Addr.mk b 0 none)) 1 1) h'_1 fun (a : Option Addr) (n c : Nat) (h : Heap) => K (Value.slice a n c) h) (∀ (b : Nat) (h' : Array Obj), b = Array.size h → h' = Array.push h (Obj.cells #[Value.string nm] 9) → AppK 9 1 16 [Value.string (ByteArray.mk #[])] (Value.slice a n c) (Value.slice (some (Addr.mk b 0 none)) 1 1) h' fun (a : Option Addr) (n c : Nat) (h : Heap) => K (Value.slice a n c) h)) fun (ch : List PanicEntry) (h : Heap) => X ch h) (by kernel_rfl) ?_ -- ENTERED
  refine contains_spec hs (by omega) ⟨_, rfl, iteB_in (fun hm => ?_) (fun hm => ?_)⟩
  · obtain ⟨la, lc, rfl⟩ := hw.f.form
    have hc7 : ((.string mod :: tc) ++ [Value.slice la ds.length lc])[7]? = some (Value.slice la ds.length lc) := by
      rw [List.getElem?_append_right (by simp [htc])]; simp [htc]
    have hlen : (Value.string mod :: tc).length = 7 := by simp [htc]
    refine ⟨la, _, lc, blk_cell hw.f.blk hc7, mod, blk_cell hw.f.blk rfl, ?_⟩
    rintro b h' rfl rfl
    refine ⟨⟨la, _, lc, blk_cell (hw.f.blk.ext Ext.pushA hw.f.blk.lt) hc7, rfl⟩, ?_⟩
    refine hw.f.own.app hS (css := [[.string mod, .int .i64 at_, .int .i64 6, .string nm]]) (ys := [(⟨mod, at_, 6, nm⟩ : Diag)]) ⟨rfl, trivial⟩ rfl rfl rfl (by simp; omega) (by simp; omega) (fun a1 n1 c1 h1 hn1 g => ?_) _ _ rfl rfl
    obtain ⟨hwr, hf2, hext, hblk⟩ := hw.f.told g
    rw [hlen] at hwr hf2 hext
    refine ⟨hwr, ?_⟩
    rintro h2 rfl
    have hl2 : h.size ≤ (setCells h1 p 7 [.slice a1 n1 c1]).size := hext.size
    have hbS : Ext S h (setCells h1 p 7 [.slice a1 n1 c1]) := hext.mono fun b hb => ⟨hS b hb, fun e => hw.f.np (e ▸ hb), fun e => (hw.f.own.fresh e).1 hb⟩
    have ho2 : Own eStr S (setCells h1 p 7 [.slice a1 n1 c1]) (.slice a n c) xs := by
      refine hw.own.ext hext (fun b hb => ⟨hS b hb, fun e => hw.f.np (e ▸ hb), fun e => (hw.f.own.fresh e).1 hb⟩) fun b hb => ⟨(hw.own.fresh hb).2, fun e => hw.np (e ▸ hb), fun e => hw.ap b e hb⟩
    have hap2 : Apart (.slice a1 n1 c1) (.slice a n c) := by
      intro b h1 h2
      rcases hblk b h1 with h3 | h3
      · exact hw.ap b h3 h2
      · have := (hw.own.fresh h2).2; omega
    have hS2 : ∀ b, S b → b < (setCells h1 p 7 [.slice a1 n1 c1]).size := fun b hb => Nat.lt_of_lt_of_le (hS b hb) hl2
    refine ho2.app hS2 (css := [[.string nm]]) (ys := [nm]) ⟨rfl, trivial⟩ rfl rfl rfl (by simp; omega) (by simp; omega) fun a3 n3 c3 h3 hn3 g3 => ?_
    have e3 := g3.ext (FS S p (.slice a1 n1 c1)) (hf2.lt hS2) (by
      rintro b hb (h4 | rfl | h4)
      · exact (ho2.fresh hb).1 h4
      · exact hw.np hb
      · exact hap2 b h4 hb)
    refine hK _ _ _ (.slice a1 n1 c1) h3 (hbS.trans (e3.mono fun b hb => .inl hb)) ⟨?_, g3.own, ?_, ?_⟩
    · rw [dup1, if_pos hm]; exact hf2.ext e3
    · intro b h5 h6
      rcases g3.blk b h6 with h7 | h7
      · exact hap2 b h5 h7
      · have := (hf2.own.fresh h5).2; omega
    · intro h6
      rcases g3.blk p h6 with h7 | h7
      · exact hw.np h7
      · have := hf2.blk.lt; omega
  · refine hw.own.app hS (css := [[.string nm]]) (ys := [nm]) ⟨rfl, trivial⟩ rfl rfl rfl (by simp; omega) (by simp; omega) fun a3 n3 c3 h3 hn3 g3 => ?_
    have e3 := g3.ext (FS S p l) (hw.f.lt hS) (by
      rintro b hb (h4 | rfl | h4)
      · exact (hw.own.fresh hb).1 h4
      · exact hw.np hb
      · exact hw.ap b h4 hb)
    refine hK _ _ _ l h3 (e3.mono fun b hb => .inl hb) ⟨?_, g3.own, ?_, ?_⟩
    · rw [dup1, if_neg (by rw [hm]; decide), List.append_nil]; exact hw.f.ext e3
    · intro b h5 h6
      rcases g3.blk b h6 with h7 | h7
      · exact hw.ap b h5 h7
      · have := (hw.f.own.fresh h5).2; omega
    · intro h6
      rcases g3.blk p h6 with h7 | h7
      · exact hw.np h7
      · have := hw.f.blk.lt; omega

theorem label_spec {p : Nat} {mod nm : ByteArray} {tc : List Value} {t : Lattice} {l : Value} {ds : List Diag} {at_ : Int}
    (hf : FSt eDiag S h p (.string mod :: tc) l ds) (ht : eLattice.rep S h tc t) (hS : ∀ b, S b → b < h.size) (hn : t.names.length ≤ 1000000) (hd : ds.length ≤ 1000000000)
    (hK : ∀ l' h', Ext S h h' → FSt eDiag S h' p (.string mod :: tc) l' (ds ++ unk1 mod t nm at_) → K (.tuple #[]) h') :
    CallK Tryz.prog 63 [.pointer (some ⟨p, 0, none⟩), .string nm, .int .i64 at_] h K X := by
  obtain ⟨vn, vl, vj, vm, rfl, h1, h2, h3, h4⟩ := id ht
  obtain ⟨a1, c1, rfl, _⟩ := h1.form
  obtain ⟨a2, c2, rfl, _⟩ := h2.form
  obtain ⟨a3, c3, rfl, _⟩ := h3.form
  obtain ⟨a4, c4, rfl, _⟩ := h4.form
  refine callK_of_vc fc63 mixed Tryz.func63 ok63 (Nat.le_of_ble_eq_true rfl) ?_
  refine kmp (B := ∃ (a : Option Addr), ∃ (n : Nat), ∃ (c : Nat), cellAt h p 1 = some (Value.slice a n c) ∧ ∃ (a_1 : Option Addr), ∃ (n_1 : Nat), ∃ (c_1 : Nat), cellAt h p 2 = some (Value.slice a_1 n_1 c_1) ∧ ∃ (a_2 : Option Addr), ∃ (n_2 : Nat), ∃ (c_2 : Nat), cellAt h p 3 = some (Value.slice a_2 n_2 c_2) ∧ ∃ (a_3 : Option Addr), ∃ (n_3 : Nat), ∃ (c_3 : Nat), cellAt h p 4 = some (Value.slice a_3 n_3 c_3) ∧ ∃ (x : Int), cellAt h p 5 = some (Value.int IntKind.i64 x) ∧ ∃ (x_1 : Int), cellAt h p 6 = some (Value.int IntKind.i64 x_1) ∧ CallK Tryz.prog 79 [Value.agg #[Value.slice a n c, Value.slice a_1 n_1 c_1, Value.slice a_2 n_2 c_2, Value.slice a_3 n_3 c_3, Value.int IntKind.i64 x, Value.int IntKind.i64 x_1], Value.string nm] h (fun (v : Value) (h : Heap) => ∃ (x : Int), v = Value.int IntKind.i64 x ∧ iteB (decide (x < 0)) (∃ (a : Option Addr), ∃ (n : Nat), ∃ (c : Nat), cellAt h p 7 = some (Value.slice a n c) ∧ ∃ (x : ByteArray), cellAt h p 0 = some (Value.string x) ∧ ∀ (b : Nat) (h' : Array Obj), b = Array.size h → h' = Array.push h (Obj.cells #[Value.string x, Value.int IntKind.i64 at_, Value.int IntKind.i64 7, Value.string nm] 92) → (∃ (a_6 : Option Addr), ∃ (n_4 : Nat), ∃ (c_4 : Nat), cellAt h' p 7 = some (Value.slice a_6 n_4 c_4) ∧ Value.slice a_6 n_4 c_4 = Value.slice a n c) ∧ AppK 92 4 48 [Value.string (ByteArray.mk #[]), Value.int IntKind.i64 0, Value.int IntKind.i64 0, Value.string (ByteArray.mk #[])] (Value.slice a n c) (Value.slice (some (Addr.mk b 0 none)) 1 1) h' fun (a : Option Addr) (n c : Nat) (h : Heap) => Writable h p 7 1 ∧ ∀ (h' : Heap), h' = setCells h p 7 [Value.slice a n c] → K (Value.tuple #[]) h') (K (Value.tuple #[]) h)) fun (ch : List PanicEntry) (h : Heap) => X ch h) (by kernel_rfl) ?_ -- ENTERED
  refine ⟨a1, _, c1, blk_cell hf.blk rfl, a2, _, c2, blk_cell hf.blk rfl, a3, _, c3, blk_cell hf.blk rfl, a4, _, c4, blk_cell hf.blk rfl, _, blk_cell hf.blk rfl, _, blk_cell hf.blk rfl, ?_⟩
  refine lplace_spec ht hS hn fun h1 e1 => ⟨_, rfl, iteB_in (fun hlt => ?_) (fun hge => ?_)⟩
  · obtain ⟨la, lc, rfl⟩ := hf.form
    have hf1 := hf.ext (e1.mono (hf.lt hS))
    have hS1 : ∀ b, S b → b < h1.size := fun b hb => Nat.lt_of_lt_of_le (hS b hb) e1.size
    refine ⟨la, _, lc, blk_cell hf1.blk rfl, mod, blk_cell hf1.blk rfl, ?_⟩
    rintro b h' rfl rfl
    refine ⟨⟨la, _, lc, blk_cell (hf1.blk.ext Ext.pushA hf1.blk.lt) rfl, rfl⟩, ?_⟩
    refine hf1.own.app hS1 (css := [[.string mod, .int .i64 at_, .int .i64 7, .string nm]]) (ys := [(⟨mod, at_, 7, nm⟩ : Diag)]) ⟨rfl, trivial⟩ rfl rfl rfl (by simp; omega) (by simp; omega) (fun a1 n1 c1 h2 hn1 g => ?_) _ _ rfl rfl
    obtain ⟨hwr, hf2, hext, hblk⟩ := hf1.told g
    refine ⟨hwr, ?_⟩
    rintro h3 rfl
    refine hK (.slice a1 n1 c1) _ ((e1.mono hS).trans (hext.mono fun b hb => ⟨hS1 b hb, fun e => hf.np (e ▸ hb), fun e => (hf.own.fresh e).1 hb⟩)) ?_
    rw [unk1, if_pos (by simpa using hlt)]; exact hf2
  · refine hK l _ (e1.mono hS) ?_
    rw [unk1, if_neg (by simpa using hge), List.append_nil]
    exact hf.ext (e1.mono (hf.lt hS))


theorem names_spec {p : Nat} {tc mc : List Value} {l : Value} {ds : List Diag} {m : Module}
    (hf : FSt eDiag S h p (.string m.name :: tc) l ds) (htc : tc.length = 6) (hm : eModule.rep S h mc m) (hS : ∀ b, S b → b < h.size)
    (hn : m.imports.length ≤ 10000 ∧ m.vars.length ≤ 10000 ∧ m.procs.length ≤ 10000 ∧ ∀ q ∈ m.procs, q.params.length ≤ 10000) (hd : ds.length = 0)
    (hK : ∀ l' h', Ext S h h' → FSt eDiag S h' p (.string m.name :: tc) l' (twices m) → K (.tuple #[]) h') :
    CallK Tryz.prog 29 [.pointer (some ⟨p, 0, none⟩), .agg mc.toArray] h K X := by
  obtain ⟨vi, vv, vp, rfl, hi, hv, hp⟩ := hm
  obtain ⟨a1, c1, rfl, _⟩ := hi.form
  obtain ⟨a2, c2, rfl, _⟩ := hv.form
  obtain ⟨a3, c3, rfl, _⟩ := hp.form
  obtain rfl : ds = [] := List.length_eq_zero_iff.1 hd
  refine callK_of_vc fc29 mixed Tryz.func29 ok29 (Nat.le_of_ble_eq_true rfl) ?_
  refine kmp (B := ∀ (b : Nat) (h' : Array Obj), b = Array.size h → h' = Array.push h (Obj.cells #[Value.string (Module.name m), Value.int IntKind.i64 (Module.at_ m), Value.slice a1 (List.length (Module.imports m)) c1, Value.slice a2 (List.length (Module.vars m)) c2, Value.slice a3 (List.length (Module.procs m)) c3] 31) → ∃ (x : ByteArray), cellAt h' b 0 = some (Value.string x) ∧ ∀ (b_1 : Nat) (h'_1 : Array Obj), b_1 = Array.size h' → h'_1 = Array.push h' (Obj.cells #[Value.string x] 9) → ∃ (a : Option Addr), ∃ (n : Nat), ∃ (c : Nat), cellAt h'_1 b 2 = some (Value.slice a n c) ∧ VSem Tryz.prog fc29 (cd Tryz.f29 8) [(0, Value.pointer (some (Addr.mk p 0 none))), (1, Value.agg #[Value.string (Module.name m), Value.int IntKind.i64 (Module.at_ m), Value.slice a1 (List.length (Module.imports m)) c1, Value.slice a2 (List.length (Module.vars m)) c2, Value.slice a3 (List.length (Module.procs m)) c3]), (3, Value.pointer (some (Addr.mk b 0 none))), (4, Value.slice (some (Addr.mk b_1 0 none)) 1 1), (19, Value.slice a n c), (20, Value.int IntKind.i64 (↑n : Int)), (21, Value.int IntKind.i64 0)] h'_1 (vcBlock 0 (vcThen (fun (r : Regs) (h : Heap) => vcCode Tryz.prog fc29 (cd Tryz.f29 21) r h (vcPost Tryz.prog (Array.toList (Func.results Tryz.f29)) K X)) (vcPost Tryz.prog (Array.toList (Func.results Tryz.f29)) K X)))) (by kernel_rfl) ?_ -- ENTERED
  rintro q h1 rfl rfl
  refine ⟨m.name, blk_cell Blk.push rfl, ?_⟩
  rintro q2 h2 rfl rfl
  have hqS : ¬ S h.size := fun hh => Nat.lt_irrefl _ (hS _ hh)
  have hplt := hf.blk.lt
  generalize hh1 : h.push (.cells #[Value.string m.name, .int .i64 m.at_, .slice a1 m.imports.length c1, .slice a2 m.vars.length c2, .slice a3 m.procs.length c3] 31 (0, 0)) = h1
  have e1 : Ext (Al h) h h1 := by subst hh1; exact Ext.pushA
  have hsz : h1.size = h.size + 1 := by subst hh1; simp
  have hq : Blk h1 h.size [.string m.name, .int .i64 m.at_, .slice a1 m.imports.length c1, .slice a2 m.vars.length c2, .slice a3 m.procs.length c3] := by subst hh1; exact Blk.push
  clear hh1
  generalize hS' : (fun b => S b ∨ b = h.size) = S'
  have hSS : ∀ b, S b → S' b := fun b hb => hS' ▸ .inl hb
  have hSq : S' h.size := hS' ▸ .inr rfl
  have hSl : ∀ b, S' b → b < h1.size := by
    subst hS'
    rintro b (hb | rfl)
    · have := hS b hb; omega
    · omega
  have hf1 : FSt eDiag S' h1 p (.string m.name :: tc) l [] := hS' ▸ (hf.ext (e1.mono (hf.lt hS))).more (by omega) fun e => by have := (hf.own.fresh e).2; omega
  clear hS'
  have hi1 := ((hi.ext (e1.mono hS)).mono hSS)
  have hv1 := ((hv.ext (e1.mono hS)).mono hSS)
  have hp1 := ((hp.ext (e1.mono hS)).mono hSS)
  clear hf hi hv hp
  have hSl2 : ∀ {h' : Heap}, Ext S' h1 h' → ∀ b, S' b → b < h'.size := fun e b hb => Nat.lt_of_lt_of_le (hSl b hb) e.size
  have e2 : Ext (Al h1) h1 (h1.push (.cells #[Value.string m.name] 9 (0, 0))) := Ext.pushA
  have hw0 : Tw S' (h1.push (.cells #[Value.string m.name] 9 (0, 0))) p (.string m.name :: tc) l [] (.slice (some ⟨h1.size, 0, none⟩) 1 1) [m.name] := by
    refine ⟨hf1.ext (e2.mono (hf1.lt hSl)), Own.mkS (xs := [m.name]) (zs := []) (fun hh => Nat.lt_irrefl _ (hSl _ hh)) (Nat.le_refl _) Blk.push rfl, fun b h3 h4 => ?_, fun h4 => ?_⟩
    · have h5 : h1.size = b := by simpa [blkOf] using h4
      have := (hf1.own.fresh h3).2; omega
    · have h5 : h1.size = p := by simpa [blkOf] using h4
      have := hf1.blk.lt; omega
  refine ⟨a1, _, c1, blk_cell (hq.ext e2 hq.lt) rfl, ?_⟩
  refine loop_sem mixed (α := Option Addr × Nat × Nat × Nat) (fun x => [(0, .pointer (some ⟨p, 0, none⟩)), (3, .pointer (some ⟨h.size, 0, none⟩)), (4, .slice x.1 x.2.1 x.2.2.1), (19, .slice a1 m.imports.length c1), (20, .int .i64 m.imports.length), (21, .int .i64 x.2.2.2)])
    (fun x h' => x.2.2.2 ≤ m.imports.length ∧ Ext S' h1 h' ∧ ∃ l, Tw S' h' p (.string m.name :: tc) l (dups m.name [m.name] ((m.imports.take x.2.2.2).map fun i => (i.name, i.at_))) (.slice x.1 x.2.1 x.2.2.1) ([m.name] ++ (m.imports.take x.2.2.2).map fun i => i.name))
    (fun x _ => m.imports.length - x.2.2.2) (_, _, _, 0) (by kernel_rfl) ⟨rfl, rfl, rfl, rfl, rfl, rfl, trivial⟩ ⟨Nat.zero_le _, e2.mono hSl, l, hw0⟩ ?_
  clear hw0 e2
  rintro ⟨la, ln, lc, i⟩ h' ⟨hi, he, l, hw⟩
  simp only at hi hw
  refine Wrap.mk ?_; refine kmp (B := iteB (decide ((↑i : Int) < (↑(List.length (Module.imports m)) : Int))) (∃ (b : Nat), ∃ (o : Nat), ∃ (j : Nat), a1 = some (Addr.mk b o none) ∧ (↑i : Int) = (↑j : Int) ∧ j < List.length (Module.imports m) ∧ ∃ (x : ByteArray), cellAt h' b (o + j * 2) = some (Value.string x) ∧ ∃ (x_1 : Int), cellAt h' b (o + j * 2 + 1) = some (Value.int IntKind.i64 x_1) ∧ ∀ (b : Nat) (h'_1 : Array Obj), b = Array.size h' → h'_1 = Array.push h' (Obj.cells #[Value.string (ByteArray.mk #[]), Value.int IntKind.i64 0] 114) → Writable h'_1 b 0 2 ∧ ∀ (h' : Heap), h' = setCells h'_1 b 0 [Value.string x, Value.int IntKind.i64 x_1] → ∃ (x : ByteArray), cellAt h' b 0 = some (Value.string x) ∧ ∃ (x_2 : Int), cellAt h' b 1 = some (Value.int IntKind.i64 x_2) ∧ CallK Tryz.prog 62 [Value.pointer (some (Addr.mk p 0 none)), Value.slice la ln lc, Value.string x, Value.int IntKind.i64 x_2] h' (fun (v : Value) (h_1 : Heap) => ∃ (a : Option Addr), ∃ (n : Nat), ∃ (c : Nat), v = Value.slice a n c ∧ ∃ (n_1 : Int), Wr IntKind.i64 ((↑i : Int) + 1) n_1 ∧ ∃ (x' : Option Addr × Nat × Nat × Nat), (Value.pointer (some (Addr.mk p 0 none)) = Value.pointer (some (Addr.mk p 0 none)) ∧ Value.pointer (some (Addr.mk (Array.size h) 0 none)) = Value.pointer (some (Addr.mk (Array.size h) 0 none)) ∧ Value.slice a n c = Value.slice (Prod.fst x') (Prod.fst (Prod.snd x')) (Prod.fst (Prod.snd (Prod.snd x'))) ∧ Value.slice a1 (List.length (Module.imports m)) c1 = Value.slice a1 (List.length (Module.imports m)) c1 ∧ Value.int IntKind.i64 (↑(List.length (Module.imports m)) : Int) = Value.int IntKind.i64 (↑(List.length (Module.imports m)) : Int) ∧ Value.int IntKind.i64 n_1 = Value.int IntKind.i64 (↑(Prod.snd (Prod.snd (Prod.snd x'))) : Int) ∧ True) ∧ (Prod.snd (Prod.snd (Prod.snd x')) ≤ List.length (Module.imports m) ∧ Ext S' h1 h_1 ∧ ∃ (l : Value), Tw S' h_1 p (Value.string (Module.name m) :: tc) l (dups (Module.name m) [Module.name m] (List.map (fun (i : Import) => (Import.name i, Import.at_ i)) (List.take (Prod.snd (Prod.snd (Prod.snd x'))) (Module.imports m)))) (Value.slice (Prod.fst x') (Prod.fst (Prod.snd x')) (Prod.fst (Prod.snd (Prod.snd x')))) ([Module.name m] ++ List.map (fun (i : Import) => Import.name i) (List.take (Prod.snd (Prod.snd (Prod.snd x'))) (Module.imports m)))) ∧ List.length (Module.imports m) - Prod.snd (Prod.snd (Prod.snd x')) < List.length (Module.imports m) - i) fun (ch : List PanicEntry) (h : Heap) => X ch h) (∃ (a : Option Addr), ∃ (n : Nat), ∃ (c : Nat), cellAt h' (Array.size h) 3 = some (Value.slice a n c) ∧ VSem Tryz.prog fc29 (cd Tryz.f29 27) [(0, Value.pointer (some (Addr.mk p 0 none))), (3, Value.pointer (some (Addr.mk (Array.size h) 0 none))), (4, Value.slice none 0 0), (19, Value.slice a1 (List.length (Module.imports m)) c1), (20, Value.int IntKind.i64 (↑(List.length (Module.imports m)) : Int)), (21, Value.int IntKind.i64 (↑i : Int)), (22, Value.bool (decide ((↑i : Int) < (↑(List.length (Module.imports m)) : Int)))), (34, Value.slice a n c), (35, Value.int IntKind.i64 (↑n : Int)), (36, Value.int IntKind.i64 0)] h' (vcBlock 2 (vcThen (fun (r : Regs) (h : Heap) => vcCode Tryz.prog fc29 (cd Tryz.f29 40) r h (vcPost Tryz.prog (Array.toList (Func.results Tryz.f29)) K X)) (vcPost Tryz.prog (Array.toList (Func.results Tryz.f29)) K X))))) (by kernel_rfl) ?_
  refine iteB_in (fun hlt => ?_) (fun hge => ?_)
  · have hlt : i < m.imports.length := by simpa using hlt
    obtain ⟨b, o, rfl, hb, k0, k1⟩ := (hi1.ext he).atImport hlt
    refine ⟨b, o, i, rfl, rfl, hlt, _, k0, _, k1, box_then rfl rfl fun h3 hb3 e3 hs3 => ⟨_, blk_cell hb3 rfl, _, blk_cell hb3 rfl, ?_⟩⟩
    have hS3 := hSl2 (he.trans (e3.mono (hSl2 he)))
    refine twice_spec (xs := [m.name] ++ (m.imports.take i).map fun i => i.name) ⟨hw.f.ext (e3.mono (hw.f.lt (hSl2 he))), hw.own.extA e3 (hSl2 he), hw.ap, hw.np⟩ htc hS3 (by simp; omega) (by have := dups_len m.name ((m.imports.take i).map fun i => (i.name, i.at_)) [m.name]; rw [List.length_map, List.length_take] at this; omega) fun a4 n4 c4 l4 h4 e4 hw4 => ?_
    have hw5 : Tw S' h4 p (.string m.name :: tc) l4 (dups m.name [m.name] ((m.imports.take (i + 1)).map fun i => (i.name, i.at_))) (.slice a4 n4 c4) ([m.name] ++ (m.imports.take (i + 1)).map fun i => i.name) := by
      rw [dups_take _ _ _ _ _ hlt, map_take_succ _ _ _ hlt, ← List.append_assoc]
      exact hw4
    exact ⟨a4, n4, c4, rfl, _, wrI (by omega) (by omega), (a4, n4, c4, i + 1), ⟨rfl, rfl, rfl, rfl, rfl, rfl, trivial⟩, ⟨hlt, he.trans ((e3.mono (hSl2 he)).trans e4), l4, hw5⟩, by simp only; omega⟩
  obtain rfl : i = m.imports.length := by simp at hge; omega
  clear hge
  rw [List.take_length] at hw
  refine ⟨a2, _, c2, blk_cell (hq.ext he hSq) rfl, ?_⟩
  generalize hD1 : dups m.name [m.name] (m.imports.map fun i => (i.name, i.at_)) = D1 at hw
  have hD1l : D1.length ≤ 10000 := by have := dups_len m.name (m.imports.map fun i => (i.name, i.at_)) [m.name]; rw [hD1] at this; simp at this; omega
  refine loop_sem mixed (α := Option Addr × Nat × Nat × Nat) (fun x => [(0, .pointer (some ⟨p, 0, none⟩)), (3, .pointer (some ⟨h.size, 0, none⟩)), (4, .slice x.1 x.2.1 x.2.2.1), (34, .slice a2 m.vars.length c2), (35, .int .i64 m.vars.length), (36, .int .i64 x.2.2.2)])
    (fun x h' => x.2.2.2 ≤ m.vars.length ∧ Ext S' h1 h' ∧ ∃ l, Tw S' h' p (.string m.name :: tc) l (D1 ++ dups m.name [] ((m.vars.take x.2.2.2).map fun i => (i.name, i.at_))) (.slice x.1 x.2.1 x.2.2.1) ((m.vars.take x.2.2.2).map fun i => i.name))
    (fun x _ => m.vars.length - x.2.2.2) (none, 0, 0, 0) (by kernel_rfl) ⟨rfl, rfl, rfl, rfl, rfl, rfl, trivial⟩ ⟨Nat.zero_le _, he, l, (by simpa [dups] using hw.f), Own.nil, (fun _ _ h => by cases h), (fun h => by cases h)⟩ ?_
  clear hw he
  rintro ⟨la, ln, lc, i⟩ h' ⟨hi, he, l, hw⟩
  simp only at hi hw
  refine Wrap.mk ?_; refine kmp (B := iteB (decide ((↑i : Int) < (↑(List.length (Module.vars m)) : Int))) (∃ (b : Nat), ∃ (o : Nat), ∃ (j : Nat), a2 = some (Addr.mk b o none) ∧ (↑i : Int) = (↑j : Int) ∧ j < List.length (Module.vars m) ∧ ∃ (x : ByteArray), cellAt h' b (o + j * 4) = some (Value.string x) ∧ ∃ (x_1 : ByteArray), cellAt h' b (o + j * 4 + 1) = some (Value.string x_1) ∧ ∃ (x_2 : Int), cellAt h' b (o + j * 4 + 1 + 1) = some (Value.int IntKind.i64 x_2) ∧ ∃ (x_3 : Int), cellAt h' b (o + j * 4 + 1 + 1 + 1) = some (Value.int IntKind.i64 x_3) ∧ ∀ (b : Nat) (h'_1 : Array Obj), b = Array.size h' → h'_1 = Array.push h' (Obj.cells #[Value.string (ByteArray.mk #[]), Value.string (ByteArray.mk #[]), Value.int IntKind.i64 0, Value.int IntKind.i64 0] 80) → Writable h'_1 b 0 4 ∧ ∀ (h' : Heap), h' = setCells h'_1 b 0 [Value.string x, Value.string x_1, Value.int IntKind.i64 x_2, Value.int IntKind.i64 x_3] → ∃ (x : ByteArray), cellAt h' b 0 = some (Value.string x) ∧ ∃ (x_4 : Int), cellAt h' b 3 = some (Value.int IntKind.i64 x_4) ∧ CallK Tryz.prog 62 [Value.pointer (some (Addr.mk p 0 none)), Value.slice la ln lc, Value.string x, Value.int IntKind.i64 x_4] h' (fun (v : Value) (h_1 : Heap) => ∃ (a : Option Addr), ∃ (n : Nat), ∃ (c : Nat), v = Value.slice a n c ∧ ∃ (n_1 : Int), Wr IntKind.i64 ((↑i : Int) + 1) n_1 ∧ ∃ (x' : Option Addr × Nat × Nat × Nat), (Value.pointer (some (Addr.mk p 0 none)) = Value.pointer (some (Addr.mk p 0 none)) ∧ Value.pointer (some (Addr.mk (Array.size h) 0 none)) = Value.pointer (some (Addr.mk (Array.size h) 0 none)) ∧ Value.slice a n c = Value.slice (Prod.fst x') (Prod.fst (Prod.snd x')) (Prod.fst (Prod.snd (Prod.snd x'))) ∧ Value.slice a2 (List.length (Module.vars m)) c2 = Value.slice a2 (List.length (Module.vars m)) c2 ∧ Value.int IntKind.i64 (↑(List.length (Module.vars m)) : Int) = Value.int IntKind.i64 (↑(List.length (Module.vars m)) : Int) ∧ Value.int IntKind.i64 n_1 = Value.int IntKind.i64 (↑(Prod.snd (Prod.snd (Prod.snd x'))) : Int) ∧ True) ∧ (Prod.snd (Prod.snd (Prod.snd x')) ≤ List.length (Module.vars m) ∧ Ext S' h1 h_1 ∧ ∃ (l : Value), Tw S' h_1 p (Value.string (Module.name m) :: tc) l (D1 ++ dups (Module.name m) [] (List.map (fun (i : Var) => (Var.name i, Var.at_ i)) (List.take (Prod.snd (Prod.snd (Prod.snd x'))) (Module.vars m)))) (Value.slice (Prod.fst x') (Prod.fst (Prod.snd x')) (Prod.fst (Prod.snd (Prod.snd x')))) (List.map (fun (i : Var) => Var.name i) (List.take (Prod.snd (Prod.snd (Prod.snd x'))) (Module.vars m)))) ∧ List.length (Module.vars m) - Prod.snd (Prod.snd (Prod.snd x')) < List.length (Module.vars m) - i) fun (ch : List PanicEntry) (h : Heap) => X ch h) (∃ (a : Option Addr), ∃ (n : Nat), ∃ (c : Nat), cellAt h' (Array.size h) 4 = some (Value.slice a n c) ∧ VSem Tryz.prog fc29 (cd Tryz.f29 44) [(0, Value.pointer (some (Addr.mk p 0 none))), (3, Value.pointer (some (Addr.mk (Array.size h) 0 none))), (4, Value.slice la ln lc), (34, Value.slice a2 (List.length (Module.vars m)) c2), (35, Value.int IntKind.i64 (↑(List.length (Module.vars m)) : Int)), (36, Value.int IntKind.i64 (↑i : Int)), (37, Value.bool (decide ((↑i : Int) < (↑(List.length (Module.vars m)) : Int)))), (49, Value.slice a n c), (50, Value.int IntKind.i64 (↑n : Int)), (51, Value.int IntKind.i64 0)] h' (vcBlock 4 (vcThen (fun (r : Regs) (h : Heap) => vcCode Tryz.prog fc29 (cd Tryz.f29 57) r h (vcPost Tryz.prog (Array.toList (Func.results Tryz.f29)) K X)) (vcPost Tryz.prog (Array.toList (Func.results Tryz.f29)) K X))))) (by kernel_rfl) ?_
  refine iteB_in (fun hlt => ?_) (fun hge => ?_)
  · have hlt : i < m.vars.length := by simpa using hlt
    obtain ⟨b, o, rfl, hb, k0, k1, k2, k3⟩ := (hv1.ext he).atVar hlt
    refine ⟨b, o, i, rfl, rfl, hlt, _, k0, _, k1, _, k2, _, k3, box_then rfl rfl fun h3 hb3 e3 hs3 => ⟨_, blk_cell hb3 rfl, _, blk_cell hb3 rfl, ?_⟩⟩
    have hS3 := hSl2 (he.trans (e3.mono (hSl2 he)))
    refine twice_spec (xs := (m.vars.take i).map fun i => i.name) ⟨hw.f.ext (e3.mono (hw.f.lt (hSl2 he))), hw.own.extA e3 (hSl2 he), hw.ap, hw.np⟩ htc hS3 (by simp; omega) (by have := dups_len m.name ((m.vars.take i).map fun i => (i.name, i.at_)) []; rw [List.length_map, List.length_take] at this; simp only [List.length_append]; omega) fun a4 n4 c4 l4 h4 e4 hw4 => ?_
    have hw5 : Tw S' h4 p (.string m.name :: tc) l4 (D1 ++ dups m.name [] ((m.vars.take (i + 1)).map fun i => (i.name, i.at_))) (.slice a4 n4 c4) ((m.vars.take (i + 1)).map fun i => i.name) := by
      rw [dups_take _ _ _ _ _ hlt, map_take_succ _ _ _ hlt, ← List.append_assoc]
      exact hw4
    exact ⟨a4, n4, c4, rfl, _, wrI (by omega) (by omega), (a4, n4, c4, i + 1), ⟨rfl, rfl, rfl, rfl, rfl, rfl, trivial⟩, ⟨hlt, he.trans ((e3.mono (hSl2 he)).trans e4), l4, hw5⟩, by simp only; omega⟩
  obtain rfl : i = m.vars.length := by simp at hge; omega
  clear hge
  rw [List.take_length] at hw
  refine ⟨a3, _, c3, blk_cell (hq.ext he hSq) rfl, ?_⟩
  generalize hD2 : dups m.name [] (m.vars.map fun i => (i.name, i.at_)) = D2 at hw
  have hD2l : D2.length ≤ 10000 := by have := dups_len m.name (m.vars.map fun i => (i.name, i.at_)) []; rw [hD2] at this; simp at this; omega
  refine loop_sem mixed (α := Option Addr × Nat × Nat × Nat) (fun x => [(0, .pointer (some ⟨p, 0, none⟩)), (3, .pointer (some ⟨h.size, 0, none⟩)), (4, .slice x.1 x.2.1 x.2.2.1), (49, .slice a3 m.procs.length c3), (50, .int .i64 m.procs.length), (51, .int .i64 x.2.2.2)])
    (fun x h' => x.2.2.2 ≤ m.procs.length ∧ Ext S' h1 h' ∧ ∃ l, Tw S' h' p (.string m.name :: tc) l (D1 ++ D2 ++ dups m.name (m.vars.map fun i => i.name) ((m.procs.take x.2.2.2).map fun i => (i.name, i.at_))) (.slice x.1 x.2.1 x.2.2.1) ((m.vars.map fun i => i.name) ++ (m.procs.take x.2.2.2).map fun i => i.name))
    (fun x _ => m.procs.length - x.2.2.2) (la, ln, lc, 0) (by kernel_rfl) ⟨rfl, rfl, rfl, rfl, rfl, rfl, trivial⟩ ⟨Nat.zero_le _, he, l, (by simpa [dups] using hw)⟩ ?_
  clear hw he
  rintro ⟨la, ln, lc, i⟩ h' ⟨hi, he, l, hw⟩
  simp only at hi hw
  refine Wrap.mk ?_; refine kmp (B := iteB (decide ((↑i : Int) < (↑(List.length (Module.procs m)) : Int))) (∃ (b : Nat), ∃ (o : Nat), ∃ (j : Nat), a3 = some (Addr.mk b o none) ∧ (↑i : Int) = (↑j : Int) ∧ j < List.length (Module.procs m) ∧ ∃ (x : ByteArray), cellAt h' b (o + j * 8) = some (Value.string x) ∧ ∃ (a : Option Addr), ∃ (n : Nat), ∃ (c : Nat), cellAt h' b (o + j * 8 + 1) = some (Value.slice a n c) ∧ ∃ (x_1 : Bool), cellAt h' b (o + j * 8 + 1 + 1) = some (Value.bool x_1) ∧ ∃ (x_2 : ByteArray), cellAt h' b (o + j * 8 + 1 + 1 + 1) = some (Value.string x_2) ∧ ∃ (x_3 : ByteArray), cellAt h' b (o + j * 8 + 1 + 1 + 1 + 1) = some (Value.string x_3) ∧ ∃ (a_1 : Option Addr), ∃ (n_1 : Nat), ∃ (c_1 : Nat), cellAt h' b (o + j * 8 + 1 + 1 + 1 + 1 + 1) = some (Value.slice a_1 n_1 c_1) ∧ ∃ (a_2 : Option Addr), ∃ (n_2 : Nat), ∃ (c_2 : Nat), cellAt h' b (o + j * 8 + 1 + 1 + 1 + 1 + 1 + 1) = some (Value.slice a_2 n_2 c_2) ∧ ∃ (x_4 : Int), cellAt h' b (o + j * 8 + 1 + 1 + 1 + 1 + 1 + 1 + 1) = some (Value.int IntKind.i64 x_4) ∧ ∀ (b : Nat) (h'_1 : Array Obj), b = Array.size h' → h'_1 = Array.push h' (Obj.cells #[Value.string (ByteArray.mk #[]), Value.slice none 0 0, Value.bool false, Value.string (ByteArray.mk #[]), Value.string (ByteArray.mk #[]), Value.slice none 0 0, Value.slice none 0 0, Value.int IntKind.i64 0] 52) → Writable h'_1 b 0 8 ∧ ∀ (h' : Heap), h' = setCells h'_1 b 0 [Value.string x, Value.slice a n c, Value.bool x_1, Value.string x_2, Value.string x_3, Value.slice a_1 n_1 c_1, Value.slice a_2 n_2 c_2, Value.int IntKind.i64 x_4] → ∃ (x : ByteArray), cellAt h' b 0 = some (Value.string x) ∧ ∃ (x_5 : Int), cellAt h' b 7 = some (Value.int IntKind.i64 x_5) ∧ CallK Tryz.prog 62 [Value.pointer (some (Addr.mk p 0 none)), Value.slice la ln lc, Value.string x, Value.int IntKind.i64 x_5] h' (fun (v : Value) (h_1 : Heap) => ∃ (a : Option Addr), ∃ (n : Nat), ∃ (c : Nat), v = Value.slice a n c ∧ ∃ (n_3 : Int), Wr IntKind.i64 ((↑i : Int) + 1) n_3 ∧ ∃ (x' : Option Addr × Nat × Nat × Nat), (Value.pointer (some (Addr.mk p 0 none)) = Value.pointer (some (Addr.mk p 0 none)) ∧ Value.pointer (some (Addr.mk (Array.size h) 0 none)) = Value.pointer (some (Addr.mk (Array.size h) 0 none)) ∧ Value.slice a n c = Value.slice (Prod.fst x') (Prod.fst (Prod.snd x')) (Prod.fst (Prod.snd (Prod.snd x'))) ∧ Value.slice a3 (List.length (Module.procs m)) c3 = Value.slice a3 (List.length (Module.procs m)) c3 ∧ Value.int IntKind.i64 (↑(List.length (Module.procs m)) : Int) = Value.int IntKind.i64 (↑(List.length (Module.procs m)) : Int) ∧ Value.int IntKind.i64 n_3 = Value.int IntKind.i64 (↑(Prod.snd (Prod.snd (Prod.snd x'))) : Int) ∧ True) ∧ (Prod.snd (Prod.snd (Prod.snd x')) ≤ List.length (Module.procs m) ∧ Ext S' h1 h_1 ∧ ∃ (l : Value), Tw S' h_1 p (Value.string (Module.name m) :: tc) l (D1 ++ D2 ++ dups (Module.name m) (List.map (fun (i : Var) => Var.name i) (Module.vars m)) (List.map (fun (i : Proc) => (Proc.name i, Proc.at_ i)) (List.take (Prod.snd (Prod.snd (Prod.snd x'))) (Module.procs m)))) (Value.slice (Prod.fst x') (Prod.fst (Prod.snd x')) (Prod.fst (Prod.snd (Prod.snd x')))) (List.map (fun (i : Var) => Var.name i) (Module.vars m) ++ List.map (fun (i : Proc) => Proc.name i) (List.take (Prod.snd (Prod.snd (Prod.snd x'))) (Module.procs m)))) ∧ List.length (Module.procs m) - Prod.snd (Prod.snd (Prod.snd x')) < List.length (Module.procs m) - i) fun (ch : List PanicEntry) (h : Heap) => X ch h) (∃ (a : Option Addr), ∃ (n : Nat), ∃ (c : Nat), cellAt h' (Array.size h) 4 = some (Value.slice a n c) ∧ VSem Tryz.prog fc29 (cd Tryz.f29 60) [(0, Value.pointer (some (Addr.mk p 0 none))), (3, Value.pointer (some (Addr.mk (Array.size h) 0 none))), (4, Value.slice la ln lc), (49, Value.slice a3 (List.length (Module.procs m)) c3), (50, Value.int IntKind.i64 (↑(List.length (Module.procs m)) : Int)), (51, Value.int IntKind.i64 (↑i : Int)), (52, Value.bool (decide ((↑i : Int) < (↑(List.length (Module.procs m)) : Int)))), (64, Value.slice a n c), (65, Value.int IntKind.i64 (↑n : Int)), (66, Value.int IntKind.i64 0)] h' (vcBlock 6 (vcPost Tryz.prog (Array.toList (Func.results Tryz.f29)) K X)))) (by kernel_rfl) ?_
  refine iteB_in (fun hlt => ?_) (fun hge => ?_)
  · have hlt : i < m.procs.length := by simpa using hlt
    obtain ⟨b, o, rfl, hb, _, _, _, _, _, _, _, _, _, k0, k1, k2, k3, k4, k5, k6, k7, _⟩ := (hp1.ext he).atProc hlt
    refine ⟨b, o, i, rfl, rfl, hlt, _, k0, _, _, _, k1, _, k2, _, k3, _, k4, _, _, _, k5, _, _, _, k6, _, k7, box_then rfl rfl fun h3 hb3 e3 hs3 => ⟨_, blk_cell hb3 rfl, _, blk_cell hb3 rfl, ?_⟩⟩
    have hS3 := hSl2 (he.trans (e3.mono (hSl2 he)))
    refine twice_spec (xs := (m.vars.map fun i => i.name) ++ (m.procs.take i).map fun i => i.name) ⟨hw.f.ext (e3.mono (hw.f.lt (hSl2 he))), hw.own.extA e3 (hSl2 he), hw.ap, hw.np⟩ htc hS3 (by simp; omega) (by have := dups_len m.name ((m.procs.take i).map fun i => (i.name, i.at_)) (m.vars.map fun i => i.name); rw [List.length_map, List.length_take] at this; simp only [List.length_append]; omega) fun a4 n4 c4 l4 h4 e4 hw4 => ?_
    have hw5 : Tw S' h4 p (.string m.name :: tc) l4 (D1 ++ D2 ++ dups m.name (m.vars.map fun i => i.name) ((m.procs.take (i + 1)).map fun i => (i.name, i.at_))) (.slice a4 n4 c4) ((m.vars.map fun i => i.name) ++ (m.procs.take (i + 1)).map fun i => i.name) := by
      rw [dups_take _ _ _ _ _ hlt, map_take_succ _ _ _ hlt, ← List.append_assoc, ← List.append_assoc]
      exact hw4
    exact ⟨a4, n4, c4, rfl, _, wrI (by omega) (by omega), (a4, n4, c4, i + 1), ⟨rfl, rfl, rfl, rfl, rfl, rfl, trivial⟩, ⟨hlt, he.trans ((e3.mono (hSl2 he)).trans e4), l4, hw5⟩, by simp only; omega⟩
  obtain rfl : i = m.procs.length := by simp at hge; omega
  clear hge
  rw [List.take_length] at hw
  refine ⟨a3, _, c3, blk_cell (hq.ext he hSq) rfl, ?_⟩
  have hD3 : D2 ++ dups m.name (m.vars.map fun i => i.name) (m.procs.map fun i => (i.name, i.at_)) = dups m.name [] (m.vars.map (fun v => (v.name, v.at_)) ++ m.procs.map fun p => (p.name, p.at_)) := by
    rw [dups_append, hD2, List.nil_append, List.map_map]; rfl
  rw [List.append_assoc, hD3] at hw
  have hD4l : (dups m.name [] (m.vars.map (fun v => (v.name, v.at_)) ++ m.procs.map fun p => (p.name, p.at_))).length ≤ 20000 := by have := dups_len m.name (m.vars.map (fun v => (v.name, v.at_)) ++ m.procs.map fun p => (p.name, p.at_)) []; simp at this; omega
  generalize hD5 : dups m.name [] (m.vars.map (fun v => (v.name, v.at_)) ++ m.procs.map fun p => (p.name, p.at_)) = D5 at hw hD4l
  have hf0 := hw.f
  clear hw hD3 hD2 hD2l
  refine loop_sem mixed (α := Nat) (fun x => [(0, .pointer (some ⟨p, 0, none⟩)), (3, .pointer (some ⟨h.size, 0, none⟩)), (64, .slice a3 m.procs.length c3), (65, .int .i64 m.procs.length), (66, .int .i64 x)])
    (fun x h' => x ≤ m.procs.length ∧ Ext S' h1 h' ∧ ∃ l, FSt eDiag S' h' p (.string m.name :: tc) l (D1 ++ D5 ++ (m.procs.take x).flatMap fun p => dups m.name [] (p.params.map fun x => (x.name, x.at_))))
    (fun x _ => m.procs.length - x) 0 (by kernel_rfl) ⟨rfl, rfl, rfl, rfl, rfl, trivial⟩ ⟨Nat.zero_le _, he, l, (by simpa using hf0)⟩ ?_
  clear he hf0
  rintro i h' ⟨hi, he, l, hf⟩
  refine Wrap.mk ?_; refine kmp (B := iteB (decide ((↑i : Int) < (↑(List.length (Module.procs m)) : Int))) (∃ (b : Nat), ∃ (o : Nat), ∃ (j : Nat), a3 = some (Addr.mk b o none) ∧ (↑i : Int) = (↑j : Int) ∧ j < List.length (Module.procs m) ∧ ∃ (x : ByteArray), cellAt h' b (o + j * 8) = some (Value.string x) ∧ ∃ (a : Option Addr), ∃ (n : Nat), ∃ (c : Nat), cellAt h' b (o + j * 8 + 1) = some (Value.slice a n c) ∧ ∃ (x_1 : Bool), cellAt h' b (o + j * 8 + 1 + 1) = some (Value.bool x_1) ∧ ∃ (x_2 : ByteArray), cellAt h' b (o + j * 8 + 1 + 1 + 1) = some (Value.string x_2) ∧ ∃ (x_3 : ByteArray), cellAt h' b (o + j * 8 + 1 + 1 + 1 + 1) = some (Value.string x_3) ∧ ∃ (a_1 : Option Addr), ∃ (n_1 : Nat), ∃ (c_1 : Nat), cellAt h' b (o + j * 8 + 1 + 1 + 1 + 1 + 1) = some (Value.slice a_1 n_1 c_1) ∧ ∃ (a_2 : Option Addr), ∃ (n_2 : Nat), ∃ (c_2 : Nat), cellAt h' b (o + j * 8 + 1 + 1 + 1 + 1 + 1 + 1) = some (Value.slice a_2 n_2 c_2) ∧ ∃ (x_4 : Int), cellAt h' b (o + j * 8 + 1 + 1 + 1 + 1 + 1 + 1 + 1) = some (Value.int IntKind.i64 x_4) ∧ ∀ (b : Nat) (h'_1 : Array Obj), b = Array.size h' → h'_1 = Array.push h' (Obj.cells #[Value.string (ByteArray.mk #[]), Value.slice none 0 0, Value.bool false, Value.string (ByteArray.mk #[]), Value.string (ByteArray.mk #[]), Value.slice none 0 0, Value.slice none 0 0, Value.int IntKind.i64 0] 52) → Writable h'_1 b 0 8 ∧ ∀ (h' : Heap), h' = setCells h'_1 b 0 [Value.string x, Value.slice a n c, Value.bool x_1, Value.string x_2, Value.string x_3, Value.slice a_1 n_1 c_1, Value.slice a_2 n_2 c_2, Value.int IntKind.i64 x_4] → ∃ (a : Option Addr), ∃ (n : Nat), ∃ (c : Nat), cellAt h' b 1 = some (Value.slice a n c) ∧ VSem Tryz.prog fc29 (cd Tryz.f29 76) [(0, Value.pointer (some (Addr.mk p 0 none))), (3, Value.pointer (some (Addr.mk (Array.size h) 0 none))), (4, Value.slice none 0 0), (12, Value.pointer (some (Addr.mk b 0 none))), (64, Value.slice a3 (List.length (Module.procs m)) c3), (65, Value.int IntKind.i64 (↑(List.length (Module.procs m)) : Int)), (66, Value.int IntKind.i64 (↑i : Int)), (67, Value.bool (decide ((↑i : Int) < (↑(List.length (Module.procs m)) : Int)))), (71, Value.slice a n c), (72, Value.int IntKind.i64 (↑n : Int)), (73, Value.int IntKind.i64 0)] h' (vcBlock 8 (vcBlock 7 (vcThen (fun (r : Regs) (h_1 : Heap) => vcCode Tryz.prog fc29 (cd Tryz.f29 89) r h_1 (vcThen (fun (r' : Regs) (h' : Heap) => ∃ (x' : Nat), cov r' [(0, Value.pointer (some (Addr.mk p 0 none))), (3, Value.pointer (some (Addr.mk (Array.size h) 0 none))), (64, Value.slice a3 (List.length (Module.procs m)) c3), (65, Value.int IntKind.i64 (↑(List.length (Module.procs m)) : Int)), (66, Value.int IntKind.i64 (↑x' : Int))] ∧ (x' ≤ List.length (Module.procs m) ∧ Ext S' h1 h' ∧ ∃ (l : Value), FSt eDiag S' h' p (Value.string (Module.name m) :: tc) l (D1 ++ D5 ++ List.flatMap (fun (p : Proc) => dups (Module.name m) [] (List.map (fun (x : Param) => (Param.name x, Param.at_ x)) (Proc.params p))) (List.take x' (Module.procs m)))) ∧ List.length (Module.procs m) - x' < List.length (Module.procs m) - i) (vcBlock 6 (vcPost Tryz.prog (Array.toList (Func.results Tryz.f29)) K X)))) (vcThen (fun (r' : Regs) (h' : Heap) => ∃ (x' : Nat), cov r' [(0, Value.pointer (some (Addr.mk p 0 none))), (3, Value.pointer (some (Addr.mk (Array.size h) 0 none))), (64, Value.slice a3 (List.length (Module.procs m)) c3), (65, Value.int IntKind.i64 (↑(List.length (Module.procs m)) : Int)), (66, Value.int IntKind.i64 (↑x' : Int))] ∧ (x' ≤ List.length (Module.procs m) ∧ Ext S' h1 h' ∧ ∃ (l : Value), FSt eDiag S' h' p (Value.string (Module.name m) :: tc) l (D1 ++ D5 ++ List.flatMap (fun (p : Proc) => dups (Module.name m) [] (List.map (fun (x : Param) => (Param.name x, Param.at_ x)) (Proc.params p))) (List.take x' (Module.procs m)))) ∧ List.length (Module.procs m) - x' < List.length (Module.procs m) - i) (vcBlock 6 (vcPost Tryz.prog (Array.toList (Func.results Tryz.f29)) K X))))))) (K (Value.tuple #[]) h')) (by kernel_rfl) ?_
  refine iteB_in (fun hlt => ?_) (fun hge => ?_)
  · have hlt : i < m.procs.length := by simpa using hlt
    obtain ⟨b, o, rfl, hb, a7, n7, c7, a8, n8, c8, a9, n9, c9, k0, k1, k2, k3, k4, k5, k6, k7, hps, _, _⟩ := (hp1.ext he).atProc hlt
    refine ⟨b, o, i, rfl, rfl, hlt, _, k0, _, _, _, k1, _, k2, _, k3, _, k4, _, _, _, k5, _, _, _, k6, _, k7, box_then rfl rfl fun h3 hb3 e3 hs3 => ⟨_, _, _, blk_cell hb3 rfl, ?_⟩⟩
    have e3' := e3.mono (hSl2 he)
    have hS3 := hSl2 (he.trans e3')
    have hf3 := hf.ext (e3.mono (hf.lt (hSl2 he)))
    obtain ⟨_, _, hv7, _⟩ := hps.form
    cases hv7
    have hpl : m.procs[i].params.length ≤ 10000 := hn.2.2.2 _ (List.getElem_mem hlt)
    have hDl : (D1 ++ D5 ++ (m.procs.take i).flatMap fun p => dups m.name [] (p.params.map fun x => (x.name, x.at_))).length ≤ 30000 + 10000 * 10000 := by
      have h1 := flatMap_len (fun p : Proc => dups m.name [] (p.params.map fun x => (x.name, x.at_))) 10000 (m.procs.take i) (fun x hx => by
        have := dups_len m.name (x.params.map fun x => (x.name, x.at_)) []
        rw [List.length_map] at this
        have := hn.2.2.2 x (List.mem_of_mem_take hx); omega)
      have h2 : (m.procs.take i).length * 10000 ≤ 10000 * 10000 := Nat.mul_le_mul_right _ (by rw [List.length_take]; omega)
      simp only [List.length_append] at *; omega
    generalize hD : D1 ++ D5 ++ ((m.procs.take i).flatMap fun p => dups m.name [] (p.params.map fun x => (x.name, x.at_))) = D at *
    refine loop_sem mixed (α := Option Addr × Nat × Nat × Nat) (fun x => [(0, .pointer (some ⟨p, 0, none⟩)), (3, .pointer (some ⟨h.size, 0, none⟩)), (4, .slice x.1 x.2.1 x.2.2.1), (64, .slice (some ⟨b, o, none⟩) m.procs.length c3), (65, .int .i64 m.procs.length), (66, .int .i64 i), (71, .slice a7 m.procs[i].params.length c7), (72, .int .i64 m.procs[i].params.length), (73, .int .i64 x.2.2.2)])
      (fun x h' => x.2.2.2 ≤ m.procs[i].params.length ∧ Ext S' h3 h' ∧ ∃ l, Tw S' h' p (.string m.name :: tc) l (D ++ dups m.name [] ((m.procs[i].params.take x.2.2.2).map fun i => (i.name, i.at_))) (.slice x.1 x.2.1 x.2.2.1) ((m.procs[i].params.take x.2.2.2).map fun i => i.name))
      (fun x _ => m.procs[i].params.length - x.2.2.2) (none, 0, 0, 0) (by kernel_rfl) ⟨rfl, rfl, rfl, rfl, rfl, rfl, rfl, rfl, rfl, trivial⟩ ⟨Nat.zero_le _, Ext.rfl, l, (by simpa [dups] using hf3), Own.nil, (fun _ _ h => by cases h), (fun h => by cases h)⟩ ?_
    have hps3 := hps.ext e3'
    have he3 := he.trans e3'
    clear hf3 hf e3' e3 hb3 hs3 k0 k1 k2 k3 k4 k5 k6 k7 hps he
    rintro ⟨la, ln, lc, j⟩ h' ⟨hj, he, l, hw⟩
    simp only at hj hw
    have heA := he3.trans he
    refine Wrap.mk ?_; refine kmp (B := iteB (decide ((↑j : Int) < (↑(List.length (Proc.params (Module.procs m)[i])) : Int))) (∃ (b_1 : Nat), ∃ (o_1 : Nat), ∃ (j_1 : Nat), a7 = some (Addr.mk b_1 o_1 none) ∧ (↑j : Int) = (↑j_1 : Int) ∧ j_1 < List.length (Proc.params (Module.procs m)[i]) ∧ ∃ (x : ByteArray), cellAt h' b_1 (o_1 + j_1 * 3) = some (Value.string x) ∧ ∃ (x_1 : ByteArray), cellAt h' b_1 (o_1 + j_1 * 3 + 1) = some (Value.string x_1) ∧ ∃ (x_2 : Int), cellAt h' b_1 (o_1 + j_1 * 3 + 1 + 1) = some (Value.int IntKind.i64 x_2) ∧ ∀ (b_2 : Nat) (h'_1 : Array Obj), b_2 = Array.size h' → h'_1 = Array.push h' (Obj.cells #[Value.string (ByteArray.mk #[]), Value.string (ByteArray.mk #[]), Value.int IntKind.i64 0] 120) → Writable h'_1 b_2 0 3 ∧ ∀ (h' : Heap), h' = setCells h'_1 b_2 0 [Value.string x, Value.string x_1, Value.int IntKind.i64 x_2] → ∃ (x : ByteArray), cellAt h' b_2 0 = some (Value.string x) ∧ ∃ (x_3 : Int), cellAt h' b_2 2 = some (Value.int IntKind.i64 x_3) ∧ CallK Tryz.prog 62 [Value.pointer (some (Addr.mk p 0 none)), Value.slice la ln lc, Value.string x, Value.int IntKind.i64 x_3] h' (fun (v : Value) (h_1 : Heap) => ∃ (a : Option Addr), ∃ (n : Nat), ∃ (c : Nat), v = Value.slice a n c ∧ ∃ (n_1 : Int), Wr IntKind.i64 ((↑j : Int) + 1) n_1 ∧ ∃ (x' : Option Addr × Nat × Nat × Nat), (Value.pointer (some (Addr.mk p 0 none)) = Value.pointer (some (Addr.mk p 0 none)) ∧ Value.pointer (some (Addr.mk (Array.size h) 0 none)) = Value.pointer (some (Addr.mk (Array.size h) 0 none)) ∧ Value.slice a n c = Value.slice (Prod.fst x') (Prod.fst (Prod.snd x')) (Prod.fst (Prod.snd (Prod.snd x'))) ∧ Value.slice (some (Addr.mk b o none)) (List.length (Module.procs m)) c3 = Value.slice (some (Addr.mk b o none)) (List.length (Module.procs m)) c3 ∧ Value.int IntKind.i64 (↑(List.length (Module.procs m)) : Int) = Value.int IntKind.i64 (↑(List.length (Module.procs m)) : Int) ∧ Value.int IntKind.i64 (↑i : Int) = Value.int IntKind.i64 (↑i : Int) ∧ Value.slice a7 (List.length (Proc.params (Module.procs m)[i])) c7 = Value.slice a7 (List.length (Proc.params (Module.procs m)[i])) c7 ∧ Value.int IntKind.i64 (↑(List.length (Proc.params (Module.procs m)[i])) : Int) = Value.int IntKind.i64 (↑(List.length (Proc.params (Module.procs m)[i])) : Int) ∧ Value.int IntKind.i64 n_1 = Value.int IntKind.i64 (↑(Prod.snd (Prod.snd (Prod.snd x'))) : Int) ∧ True) ∧ (Prod.snd (Prod.snd (Prod.snd x')) ≤ List.length (Proc.params (Module.procs m)[i]) ∧ Ext S' h3 h_1 ∧ ∃ (l : Value), Tw S' h_1 p (Value.string (Module.name m) :: tc) l (D ++ dups (Module.name m) [] (List.map (fun (i : Param) => (Param.name i, Param.at_ i)) (List.take (Prod.snd (Prod.snd (Prod.snd x'))) (Proc.params (Module.procs m)[i])))) (Value.slice (Prod.fst x') (Prod.fst (Prod.snd x')) (Prod.fst (Prod.snd (Prod.snd x')))) (List.map (fun (i : Param) => Param.name i) (List.take (Prod.snd (Prod.snd (Prod.snd x'))) (Proc.params (Module.procs m)[i])))) ∧ List.length (Proc.params (Module.procs m)[i]) - Prod.snd (Prod.snd (Prod.snd x')) < List.length (Proc.params (Module.procs m)[i]) - j) fun (ch : List PanicEntry) (h : Heap) => X ch h) (∃ (n : Int), Wr IntKind.i64 ((↑i : Int) + 1) n ∧ ∃ (x' : Nat), (Value.pointer (some (Addr.mk p 0 none)) = Value.pointer (some (Addr.mk p 0 none)) ∧ Value.pointer (some (Addr.mk (Array.size h) 0 none)) = Value.pointer (some (Addr.mk (Array.size h) 0 none)) ∧ Value.slice (some (Addr.mk b o none)) (List.length (Module.procs m)) c3 = Value.slice (some (Addr.mk b o none)) (List.length (Module.procs m)) c3 ∧ Value.int IntKind.i64 (↑(List.length (Module.procs m)) : Int) = Value.int IntKind.i64 (↑(List.length (Module.procs m)) : Int) ∧ Value.int IntKind.i64 n = Value.int IntKind.i64 (↑x' : Int) ∧ True) ∧ (x' ≤ List.length (Module.procs m) ∧ Ext S' h1 h' ∧ ∃ (l : Value), FSt eDiag S' h' p (Value.string (Module.name m) :: tc) l (D1 ++ D5 ++ List.flatMap (fun (p : Proc) => dups (Module.name m) [] (List.map (fun (x : Param) => (Param.name x, Param.at_ x)) (Proc.params p))) (List.take x' (Module.procs m)))) ∧ List.length (Module.procs m) - x' < List.length (Module.procs m) - i)) (by kernel_rfl) ?_
    refine iteB_in (fun hlt2 => ?_) (fun hge => ?_)
    · have hlt2 : j < m.procs[i].params.length := by simpa using hlt2
      obtain ⟨b, o, rfl, hb, k0, k1, k2⟩ := (hps3.ext he).atParam hlt2
      refine ⟨b, o, j, rfl, rfl, hlt2, _, k0, _, k1, _, k2, box_then rfl rfl fun h4 hb4 e4 hs4 => ⟨_, blk_cell hb4 rfl, _, blk_cell hb4 rfl, ?_⟩⟩
      have hS4 := hSl2 (heA.trans (e4.mono (hSl2 heA)))
      refine twice_spec (xs := (m.procs[i].params.take j).map fun i => i.name) ⟨hw.f.ext (e4.mono (hw.f.lt (hSl2 heA))), hw.own.extA e4 (hSl2 heA), hw.ap, hw.np⟩ htc hS4 (by simp; omega) (by have := dups_len m.name ((m.procs[i].params.take j).map fun i => (i.name, i.at_)) []; rw [List.length_map, List.length_take] at this; simp only [List.length_append]; omega) fun a5 n5 c5 l5 h5 e5 hw5 => ?_
      have hw6 : Tw S' h5 p (.string m.name :: tc) l5 (D ++ dups m.name [] ((m.procs[i].params.take (j + 1)).map fun i => (i.name, i.at_))) (.slice a5 n5 c5) ((m.procs[i].params.take (j + 1)).map fun i => i.name) := by
        rw [dups_take _ _ _ _ _ hlt2, map_take_succ _ _ _ hlt2, ← List.append_assoc]
        exact hw5
      exact ⟨a5, n5, c5, rfl, _, wrI (by omega) (by omega), (a5, n5, c5, j + 1), ⟨rfl, rfl, rfl, rfl, rfl, rfl, rfl, rfl, rfl, trivial⟩, ⟨hlt2, he.trans ((e4.mono (hSl2 heA)).trans e5), l5, hw6⟩, by simp only; omega⟩
    · obtain rfl : j = m.procs[i].params.length := by simp at hge; omega
      rw [List.take_length] at hw
      refine ⟨_, wrI (by omega) (by omega), i + 1, ⟨rfl, rfl, rfl, rfl, rfl, trivial⟩, ⟨hlt, heA, l, ?_⟩, by omega⟩
      rw [flatMap_take_succ _ _ _ hlt, ← List.append_assoc, hD]
      exact hw.f
  · obtain rfl : i = m.procs.length := by simp at hge; omega
    rw [List.take_length] at hf
    refine hK l h' ((e1.mono hS).trans (he.mono hSS)) ⟨hf.blk, ?_, fun hh => hf.np (hSS _ hh), hf.nl⟩
    have e : D1 ++ D5 ++ (m.procs.flatMap fun p => dups m.name [] (p.params.map fun x => (x.name, x.at_))) = twices m := by
      rw [twices, hD1, hD5, List.append_assoc]
    rw [e] at hf
    exact hf.own.less hSS fun css => repsDiag

end Go.Proofs.YtdnlhicbjhgjiaaGreatDoor
