/- Sorts by names; what a module shows. No condition. -/
import Derived.Test.YtdnlhicbjhgjiaaGreatDoorZF
import Derived.Test.YtdnlhicbjhgjiaaGreatDoorVxU
namespace Go.Proofs.YtdnlhicbjhgjiaaGreatDoor
open Go Go.Vx Go.RowKit Go.Sort Go.Proofs
set_option maxRecDepth 100000

variable {S : BS} {K : Value → Heap → Prop} {X : List PanicEntry → Heap → Prop} {h : Heap}

instance : Inhabited (RawOf eVar) := ⟨⟨([.string ⟨#[]⟩, .string ⟨#[]⟩, .int .i64 0, .int .i64 0], ⟨⟨#[]⟩, ⟨#[]⟩, 0, 0⟩), Al #[], #[], rfl⟩⟩
instance : Inhabited (RawOf eSig) := ⟨⟨([.string ⟨#[]⟩, .slice none 0 0, .bool false, .string ⟨#[]⟩, .string ⟨#[]⟩, .slice none 0 0], ⟨⟨#[]⟩, [], false, ⟨#[]⟩, ⟨#[]⟩, []⟩), Al #[], #[], _, _, rfl, Sl.nil, Sl.nil⟩⟩

set_option maxHeartbeats 1000000 in
theorem byVar (s1 s2 t1 t2 : ByteArray) (i1 i2 j1 j2 : Int) (W : World) : Calls Tryz.prog 33 #[.agg #[.string s1, .string s2, .int .i64 i1, .int .i64 i2], .agg #[.string t1, .string t2, .int .i64 j1, .int .i64 j2]] W fun e w' =>
    e = .returned (.int .i64 (Lib.compareBytes (key s1) (key t1))) ∧ ∃ q os', w' = grow (W.drewN q) os' := by
  have hcon := fun W' => Tryz.strings_Compare s1 t1 W'
  change ∀ W', Calls Tryz.prog 34 _ _ (fun e w' => e = .returned (.int .i64 (Lib.compareBytes (key s1) (key t1))) ∧ w' = W') at hcon
  generalize Lib.compareBytes (key s1) (key t1) = r at hcon ⊢
  go_enter Tryz.func33, Tryz.ntmps33
  go_wp2_with (go_at_call 34; refine (hcon _).mono ?_; rintro e w' ⟨rfl, rfl⟩)
  go_ret
  exact ⟨rfl, 0, _, by rw [alloc_eq_grow, alloc_eq_grow, grow_grow]; rfl⟩

set_option maxHeartbeats 1000000 in
theorem bySig (s1 s2 s3 t1 t2 t3 : ByteArray) (b1 b2 : Bool) (a1 a2 a3 a4 : Option Addr) (n1 n2 n3 n4 c1 c2 c3 c4 : Nat) (W : World) :
    Calls Tryz.prog 36 #[.agg #[.string s1, .slice a1 n1 c1, .bool b1, .string s2, .string s3, .slice a2 n2 c2], .agg #[.string t1, .slice a3 n3 c3, .bool b2, .string t2, .string t3, .slice a4 n4 c4]] W fun e w' =>
    e = .returned (.int .i64 (Lib.compareBytes (key s1) (key t1))) ∧ ∃ q os', w' = grow (W.drewN q) os' := by
  have hcon := fun W' => Tryz.strings_Compare s1 t1 W'
  change ∀ W', Calls Tryz.prog 34 _ _ (fun e w' => e = .returned (.int .i64 (Lib.compareBytes (key s1) (key t1))) ∧ w' = W') at hcon
  generalize Lib.compareBytes (key s1) (key t1) = r at hcon ⊢
  go_enter Tryz.func36, Tryz.ntmps36
  go_wp2_with (go_at_call 34; refine (hcon _).mono ?_; rintro e w' ⟨rfl, rfl⟩)
  go_ret
  exact ⟨rfl, 0, _, by rw [alloc_eq_grow, alloc_eq_grow, grow_grow]; rfl⟩

theorem sortVar_spec {a : Option Addr} {n c : Nat} {xs : List Var} (ho : Own eVar S h (.slice a n c) xs) (hS : ∀ b, S b → b < h.size) (hn : xs.length ≤ 100000000) (hnt : NoTwins Var.name xs)
    (hK : ∀ h', Grown eVar S h (.slice a n c) h' (.slice a n c) (sortN Var.name xs) → K (.tuple #[]) h') : CallK Tryz.prog 32 [.slice a n c, .func (.func 33) #[] #[]] h K X := by
  refine sortf_bridge (by kernel_rfl) ho hS hn hnt (fun p cap w => ?_) (fun blk cap d w hH hblk hsz => ?_) hK
  · exact AnyF.slices_SortFunc_none Tryz.laySortVar p cap _ w
  · refine AnyQ.slices_SortFunc Tryz.laySortVar eVar.k Tryz.isAgg80 Tryz.sizeOf80 (fun x : RawOf eVar => x.1.1) (fun x => by obtain ⟨_, _, h⟩ := x.2; exact eVar.len h) (fun x v hv => by obtain ⟨_, _, h⟩ := x.2; exact eVar.one h v hv) (fun x y : RawOf eVar => Lib.compareBytes (key x.1.2.name) (key y.1.2.name)) (swoN fun x : RawOf eVar => x.1.2.name) 33 #[] blk 0 cap d w (enters_of Tryz.func33 (by kernel_rfl) rfl) (fun m os dk _ x y => ?_) hH hblk hsz
    obtain ⟨⟨cx, vx⟩, _, _, hx⟩ := x
    obtain ⟨⟨cy, vy⟩, _, _, hy⟩ := y
    simp only at hx hy ⊢
    subst hx hy
    rw [Array.append_empty]
    exact byVar _ _ _ _ _ _ _ _ _

theorem sortSig_spec {a : Option Addr} {n c : Nat} {xs : List Sig} (ho : Own eSig S h (.slice a n c) xs) (hS : ∀ b, S b → b < h.size) (hn : xs.length ≤ 100000000) (hnt : NoTwins Sig.name xs)
    (hK : ∀ h', Grown eSig S h (.slice a n c) h' (.slice a n c) (sortN Sig.name xs) → K (.tuple #[]) h') : CallK Tryz.prog 35 [.slice a n c, .func (.func 36) #[] #[]] h K X := by
  refine sortf_bridge (by kernel_rfl) ho hS hn hnt (fun p cap w => ?_) (fun blk cap d w hH hblk hsz => ?_) hK
  · exact AnyF.slices_SortFunc_none Tryz.laySortSig p cap _ w
  · refine AnyQ.slices_SortFunc Tryz.laySortSig eSig.k Tryz.isAgg82 Tryz.sizeOf82 (fun x : RawOf eSig => x.1.1) (fun x => by obtain ⟨_, _, h⟩ := x.2; exact eSig.len h) (fun x v hv => by obtain ⟨_, _, h⟩ := x.2; exact eSig.one h v hv) (fun x y : RawOf eSig => Lib.compareBytes (key x.1.2.name) (key y.1.2.name)) (swoN fun x : RawOf eSig => x.1.2.name) 36 #[] blk 0 cap d w (enters_of Tryz.func36 (by kernel_rfl) rfl) (fun m os dk _ x y => ?_) hH hblk hsz
    obtain ⟨⟨cx, vx⟩, _, _, ⟨v1, v2, hx, h1, h2⟩⟩ := x
    obtain ⟨⟨cy, vy⟩, _, _, ⟨v3, v4, hy, h3, h4⟩⟩ := y
    obtain ⟨a1, c1, rfl, _⟩ := h1.form
    obtain ⟨a2, c2, rfl, _⟩ := h2.form
    obtain ⟨a3, c3, rfl, _⟩ := h3.form
    obtain ⟨a4, c4, rfl, _⟩ := h4.form
    simp only at hx hy ⊢
    subst hx hy
    rw [Array.append_empty]
    exact bySig _ _ _ _ _ _ _ _ _ _ _ _ _ _ _ _ _ _ _ _ _

end Go.Proofs.YtdnlhicbjhgjiaaGreatDoor
