/- Package pool's model: what its writes leave. -/
import Derived.Test.YtfdacckkdjpjhaaPmC
namespace Go.Proofs.Ytfdacckkdjpjhaa
open Go.RowKit

section
variable {w w' : World} {q : Nat} {av jv tv av' jv' tv' : Value} {J J' : List JV} {Y R : Nat → Prop} {M M' : Md}
theorem MX.kq (h : MX w q av jv tv J Y R M) : kindAt w q = some (some 130) := by unfold kindAt; rw [h.blk]; rfl
theorem MX.ka (h : MX w q av jv tv J Y R M) {g : Nat} (hg : av.ownBlock = some g) : kindAt w g = some (some 4) := own_kind h.al hg
theorem MX.kj (h : MX w q av jv tv J Y R M) {g : Nat} (hg : jv.ownBlock = some g) : kindAt w g = some (some 133) := own_kind h.jo hg
theorem MX.kt (h : MX w q av jv tv J Y R M) {g : Nat} (hg : tv.ownBlock = some g) : kindAt w g = some (some 135) := own_kind h.tr hg
/-- The model's rows and cells turned; R's blocks stay. -/
theorem MX.rows (h : MX w q av jv tv J Y R M) (hs : w.heap.size ≤ w'.heap.size) (hb : w'.heap[q]? = some (mdO M' av' jv' tv')) (ha : w'.ownsRow 0 4 1 av' M'.alive.length (M'.alive.map Value.bool)) (hj : w'.ownsRow 0 133 7 jv' J'.length (jcells J')) (ht : w'.ownsRow 0 135 5 tv' M'.tries.length (trcells M'.tries))
    (hjs : J'.map (·.j) = M'.jobs) (hR : ∀ b, R b → w'.heap[b]? = w.heap[b]?) {R' : Nat → Prop} (hR' : ∀ b, R' b → R b ∨ (¬ Y b ∧ b < w.heap.size)) (hRR : ∀ b, R b → R' b)
    (hJ : ∀ x ∈ J', x ∈ J ∨ ((Rv w' x.bv x.j.body.length (x.j.body.map vB) ∧ ∀ b, x.bv.ownBlock = some b → R' b) ∧ Rv w' x.rv x.j.reply.length (x.j.reply.map vB) ∧ ∀ b, x.rv.ownBlock = some b → R' b))
    (hna : ∀ b, av'.ownBlock = some b → Y b ∨ w.heap.size ≤ b) (hnj : ∀ b, jv'.ownBlock = some b → Y b ∨ w.heap.size ≤ b) (hnt : ∀ b, tv'.ownBlock = some b → Y b ∨ w.heap.size ≤ b) :
    MX w' q av' jv' tv' J' (fun b => Y b ∨ av'.ownBlock = some b ∨ jv'.ownBlock = some b ∨ tv'.ownBlock = some b) R' M' := by
  refine ⟨hb, ha, hj, ht, hjs, fun x hx => ?_, .inl h.yq, fun b hb => .inr (.inl hb), fun b hb => .inr (.inr (.inl hb)), fun b hb => .inr (.inr (.inr hb)), fun b hb hr => ?_, fun b hb => ?_, fun b hb => ?_⟩
  · rcases hJ x hx with h1 | h1
    · exact ⟨⟨rvSame (h.bd x h1).1.1 (fun g _ hg => hR g ((h.bd x h1).1.2 g hg)), fun b hb => hRR b ((h.bd x h1).1.2 b hb)⟩, rvSame (h.bd x h1).2.1 (fun g _ hg => hR g ((h.bd x h1).2.2 g hg)), fun b hb => hRR b ((h.bd x h1).2.2 b hb)⟩
    · exact h1
  · have hrl : b < w.heap.size ∧ ¬ Y b := (hR' b hr).elim (fun q => ⟨h.rl b q, fun y => h.sep b y q⟩) (fun q => ⟨q.2, q.1⟩)
    rcases hb with hb | hb | hb | hb
    · exact hrl.2 hb
    · exact (hna b hb).elim hrl.2 (fun q => by omega)
    · exact (hnj b hb).elim hrl.2 (fun q => by omega)
    · exact (hnt b hb).elim hrl.2 (fun q => by omega)
  · rcases hb with hb | hb | hb | hb
    · exact Nat.lt_of_lt_of_le (h.yl b hb) hs
    · exact (ha.lt b hb).2
    · exact (hj.lt b hb).2
    · exact (ht.lt b hb).2
  · exact (hR' b hb).elim (fun q => Nat.lt_of_lt_of_le (h.rl b q) hs) (fun q => Nat.lt_of_lt_of_le q.2 hs)
/-- The tick is set. -/
theorem MX.tick (h : MX w q av jv tv J Y R M) (t : Int) : MX (w.setCell ⟨q, 2, none⟩ (.int .i64 t)) q av jv tv J Y R { M with tick := t } := by
  have hb := h.blk
  unfold mdO at hb
  have ho := fun b (hn : b ≠ q) => Below.heap_setCell w ⟨q, 2, none⟩ (.int .i64 t) b hn
  have hR := fun b (hb : R b) => ho b (fun e => h.sep q h.yq (by rw [← e]; exact hb))
  refine ⟨by unfold mdO; simp [World.setCell, Array.getElem?_modify, hb], own_same h.al (fun b hb => ho b (kind_ne (h.ka hb) h.kq (by decide))), own_same h.jo (fun b hb => ho b (kind_ne (h.kj hb) h.kq (by decide))), own_same h.tr (fun b hb => ho b (kind_ne (h.kt hb) h.kq (by decide))), h.js,
    fun x hx => ⟨⟨rvSame (h.bd x hx).1.1 (fun g _ hg => hR g ((h.bd x hx).1.2 g hg)), (h.bd x hx).1.2⟩, rvSame (h.bd x hx).2.1 (fun g _ hg => hR g ((h.bd x hx).2.2 g hg)), (h.bd x hx).2.2⟩,
    h.yq, h.ya, h.yj, h.yt, h.sep, fun b hb => by rw [World.size_setCell]; exact h.yl b hb, fun b hb => by rw [World.size_setCell]; exact h.rl b hb⟩
/-- A worker's life is set. -/
theorem MX.alive (h : MX w q av jv tv J Y R M) {g n c i : Nat} (hv : av = .slice (some ⟨g, 0, none⟩) n c) (b : Bool) : MX (w.setCell ⟨g, i, none⟩ (.bool b)) q av jv tv J Y R { M with alive := M.alive.set i b } := by
  have hg : av.ownBlock = some g := by rw [hv]; rfl
  have ho := fun b' (hn : b' ≠ g) => Below.heap_setCell w ⟨g, i, none⟩ (.bool b) b' hn
  have hR := fun b (hb : R b) => ho b (fun e => h.sep g (h.ya g hg) (by rw [← e]; exact hb))
  refine ⟨(ho q (kind_ne h.kq (h.ka hg) (by decide))).trans h.blk, ?_, own_same h.jo (fun b hb => ho b (kind_ne (h.kj hb) (h.ka hg) (by decide))), own_same h.tr (fun b hb => ho b (kind_ne (h.kt hb) (h.ka hg) (by decide))), h.js,
    fun x hx => ⟨⟨rvSame (h.bd x hx).1.1 (fun g _ hg => hR g ((h.bd x hx).1.2 g hg)), (h.bd x hx).1.2⟩, rvSame (h.bd x hx).2.1 (fun g _ hg => hR g ((h.bd x hx).2.2 g hg)), (h.bd x hx).2.2⟩,
    h.yq, h.ya, h.yj, h.yt, h.sep, fun b hb => by rw [World.size_setCell]; exact h.yl b hb, fun b hb => by rw [World.size_setCell]; exact h.rl b hb⟩
  show World.ownsRow _ 0 _ 1 av (M.alive.set i b).length ((M.alive.set i b).map Value.bool)
  rw [List.length_set, List.map_set]
  have hr := h.al
  rw [hv] at hr ⊢
  obtain rfl := own_k hr
  exact (hr.stored i (.bool b)).1
/-- A try's cell is set. -/
theorem MX.tryCell (h : MX w q av jv tv J Y R M) {g n c i j : Nat} (hv : tv = .slice (some ⟨g, 0, none⟩) n c) {x x' : Tr} {u : Value} (hx : M.tries[i]? = some x) (hj : j < 5) (hu : x.cells.set j u = x'.cells) : MX (w.setCell ⟨g, i * 5 + j, none⟩ u) q av jv tv J Y R { M with tries := M.tries.set i x' } := by
  have hg : tv.ownBlock = some g := by rw [hv]; rfl
  have ho := fun b' (hn : b' ≠ g) => Below.heap_setCell w ⟨g, i * 5 + j, none⟩ u b' hn
  have hR := fun b (hb : R b) => ho b (fun e => h.sep g (h.yt g hg) (by rw [← e]; exact hb))
  refine ⟨(ho q (kind_ne h.kq (h.kt hg) (by decide))).trans h.blk, own_same h.al (fun b hb => ho b (kind_ne (h.ka hb) (h.kt hg) (by decide))), own_same h.jo (fun b hb => ho b (kind_ne (h.kj hb) (h.kt hg) (by decide))), ?_, h.js,
    fun x hx => ⟨⟨rvSame (h.bd x hx).1.1 (fun g _ hg => hR g ((h.bd x hx).1.2 g hg)), (h.bd x hx).1.2⟩, rvSame (h.bd x hx).2.1 (fun g _ hg => hR g ((h.bd x hx).2.2 g hg)), (h.bd x hx).2.2⟩,
    h.yq, h.ya, h.yj, h.yt, h.sep, fun b hb => by rw [World.size_setCell]; exact h.yl b hb, fun b hb => by rw [World.size_setCell]; exact h.rl b hb⟩
  show World.ownsRow _ 0 _ 5 tv (M.tries.set i x').length (trcells (M.tries.set i x'))
  unfold trcells
  rw [List.length_set, ← flat_set Tr.cells 5 trlen M.tries i j x x' u hx hj hu]
  have hr := h.tr
  rw [hv] at hr ⊢
  obtain rfl := own_k hr
  exact (hr.stored (i * 5 + j) u).1
/-- A job's cell is set. -/
theorem MX.jobCell (h : MX w q av jv tv J Y R M) {g n c i j : Nat} (hv : jv = .slice (some ⟨g, 0, none⟩) n c) {x x' : JV} {u : Value} (hx : J[i]? = some x) (hj : j < 7) (hu : x.cells.set j u = x'.cells)
    (hbd : (Rv w x'.bv x'.j.body.length (x'.j.body.map vB) ∧ ∀ b, x'.bv.ownBlock = some b → R b) ∧ Rv w x'.rv x'.j.reply.length (x'.j.reply.map vB) ∧ ∀ b, x'.rv.ownBlock = some b → R b) : MX (w.setCell ⟨g, i * 7 + j, none⟩ u) q av jv tv (J.set i x') Y R { M with jobs := M.jobs.set i x'.j } := by
  have hg : jv.ownBlock = some g := by rw [hv]; rfl
  have ho := fun b' (hn : b' ≠ g) => Below.heap_setCell w ⟨g, i * 7 + j, none⟩ u b' hn
  have hR := fun b (hb : R b) => ho b (fun e => h.sep g (h.yj g hg) (by rw [← e]; exact hb))
  refine ⟨(ho q (kind_ne h.kq (h.kj hg) (by decide))).trans h.blk, own_same h.al (fun b hb => ho b (kind_ne (h.ka hb) (h.kj hg) (by decide))), ?_, own_same h.tr (fun b hb => ho b (kind_ne (h.kt hb) (h.kj hg) (by decide))), ?_,
    fun y hy => ?_, h.yq, h.ya, h.yj, h.yt, h.sep, fun b hb => by rw [World.size_setCell]; exact h.yl b hb, fun b hb => by rw [World.size_setCell]; exact h.rl b hb⟩
  · unfold jcells
    rw [List.length_set, ← flat_set JV.cells 7 jlen J i j x x' u hx hj hu]
    have hr := h.jo
    rw [hv] at hr ⊢
    obtain rfl := own_k hr
    exact (hr.stored (i * 7 + j) u).1
  · rw [List.map_set, h.js]
  · have key : (Rv w y.bv y.j.body.length (y.j.body.map vB) ∧ ∀ b, y.bv.ownBlock = some b → R b) ∧ Rv w y.rv y.j.reply.length (y.j.reply.map vB) ∧ ∀ b, y.rv.ownBlock = some b → R b := by
      rcases List.mem_or_eq_of_mem_set hy with hy | rfl
      · exact h.bd y hy
      · exact hbd
    exact ⟨⟨rvSame key.1.1 (fun g _ hg => hR g (key.1.2 g hg)), key.1.2⟩, rvSame key.2.1 (fun g _ hg => hR g (key.2.2 g hg)), key.2.2⟩
end
end Go.Proofs.Ytfdacckkdjpjhaa
